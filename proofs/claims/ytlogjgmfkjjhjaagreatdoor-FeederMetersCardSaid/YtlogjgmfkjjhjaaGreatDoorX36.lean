/-
  The contract of the reference's CheckNodes.
-/
import Derived.Test.YtlogjgmfkjjhjaaGreatDoorX32
import Derived.Test.YtlogjgmfkjjhjaaGreatDoorX07
set_option linter.unusedSimpArgs false
set_option linter.unusedVariables false
namespace Go.Proofs.YtlogjgmfkjjhjaaGreatDoor
open Go.RowKit

theorem firstV_app : ∀ (xs ys : List Int), firstV (xs ++ ys) = if firstV xs ≠ 0 then firstV xs else firstV ys
  | [], ys => by simp [firstV]
  | x :: r, ys => by
    by_cases h : x = 0
    · simp only [List.cons_append, firstV, h, ne_eq, not_true_eq_false, if_false]
      exact firstV_app r ys
    · simp [firstV, h]
theorem nodeErr_ref (before : List Nd) (n : Nd) (root zb : Bool) (hr : (before.length == 0) = root) (hz : (n.re == 0 && n.im == 0) = zb) :
    nodeErr before n = if firstV [whenV (!isNameB n.name) 8, whenV (decide (0 ≤ findI before n.name)) 9, whenV (root && !n.parent.toList.isEmpty) 24, whenV (!root && decide (findI before n.parent < 0)) 10, partsV n.re n.im 0 1000] ≠ 0 then firstV [whenV (!isNameB n.name) 8, whenV (decide (0 ≤ findI before n.name)) 9, whenV (root && !n.parent.toList.isEmpty) 24, whenV (!root && decide (findI before n.parent < 0)) 10, partsV n.re n.im 0 1000]
      else firstV [whenV (root && !zb) 1, whenV (!root && zb) 6, withinV n.lim 0 1000000000, partsV n.cre n.cim (-1000) 1000] := by
  unfold nodeErr
  rw [← firstV_app]
  unfold checkE1 checkE2
  rw [hr, hz, isEmpty_str, ← firstV_app]
  rfl

set_option maxRecDepth 100000 in
set_option maxHeartbeats 8000000 in
theorem rCheckNodes_any (l : List Nd) (v : Value) (w : World) (hs : SlAt encN 7 w v l) (hok : ∀ n ∈ l, n.name.size ≤ 9223372036854775807) :
    Calls Tryz.prog 13 #[v] w fun e w' => e = .returned (.int .i64 (checkNodesV l)) ∧ Below w.heap.size w w' := by
  have hs0 := hs
  obtain ⟨A, c, rfl, hc, hm, hr⟩ := hs
  have hlen : l.length ≤ 9223372036854775807 := by omega
  generalize hres : checkNodesV l = res
  by_cases h0 : l.length = 0
  · have hd : ((l.length : Int) == 0) = true := by simpa using h0
    have hd2 : decide ((16 : Int) < (l.length : Int)) = false := by simp; omega
    have hr12 : res = 12 := by rw [← hres, checkNodesV, if_pos h0]
    have HR := Lib.hid hr12
    clear h0 hr hr12 hres
    have hf : firstV [whenV true 12, whenV false 5] = 12 := rfl
    go_enter Tryz.func13, Tryz.ntmps13
    go_wp2_with (first
      | (go_at_call 15; refine (rWhen_any _ _ _).mono ?_; rintro e w1 ⟨rfl, rfl⟩)
      | (go_at_call 14; refine (rFirst_any [_, _] _ _ (slat_new encI_len (by simp) rfl (by simp))).mono ?_; rintro e w1 ⟨rfl, rfl⟩))
    go_ret
    exact ⟨by rw [HR.out]; rfl, by (repeat (first | exact Below.refl _ _ | assumption | refine Below.drew ?_ | refine Below.alloc ?_ (by simp <;> omega) _ | refine Below.alloc ?_ (by simp) _ | refine Below.setCell ?_ (by simp) _))⟩
  · by_cases h16 : 16 < l.length
    · have hd : ((l.length : Int) == 0) = false := by simpa using h0
      have hd2 : decide ((16 : Int) < (l.length : Int)) = true := by simp; omega
      have hf : firstV [whenV false 12, whenV true 5] = 5 := rfl
      have hr12 : res = 5 := by rw [← hres, checkNodesV, if_neg h0, if_pos h16]
      have HR := Lib.hid hr12
      clear h0 hr hr12 hres h16
      go_enter Tryz.func13, Tryz.ntmps13
      go_wp2_with (first
        | (go_at_call 15; refine (rWhen_any _ _ _).mono ?_; rintro e w1 ⟨rfl, rfl⟩)
        | (go_at_call 14; refine (rFirst_any [_, _] _ _ (slat_new encI_len (by simp) rfl (by simp))).mono ?_; rintro e w1 ⟨rfl, rfl⟩))
      go_ret
      exact ⟨by rw [HR.out]; rfl, by (repeat (first | exact Below.refl _ _ | assumption | refine Below.drew ?_ | refine Below.alloc ?_ (by simp <;> omega) _ | refine Below.alloc ?_ (by simp) _ | refine Below.setCell ?_ (by simp) _))⟩
    · have hd : ((l.length : Int) == 0) = false := by simpa using h0
      have hd2 : decide ((16 : Int) < (l.length : Int)) = false := by simp; omega
      have hf : firstV [whenV false 12, whenV false 5] = 0 := rfl
      have hV : res = checkGo (l.take 0) (l.drop 0) := by rw [← hres, checkNodesV, if_neg h0, if_neg h16]; rfl
      have HV := Lib.hid hV
      clear h0 h16 hV hres
      go_enter Tryz.func13, Tryz.ntmps13
      go_wp2_with (first
        | (go_at_call 15; refine (rWhen_any _ _ _).mono ?_; rintro e w1 ⟨rfl, rfl⟩)
        | (go_at_call 14; refine (rFirst_any [_, _] _ _ (slat_new encI_len (by simp) rfl (by simp))).mono ?_; rintro e w1 ⟨rfl, rfl⟩))
      clear hf
      go_loopw [4] (fun i wr => ∃ k : Nat, k ≤ l.length ∧ i = .int .i64 k ∧ Below w.heap.size w wr ∧ Hid (res = checkGo (l.take k) (l.drop k))) (fun i _ => l.length - (intOf i).toNat)
      case atStart => exact ⟨0, Nat.zero_le _, rfl, by (repeat (first | exact Below.refl _ _ | assumption | refine Below.drew ?_ | refine Below.alloc ?_ (by simp <;> omega) _ | refine Below.alloc ?_ (by simp) _ | refine Below.setCell ?_ (by simp) _)), HV⟩
      case round =>
        obtain ⟨k, hk, rfl, hb, hz⟩ := hrel
        clear HV hd hd2
        by_cases hlt : k < l.length
        · have hst := checkGo_step l k hlt
          rw [← hz.out] at hst
          have h1 := hok _ (List.getElem_mem hlt)
          have hs1 : SlAt encN 7 wr (.slice A k c) (l.take k) := (hs0.ext hb).take hk
          have htl : (l.take k).length = k := by simp; omega
          obtain ⟨b, off, rfl, hbl, hcell⟩ := hr (by omega)
          have hx : l[k]? = some l[k] := List.getElem?_eq_getElem hlt
          have hfind := fun (W : World) (s : ByteArray) (hW : Below wr.heap.size wr W) => rFind_any (l.take k) _ s W (hs1.ext hW)
          generalize l[k] = x at hx h1 hst
          obtain ⟨c0, c1, c2, c3, c4, c5, c6⟩ := nodeCells (fun i u hu => ext_cell hb (hcell k x hx i u hu))
          clear hr hcell hx hs0 hok hz hs1
          go_wp2
          have hbr := hb
          generalize hW : World.alloc wr _ = W
          have hbW : Below wr.heap.size wr W := by rw [← hW]; exact ext_alloc _ _
          have cW0 : W.cell? ⟨wr.heap.size, 0, none⟩ = some (.string x.name) := by rw [← hW]; simp [World.cell?_alloc_new]
          have cW1 : W.cell? ⟨wr.heap.size, 1, none⟩ = some (.string x.parent) := by rw [← hW]; simp [World.cell?_alloc_new]
          have cW2 : W.cell? ⟨wr.heap.size, 2, none⟩ = some (.int .i64 x.re) := by rw [← hW]; simp [World.cell?_alloc_new]
          have cW3 : W.cell? ⟨wr.heap.size, 3, none⟩ = some (.int .i64 x.im) := by rw [← hW]; simp [World.cell?_alloc_new]
          have cW4 : W.cell? ⟨wr.heap.size, 4, none⟩ = some (.int .i64 x.lim) := by rw [← hW]; simp [World.cell?_alloc_new]
          have cW5 : W.cell? ⟨wr.heap.size, 5, none⟩ = some (.int .i64 x.cre) := by rw [← hW]; simp [World.cell?_alloc_new]
          have cW6 : W.cell? ⟨wr.heap.size, 6, none⟩ = some (.int .i64 x.cim) := by rw [← hW]; simp [World.cell?_alloc_new]
          clear hW
          cases hre : (x.re == 0) <;> by_cases hk0 : k = 0
          · have hroot : ((k : Int) == 0) = true := by simp; omega
            have hposb : decide (0 < k) = false := by simp; omega
            have hnr := nodeErr_ref (l.take k) x true false (by rw [htl]; simp; omega) (by rw [hre]; rfl)
            rw [hnr] at hst
            have HST := Lib.hid hst
            clear hst hnr htl hk0
            refine wp_region_plan (fun w' => w'.cell? ⟨wr.heap.size, 0, none⟩ = some (.string x.name) ∧ w'.cell? ⟨wr.heap.size, 1, none⟩ = some (.string x.parent) ∧ w'.cell? ⟨wr.heap.size, 2, none⟩ = some (.int .i64 x.re) ∧ w'.cell? ⟨wr.heap.size, 3, none⟩ = some (.int .i64 x.im) ∧ w'.cell? ⟨wr.heap.size, 4, none⟩ = some (.int .i64 x.lim) ∧ w'.cell? ⟨wr.heap.size, 5, none⟩ = some (.int .i64 x.cre) ∧ w'.cell? ⟨wr.heap.size, 6, none⟩ = some (.int .i64 x.cim) ∧ Below wr.heap.size wr w') [2, 8, 10, 18, 27, 30, 33, 34, 35] [0, 1, 3, 4, 5, 6, 7, 11, 12, 19, 20, 31, 32, 2, 8, 9, 10, 13, 14, 15, 16, 17, 18, 21, 22, 23, 24, 25, 26, 27, 28, 29, 30, 33, 34, 35, 36] (by kernel_rfl) (by kernel_rfl) (by ((first | assumption | exact keep7 (by assumption) (by assumption) | exact keep7 (by assumption) (ext_alloc _ _) | exact keep7 (by assumption) (ext_drew _) | exact keep7 ⟨by assumption, by assumption, by assumption, by assumption, by assumption, by assumption, by assumption, by assumption⟩ (ext_drew _) | go_keep))) (fun hSw => ?_)
            repeat (first
              | (refine wpPlan_pas rfl rfl (fun K hK => ?_)
                 apply Exists.intro
                 refine ⟨?_, ?_⟩
                 · first | exact pasOk_no rfl | (apply pasOk_yes rfl; intro wS hS; obtain ⟨s0, s1, s2, s3, s4, s5, s6, s7⟩ := hS; go_simp; first | done | exact rfl | ((try simp only [↓IntWalk.iteOmega]); (try go_bits); (try go_simp); first | done | exact rfl))
                 go_simp
                 refine hK _ ?_
                 clear hK K)
              | (refine wpPlan_no rfl rfl rfl (by assumption) (fun K hK => ?_)
                 go_simp
                 refine hK _ ?_
                 clear hK K)
              | (refine wpPlan_act rfl rfl rfl (fun K hK => ?_)
                 go_wp2_with (first | (go_at_call 76; refine (rCheckName_any _ _ h1).mono ?_; rintro e w1 ⟨rfl, rfl⟩) | (go_at_call 15; refine (rWhen_any _ _ _).mono ?_; rintro e w1 ⟨rfl, rfl⟩) | (go_at_call 16; refine (hfind _ _ (held7 (by assumption))).mono ?_; rintro e w1 ⟨rfl, rfl⟩) | (go_at_call 77; refine (rParts_any _ _ _ _ _).mono ?_; rintro e w1 ⟨rfl, hb1⟩) | (go_at_call 14; refine (rFirst_any [_, _, _, _, _] _ _ (slat_new encI_len (by simp) rfl (by simp))).mono ?_; rintro e w1 ⟨rfl, rfl⟩))
                 refine OnlyK.go (hK _ _ (by ((first | assumption | exact keep7 (by assumption) (by assumption) | exact keep7 (by assumption) (ext_alloc _ _) | exact keep7 (by assumption) (ext_drew _) | exact keep7 ⟨by assumption, by assumption, by assumption, by assumption, by assumption, by assumption, by assumption, by assumption⟩ (ext_drew _) | go_keep))) (fun hSw => ?_))
                 clear hK K))
            refine wpPlan_nil ?_
            clear hfind hbW
            generalize hE : firstV [whenV (!isNameB x.name) 8, whenV (decide (0 ≤ findI (l.take k) x.name)) 9, whenV (true && !x.parent.toList.isEmpty) 24, whenV (!true && decide (findI (l.take k) x.parent < 0)) 10, partsV x.re x.im 0 1000] = e1 at HST
            have hE2 : firstV [whenV (!isNameB x.name) 8, whenV (decide (0 ≤ findI (l.take k) x.name)) 9, whenV (true && !x.parent.toList.isEmpty) 24, whenV (!true && decide (findI (l.take k) x.parent < 0)) 10, partsV x.re x.im 0 1000] = e1 := hE
            simp only [Bool.true_and, Bool.false_and, Bool.not_true, Bool.not_false] at hE2
            rw [hE2]
            clear hE hE2
            obtain ⟨d0, d1, d2, d3, d4, d5, d6, dB⟩ := hSw
            clear cW0 cW1 cW2 cW3 cW4 cW5 cW6
            cases hq : (e1 != 0)
            · obtain rfl : e1 = 0 := by simpa using hq
              clear hq
              go_wp2
              refine wp_region_plan (fun w' => w'.cell? ⟨wr.heap.size, 0, none⟩ = some (.string x.name) ∧ w'.cell? ⟨wr.heap.size, 1, none⟩ = some (.string x.parent) ∧ w'.cell? ⟨wr.heap.size, 2, none⟩ = some (.int .i64 x.re) ∧ w'.cell? ⟨wr.heap.size, 3, none⟩ = some (.int .i64 x.im) ∧ w'.cell? ⟨wr.heap.size, 4, none⟩ = some (.int .i64 x.lim) ∧ w'.cell? ⟨wr.heap.size, 5, none⟩ = some (.int .i64 x.cre) ∧ w'.cell? ⟨wr.heap.size, 6, none⟩ = some (.int .i64 x.cim) ∧ Below wr.heap.size wr w') [6, 12, 15, 18, 19, 20] [0, 1, 2, 3, 4, 5, 7, 8, 13, 14, 16, 17, 6, 9, 10, 11, 12, 15, 18, 19, 20, 21] (by kernel_rfl) (by kernel_rfl) (by ((first | assumption | exact keep7 (by assumption) (by assumption) | exact keep7 (by assumption) (ext_alloc _ _) | exact keep7 (by assumption) (ext_drew _) | exact keep7 ⟨by assumption, by assumption, by assumption, by assumption, by assumption, by assumption, by assumption, by assumption⟩ (ext_drew _) | go_keep))) (fun hSw => ?_)
              repeat (first
                | (refine wpPlan_pas rfl rfl (fun K hK => ?_)
                   apply Exists.intro
                   refine ⟨?_, ?_⟩
                   · first | exact pasOk_no rfl | (apply pasOk_yes rfl; intro wS hS; obtain ⟨s0, s1, s2, s3, s4, s5, s6, s7⟩ := hS; go_simp; first | done | exact rfl | ((try simp only [↓IntWalk.iteOmega]); (try go_bits); (try go_simp); first | done | exact rfl))
                   go_simp
                   refine hK _ ?_
                   clear hK K)
                | (refine wpPlan_no rfl rfl rfl (by assumption) (fun K hK => ?_)
                   go_simp
                   refine hK _ ?_
                   clear hK K)
                | (refine wpPlan_act rfl rfl rfl (fun K hK => ?_)
                   go_wp2_with (first | (go_at_call 15; refine (rWhen_any _ _ _).mono ?_; rintro e w1 ⟨rfl, rfl⟩) | (go_at_call 78; refine (rRange_any _ _ _ _).mono ?_; rintro e w1 ⟨rfl, rfl⟩) | (go_at_call 77; refine (rParts_any _ _ _ _ _).mono ?_; rintro e w1 ⟨rfl, hb1⟩) | (go_at_call 14; refine (rFirst_any [_, _, _, _] _ _ (slat_new encI_len (by simp) rfl (by simp))).mono ?_; rintro e w1 ⟨rfl, rfl⟩))
                   refine OnlyK.go (hK _ _ (by ((first | assumption | exact keep7 (by assumption) (by assumption) | exact keep7 (by assumption) (ext_alloc _ _) | exact keep7 (by assumption) (ext_drew _) | exact keep7 ⟨by assumption, by assumption, by assumption, by assumption, by assumption, by assumption, by assumption, by assumption⟩ (ext_drew _) | go_keep))) (fun hSw => ?_))
                   clear hK K))
              refine wpPlan_nil ?_
              have dB2 := held7 hSw
              clear hSw d0 d1 d2 d3 d4 d5 d6
              generalize hE : firstV [whenV (true && !false) 1, whenV (!true && false) 6, withinV x.lim 0 1000000000, partsV x.cre x.cim (-1000) 1000] = e2 at HST
              have hE2 : firstV [whenV (true && !false) 1, whenV (!true && false) 6, withinV x.lim 0 1000000000, partsV x.cre x.cim (-1000) 1000] = e2 := hE
              simp only [Bool.true_and, Bool.false_and, Bool.not_true, Bool.not_false] at hE2
              rw [hE2]
              clear hE hE2
              clear hroot hposb hre
              cases hq : (e2 != 0)
              · have hst : res = checkGo (l.take (k + 1)) (l.drop (k + 1)) := by rw [HST.out, if_neg (by simpa using hq)]
                have HS2 := Lib.hid hst
                clear hst
                go_wp2
                exact ⟨⟨k + 1, by omega, by go_num, ext_trans hb dB2, HS2⟩, by simp [intOf]; omega⟩
              · have hst : res = e2 := by rw [HST.out]; simp only [ne_eq, not_true_eq_false, if_false]; rw [if_pos (by simpa using hq)]
                have HS2 := Lib.hid hst
                clear hst
                go_wp2
                go_ret
                exact ⟨by rw [HS2.out]; rfl, ext_trans hb dB2⟩
            · have hst : res = e1 := by rw [HST.out, if_pos (by rw [if_pos (by simpa using hq)]; simpa using hq), if_pos (by simpa using hq)]
              have HS2 := Lib.hid hst
              clear hst
              go_wp2
              go_ret
              exact ⟨by rw [HS2.out]; rfl, ext_trans hb dB⟩
          · have hroot : ((k : Int) == 0) = false := by simp; omega
            have hposb : decide (0 < k) = true := by simp; omega
            have hnr := nodeErr_ref (l.take k) x false false (by rw [htl]; simp; omega) (by rw [hre]; rfl)
            rw [hnr] at hst
            have HST := Lib.hid hst
            clear hst hnr htl hk0
            refine wp_region_plan (fun w' => w'.cell? ⟨wr.heap.size, 0, none⟩ = some (.string x.name) ∧ w'.cell? ⟨wr.heap.size, 1, none⟩ = some (.string x.parent) ∧ w'.cell? ⟨wr.heap.size, 2, none⟩ = some (.int .i64 x.re) ∧ w'.cell? ⟨wr.heap.size, 3, none⟩ = some (.int .i64 x.im) ∧ w'.cell? ⟨wr.heap.size, 4, none⟩ = some (.int .i64 x.lim) ∧ w'.cell? ⟨wr.heap.size, 5, none⟩ = some (.int .i64 x.cre) ∧ w'.cell? ⟨wr.heap.size, 6, none⟩ = some (.int .i64 x.cim) ∧ Below wr.heap.size wr w') [2, 8, 10, 18, 27, 30, 33, 34, 35] [0, 1, 3, 4, 5, 6, 7, 11, 12, 19, 20, 31, 32, 2, 8, 9, 10, 13, 14, 15, 16, 17, 18, 21, 22, 23, 24, 25, 26, 27, 28, 29, 30, 33, 34, 35, 36] (by kernel_rfl) (by kernel_rfl) (by ((first | assumption | exact keep7 (by assumption) (by assumption) | exact keep7 (by assumption) (ext_alloc _ _) | exact keep7 (by assumption) (ext_drew _) | exact keep7 ⟨by assumption, by assumption, by assumption, by assumption, by assumption, by assumption, by assumption, by assumption⟩ (ext_drew _) | go_keep))) (fun hSw => ?_)
            repeat (first
              | (refine wpPlan_pas rfl rfl (fun K hK => ?_)
                 apply Exists.intro
                 refine ⟨?_, ?_⟩
                 · first | exact pasOk_no rfl | (apply pasOk_yes rfl; intro wS hS; obtain ⟨s0, s1, s2, s3, s4, s5, s6, s7⟩ := hS; go_simp; first | done | exact rfl | ((try simp only [↓IntWalk.iteOmega]); (try go_bits); (try go_simp); first | done | exact rfl))
                 go_simp
                 refine hK _ ?_
                 clear hK K)
              | (refine wpPlan_no rfl rfl rfl (by assumption) (fun K hK => ?_)
                 go_simp
                 refine hK _ ?_
                 clear hK K)
              | (refine wpPlan_act rfl rfl rfl (fun K hK => ?_)
                 go_wp2_with (first | (go_at_call 76; refine (rCheckName_any _ _ h1).mono ?_; rintro e w1 ⟨rfl, rfl⟩) | (go_at_call 15; refine (rWhen_any _ _ _).mono ?_; rintro e w1 ⟨rfl, rfl⟩) | (go_at_call 16; refine (hfind _ _ (held7 (by assumption))).mono ?_; rintro e w1 ⟨rfl, rfl⟩) | (go_at_call 77; refine (rParts_any _ _ _ _ _).mono ?_; rintro e w1 ⟨rfl, hb1⟩) | (go_at_call 14; refine (rFirst_any [_, _, _, _, _] _ _ (slat_new encI_len (by simp) rfl (by simp))).mono ?_; rintro e w1 ⟨rfl, rfl⟩))
                 refine OnlyK.go (hK _ _ (by ((first | assumption | exact keep7 (by assumption) (by assumption) | exact keep7 (by assumption) (ext_alloc _ _) | exact keep7 (by assumption) (ext_drew _) | exact keep7 ⟨by assumption, by assumption, by assumption, by assumption, by assumption, by assumption, by assumption, by assumption⟩ (ext_drew _) | go_keep))) (fun hSw => ?_))
                 clear hK K))
            refine wpPlan_nil ?_
            clear hfind hbW
            generalize hE : firstV [whenV (!isNameB x.name) 8, whenV (decide (0 ≤ findI (l.take k) x.name)) 9, whenV (false && !x.parent.toList.isEmpty) 24, whenV (!false && decide (findI (l.take k) x.parent < 0)) 10, partsV x.re x.im 0 1000] = e1 at HST
            have hE2 : firstV [whenV (!isNameB x.name) 8, whenV (decide (0 ≤ findI (l.take k) x.name)) 9, whenV (false && !x.parent.toList.isEmpty) 24, whenV (!false && decide (findI (l.take k) x.parent < 0)) 10, partsV x.re x.im 0 1000] = e1 := hE
            simp only [Bool.true_and, Bool.false_and, Bool.not_true, Bool.not_false] at hE2
            rw [hE2]
            clear hE hE2
            obtain ⟨d0, d1, d2, d3, d4, d5, d6, dB⟩ := hSw
            clear cW0 cW1 cW2 cW3 cW4 cW5 cW6
            cases hq : (e1 != 0)
            · obtain rfl : e1 = 0 := by simpa using hq
              clear hq
              go_wp2
              refine wp_region_plan (fun w' => w'.cell? ⟨wr.heap.size, 0, none⟩ = some (.string x.name) ∧ w'.cell? ⟨wr.heap.size, 1, none⟩ = some (.string x.parent) ∧ w'.cell? ⟨wr.heap.size, 2, none⟩ = some (.int .i64 x.re) ∧ w'.cell? ⟨wr.heap.size, 3, none⟩ = some (.int .i64 x.im) ∧ w'.cell? ⟨wr.heap.size, 4, none⟩ = some (.int .i64 x.lim) ∧ w'.cell? ⟨wr.heap.size, 5, none⟩ = some (.int .i64 x.cre) ∧ w'.cell? ⟨wr.heap.size, 6, none⟩ = some (.int .i64 x.cim) ∧ Below wr.heap.size wr w') [6, 12, 15, 18, 19, 20] [0, 1, 2, 3, 4, 5, 7, 8, 13, 14, 16, 17, 6, 9, 10, 11, 12, 15, 18, 19, 20, 21] (by kernel_rfl) (by kernel_rfl) (by ((first | assumption | exact keep7 (by assumption) (by assumption) | exact keep7 (by assumption) (ext_alloc _ _) | exact keep7 (by assumption) (ext_drew _) | exact keep7 ⟨by assumption, by assumption, by assumption, by assumption, by assumption, by assumption, by assumption, by assumption⟩ (ext_drew _) | go_keep))) (fun hSw => ?_)
              repeat (first
                | (refine wpPlan_pas rfl rfl (fun K hK => ?_)
                   apply Exists.intro
                   refine ⟨?_, ?_⟩
                   · first | exact pasOk_no rfl | (apply pasOk_yes rfl; intro wS hS; obtain ⟨s0, s1, s2, s3, s4, s5, s6, s7⟩ := hS; go_simp; first | done | exact rfl | ((try simp only [↓IntWalk.iteOmega]); (try go_bits); (try go_simp); first | done | exact rfl))
                   go_simp
                   refine hK _ ?_
                   clear hK K)
                | (refine wpPlan_no rfl rfl rfl (by assumption) (fun K hK => ?_)
                   go_simp
                   refine hK _ ?_
                   clear hK K)
                | (refine wpPlan_act rfl rfl rfl (fun K hK => ?_)
                   go_wp2_with (first | (go_at_call 15; refine (rWhen_any _ _ _).mono ?_; rintro e w1 ⟨rfl, rfl⟩) | (go_at_call 78; refine (rRange_any _ _ _ _).mono ?_; rintro e w1 ⟨rfl, rfl⟩) | (go_at_call 77; refine (rParts_any _ _ _ _ _).mono ?_; rintro e w1 ⟨rfl, hb1⟩) | (go_at_call 14; refine (rFirst_any [_, _, _, _] _ _ (slat_new encI_len (by simp) rfl (by simp))).mono ?_; rintro e w1 ⟨rfl, rfl⟩))
                   refine OnlyK.go (hK _ _ (by ((first | assumption | exact keep7 (by assumption) (by assumption) | exact keep7 (by assumption) (ext_alloc _ _) | exact keep7 (by assumption) (ext_drew _) | exact keep7 ⟨by assumption, by assumption, by assumption, by assumption, by assumption, by assumption, by assumption, by assumption⟩ (ext_drew _) | go_keep))) (fun hSw => ?_))
                   clear hK K))
              refine wpPlan_nil ?_
              have dB2 := held7 hSw
              clear hSw d0 d1 d2 d3 d4 d5 d6
              generalize hE : firstV [whenV (false && !false) 1, whenV (!false && false) 6, withinV x.lim 0 1000000000, partsV x.cre x.cim (-1000) 1000] = e2 at HST
              have hE2 : firstV [whenV (false && !false) 1, whenV (!false && false) 6, withinV x.lim 0 1000000000, partsV x.cre x.cim (-1000) 1000] = e2 := hE
              simp only [Bool.true_and, Bool.false_and, Bool.not_true, Bool.not_false] at hE2
              rw [hE2]
              clear hE hE2
              clear hroot hposb hre
              cases hq : (e2 != 0)
              · have hst : res = checkGo (l.take (k + 1)) (l.drop (k + 1)) := by rw [HST.out, if_neg (by simpa using hq)]
                have HS2 := Lib.hid hst
                clear hst
                go_wp2
                exact ⟨⟨k + 1, by omega, by go_num, ext_trans hb dB2, HS2⟩, by simp [intOf]; omega⟩
              · have hst : res = e2 := by rw [HST.out]; simp only [ne_eq, not_true_eq_false, if_false]; rw [if_pos (by simpa using hq)]
                have HS2 := Lib.hid hst
                clear hst
                go_wp2
                go_ret
                exact ⟨by rw [HS2.out]; rfl, ext_trans hb dB2⟩
            · have hst : res = e1 := by rw [HST.out, if_pos (by rw [if_pos (by simpa using hq)]; simpa using hq), if_pos (by simpa using hq)]
              have HS2 := Lib.hid hst
              clear hst
              go_wp2
              go_ret
              exact ⟨by rw [HS2.out]; rfl, ext_trans hb dB⟩
          · have hroot : ((k : Int) == 0) = true := by simp; omega
            have hposb : decide (0 < k) = false := by simp; omega
            have hnr := nodeErr_ref (l.take k) x true (x.im == 0) (by rw [htl]; simp; omega) (by rw [hre]; rfl)
            rw [hnr] at hst
            have HST := Lib.hid hst
            clear hst hnr htl hk0
            refine wp_region_plan (fun w' => w'.cell? ⟨wr.heap.size, 0, none⟩ = some (.string x.name) ∧ w'.cell? ⟨wr.heap.size, 1, none⟩ = some (.string x.parent) ∧ w'.cell? ⟨wr.heap.size, 2, none⟩ = some (.int .i64 x.re) ∧ w'.cell? ⟨wr.heap.size, 3, none⟩ = some (.int .i64 x.im) ∧ w'.cell? ⟨wr.heap.size, 4, none⟩ = some (.int .i64 x.lim) ∧ w'.cell? ⟨wr.heap.size, 5, none⟩ = some (.int .i64 x.cre) ∧ w'.cell? ⟨wr.heap.size, 6, none⟩ = some (.int .i64 x.cim) ∧ Below wr.heap.size wr w') [2, 8, 10, 18, 27, 30, 33, 34, 35] [0, 1, 3, 4, 5, 6, 7, 11, 12, 19, 20, 31, 32, 2, 8, 9, 10, 13, 14, 15, 16, 17, 18, 21, 22, 23, 24, 25, 26, 27, 28, 29, 30, 33, 34, 35, 36] (by kernel_rfl) (by kernel_rfl) (by ((first | assumption | exact keep7 (by assumption) (by assumption) | exact keep7 (by assumption) (ext_alloc _ _) | exact keep7 (by assumption) (ext_drew _) | exact keep7 ⟨by assumption, by assumption, by assumption, by assumption, by assumption, by assumption, by assumption, by assumption⟩ (ext_drew _) | go_keep))) (fun hSw => ?_)
            repeat (first
              | (refine wpPlan_pas rfl rfl (fun K hK => ?_)
                 apply Exists.intro
                 refine ⟨?_, ?_⟩
                 · first | exact pasOk_no rfl | (apply pasOk_yes rfl; intro wS hS; obtain ⟨s0, s1, s2, s3, s4, s5, s6, s7⟩ := hS; go_simp; first | done | exact rfl | ((try simp only [↓IntWalk.iteOmega]); (try go_bits); (try go_simp); first | done | exact rfl))
                 go_simp
                 refine hK _ ?_
                 clear hK K)
              | (refine wpPlan_no rfl rfl rfl (by assumption) (fun K hK => ?_)
                 go_simp
                 refine hK _ ?_
                 clear hK K)
              | (refine wpPlan_act rfl rfl rfl (fun K hK => ?_)
                 go_wp2_with (first | (go_at_call 76; refine (rCheckName_any _ _ h1).mono ?_; rintro e w1 ⟨rfl, rfl⟩) | (go_at_call 15; refine (rWhen_any _ _ _).mono ?_; rintro e w1 ⟨rfl, rfl⟩) | (go_at_call 16; refine (hfind _ _ (held7 (by assumption))).mono ?_; rintro e w1 ⟨rfl, rfl⟩) | (go_at_call 77; refine (rParts_any _ _ _ _ _).mono ?_; rintro e w1 ⟨rfl, hb1⟩) | (go_at_call 14; refine (rFirst_any [_, _, _, _, _] _ _ (slat_new encI_len (by simp) rfl (by simp))).mono ?_; rintro e w1 ⟨rfl, rfl⟩))
                 refine OnlyK.go (hK _ _ (by ((first | assumption | exact keep7 (by assumption) (by assumption) | exact keep7 (by assumption) (ext_alloc _ _) | exact keep7 (by assumption) (ext_drew _) | exact keep7 ⟨by assumption, by assumption, by assumption, by assumption, by assumption, by assumption, by assumption, by assumption⟩ (ext_drew _) | go_keep))) (fun hSw => ?_))
                 clear hK K))
            refine wpPlan_nil ?_
            clear hfind hbW
            generalize hE : firstV [whenV (!isNameB x.name) 8, whenV (decide (0 ≤ findI (l.take k) x.name)) 9, whenV (true && !x.parent.toList.isEmpty) 24, whenV (!true && decide (findI (l.take k) x.parent < 0)) 10, partsV x.re x.im 0 1000] = e1 at HST
            have hE2 : firstV [whenV (!isNameB x.name) 8, whenV (decide (0 ≤ findI (l.take k) x.name)) 9, whenV (true && !x.parent.toList.isEmpty) 24, whenV (!true && decide (findI (l.take k) x.parent < 0)) 10, partsV x.re x.im 0 1000] = e1 := hE
            simp only [Bool.true_and, Bool.false_and, Bool.not_true, Bool.not_false] at hE2
            rw [hE2]
            clear hE hE2
            obtain ⟨d0, d1, d2, d3, d4, d5, d6, dB⟩ := hSw
            clear cW0 cW1 cW2 cW3 cW4 cW5 cW6
            cases hq : (e1 != 0)
            · obtain rfl : e1 = 0 := by simpa using hq
              clear hq
              go_wp2
              refine wp_region_plan (fun w' => w'.cell? ⟨wr.heap.size, 0, none⟩ = some (.string x.name) ∧ w'.cell? ⟨wr.heap.size, 1, none⟩ = some (.string x.parent) ∧ w'.cell? ⟨wr.heap.size, 2, none⟩ = some (.int .i64 x.re) ∧ w'.cell? ⟨wr.heap.size, 3, none⟩ = some (.int .i64 x.im) ∧ w'.cell? ⟨wr.heap.size, 4, none⟩ = some (.int .i64 x.lim) ∧ w'.cell? ⟨wr.heap.size, 5, none⟩ = some (.int .i64 x.cre) ∧ w'.cell? ⟨wr.heap.size, 6, none⟩ = some (.int .i64 x.cim) ∧ Below wr.heap.size wr w') [6, 12, 15, 18, 19, 20] [0, 1, 2, 3, 4, 5, 7, 8, 13, 14, 16, 17, 6, 9, 10, 11, 12, 15, 18, 19, 20, 21] (by kernel_rfl) (by kernel_rfl) (by ((first | assumption | exact keep7 (by assumption) (by assumption) | exact keep7 (by assumption) (ext_alloc _ _) | exact keep7 (by assumption) (ext_drew _) | exact keep7 ⟨by assumption, by assumption, by assumption, by assumption, by assumption, by assumption, by assumption, by assumption⟩ (ext_drew _) | go_keep))) (fun hSw => ?_)
              repeat (first
                | (refine wpPlan_pas rfl rfl (fun K hK => ?_)
                   apply Exists.intro
                   refine ⟨?_, ?_⟩
                   · first | exact pasOk_no rfl | (apply pasOk_yes rfl; intro wS hS; obtain ⟨s0, s1, s2, s3, s4, s5, s6, s7⟩ := hS; go_simp; first | done | exact rfl | ((try simp only [↓IntWalk.iteOmega]); (try go_bits); (try go_simp); first | done | exact rfl))
                   go_simp
                   refine hK _ ?_
                   clear hK K)
                | (refine wpPlan_no rfl rfl rfl (by assumption) (fun K hK => ?_)
                   go_simp
                   refine hK _ ?_
                   clear hK K)
                | (refine wpPlan_act rfl rfl rfl (fun K hK => ?_)
                   go_wp2_with (first | (go_at_call 15; refine (rWhen_any _ _ _).mono ?_; rintro e w1 ⟨rfl, rfl⟩) | (go_at_call 78; refine (rRange_any _ _ _ _).mono ?_; rintro e w1 ⟨rfl, rfl⟩) | (go_at_call 77; refine (rParts_any _ _ _ _ _).mono ?_; rintro e w1 ⟨rfl, hb1⟩) | (go_at_call 14; refine (rFirst_any [_, _, _, _] _ _ (slat_new encI_len (by simp) rfl (by simp))).mono ?_; rintro e w1 ⟨rfl, rfl⟩))
                   refine OnlyK.go (hK _ _ (by ((first | assumption | exact keep7 (by assumption) (by assumption) | exact keep7 (by assumption) (ext_alloc _ _) | exact keep7 (by assumption) (ext_drew _) | exact keep7 ⟨by assumption, by assumption, by assumption, by assumption, by assumption, by assumption, by assumption, by assumption⟩ (ext_drew _) | go_keep))) (fun hSw => ?_))
                   clear hK K))
              refine wpPlan_nil ?_
              have dB2 := held7 hSw
              clear hSw d0 d1 d2 d3 d4 d5 d6
              generalize hE : firstV [whenV (true && !(x.im == 0)) 1, whenV (!true && (x.im == 0)) 6, withinV x.lim 0 1000000000, partsV x.cre x.cim (-1000) 1000] = e2 at HST
              have hE2 : firstV [whenV (true && !(x.im == 0)) 1, whenV (!true && (x.im == 0)) 6, withinV x.lim 0 1000000000, partsV x.cre x.cim (-1000) 1000] = e2 := hE
              simp only [Bool.true_and, Bool.false_and, Bool.not_true, Bool.not_false] at hE2
              rw [hE2]
              clear hE hE2
              clear hroot hposb hre
              cases hq : (e2 != 0)
              · have hst : res = checkGo (l.take (k + 1)) (l.drop (k + 1)) := by rw [HST.out, if_neg (by simpa using hq)]
                have HS2 := Lib.hid hst
                clear hst
                go_wp2
                exact ⟨⟨k + 1, by omega, by go_num, ext_trans hb dB2, HS2⟩, by simp [intOf]; omega⟩
              · have hst : res = e2 := by rw [HST.out]; simp only [ne_eq, not_true_eq_false, if_false]; rw [if_pos (by simpa using hq)]
                have HS2 := Lib.hid hst
                clear hst
                go_wp2
                go_ret
                exact ⟨by rw [HS2.out]; rfl, ext_trans hb dB2⟩
            · have hst : res = e1 := by rw [HST.out, if_pos (by rw [if_pos (by simpa using hq)]; simpa using hq), if_pos (by simpa using hq)]
              have HS2 := Lib.hid hst
              clear hst
              go_wp2
              go_ret
              exact ⟨by rw [HS2.out]; rfl, ext_trans hb dB⟩
          · have hroot : ((k : Int) == 0) = false := by simp; omega
            have hposb : decide (0 < k) = true := by simp; omega
            have hnr := nodeErr_ref (l.take k) x false (x.im == 0) (by rw [htl]; simp; omega) (by rw [hre]; rfl)
            rw [hnr] at hst
            have HST := Lib.hid hst
            clear hst hnr htl hk0
            refine wp_region_plan (fun w' => w'.cell? ⟨wr.heap.size, 0, none⟩ = some (.string x.name) ∧ w'.cell? ⟨wr.heap.size, 1, none⟩ = some (.string x.parent) ∧ w'.cell? ⟨wr.heap.size, 2, none⟩ = some (.int .i64 x.re) ∧ w'.cell? ⟨wr.heap.size, 3, none⟩ = some (.int .i64 x.im) ∧ w'.cell? ⟨wr.heap.size, 4, none⟩ = some (.int .i64 x.lim) ∧ w'.cell? ⟨wr.heap.size, 5, none⟩ = some (.int .i64 x.cre) ∧ w'.cell? ⟨wr.heap.size, 6, none⟩ = some (.int .i64 x.cim) ∧ Below wr.heap.size wr w') [2, 8, 10, 18, 27, 30, 33, 34, 35] [0, 1, 3, 4, 5, 6, 7, 11, 12, 19, 20, 31, 32, 2, 8, 9, 10, 13, 14, 15, 16, 17, 18, 21, 22, 23, 24, 25, 26, 27, 28, 29, 30, 33, 34, 35, 36] (by kernel_rfl) (by kernel_rfl) (by ((first | assumption | exact keep7 (by assumption) (by assumption) | exact keep7 (by assumption) (ext_alloc _ _) | exact keep7 (by assumption) (ext_drew _) | exact keep7 ⟨by assumption, by assumption, by assumption, by assumption, by assumption, by assumption, by assumption, by assumption⟩ (ext_drew _) | go_keep))) (fun hSw => ?_)
            repeat (first
              | (refine wpPlan_pas rfl rfl (fun K hK => ?_)
                 apply Exists.intro
                 refine ⟨?_, ?_⟩
                 · first | exact pasOk_no rfl | (apply pasOk_yes rfl; intro wS hS; obtain ⟨s0, s1, s2, s3, s4, s5, s6, s7⟩ := hS; go_simp; first | done | exact rfl | ((try simp only [↓IntWalk.iteOmega]); (try go_bits); (try go_simp); first | done | exact rfl))
                 go_simp
                 refine hK _ ?_
                 clear hK K)
              | (refine wpPlan_no rfl rfl rfl (by assumption) (fun K hK => ?_)
                 go_simp
                 refine hK _ ?_
                 clear hK K)
              | (refine wpPlan_act rfl rfl rfl (fun K hK => ?_)
                 go_wp2_with (first | (go_at_call 76; refine (rCheckName_any _ _ h1).mono ?_; rintro e w1 ⟨rfl, rfl⟩) | (go_at_call 15; refine (rWhen_any _ _ _).mono ?_; rintro e w1 ⟨rfl, rfl⟩) | (go_at_call 16; refine (hfind _ _ (held7 (by assumption))).mono ?_; rintro e w1 ⟨rfl, rfl⟩) | (go_at_call 77; refine (rParts_any _ _ _ _ _).mono ?_; rintro e w1 ⟨rfl, hb1⟩) | (go_at_call 14; refine (rFirst_any [_, _, _, _, _] _ _ (slat_new encI_len (by simp) rfl (by simp))).mono ?_; rintro e w1 ⟨rfl, rfl⟩))
                 refine OnlyK.go (hK _ _ (by ((first | assumption | exact keep7 (by assumption) (by assumption) | exact keep7 (by assumption) (ext_alloc _ _) | exact keep7 (by assumption) (ext_drew _) | exact keep7 ⟨by assumption, by assumption, by assumption, by assumption, by assumption, by assumption, by assumption, by assumption⟩ (ext_drew _) | go_keep))) (fun hSw => ?_))
                 clear hK K))
            refine wpPlan_nil ?_
            clear hfind hbW
            generalize hE : firstV [whenV (!isNameB x.name) 8, whenV (decide (0 ≤ findI (l.take k) x.name)) 9, whenV (false && !x.parent.toList.isEmpty) 24, whenV (!false && decide (findI (l.take k) x.parent < 0)) 10, partsV x.re x.im 0 1000] = e1 at HST
            have hE2 : firstV [whenV (!isNameB x.name) 8, whenV (decide (0 ≤ findI (l.take k) x.name)) 9, whenV (false && !x.parent.toList.isEmpty) 24, whenV (!false && decide (findI (l.take k) x.parent < 0)) 10, partsV x.re x.im 0 1000] = e1 := hE
            simp only [Bool.true_and, Bool.false_and, Bool.not_true, Bool.not_false] at hE2
            rw [hE2]
            clear hE hE2
            obtain ⟨d0, d1, d2, d3, d4, d5, d6, dB⟩ := hSw
            clear cW0 cW1 cW2 cW3 cW4 cW5 cW6
            cases hq : (e1 != 0)
            · obtain rfl : e1 = 0 := by simpa using hq
              clear hq
              go_wp2
              refine wp_region_plan (fun w' => w'.cell? ⟨wr.heap.size, 0, none⟩ = some (.string x.name) ∧ w'.cell? ⟨wr.heap.size, 1, none⟩ = some (.string x.parent) ∧ w'.cell? ⟨wr.heap.size, 2, none⟩ = some (.int .i64 x.re) ∧ w'.cell? ⟨wr.heap.size, 3, none⟩ = some (.int .i64 x.im) ∧ w'.cell? ⟨wr.heap.size, 4, none⟩ = some (.int .i64 x.lim) ∧ w'.cell? ⟨wr.heap.size, 5, none⟩ = some (.int .i64 x.cre) ∧ w'.cell? ⟨wr.heap.size, 6, none⟩ = some (.int .i64 x.cim) ∧ Below wr.heap.size wr w') [6, 12, 15, 18, 19, 20] [0, 1, 2, 3, 4, 5, 7, 8, 13, 14, 16, 17, 6, 9, 10, 11, 12, 15, 18, 19, 20, 21] (by kernel_rfl) (by kernel_rfl) (by ((first | assumption | exact keep7 (by assumption) (by assumption) | exact keep7 (by assumption) (ext_alloc _ _) | exact keep7 (by assumption) (ext_drew _) | exact keep7 ⟨by assumption, by assumption, by assumption, by assumption, by assumption, by assumption, by assumption, by assumption⟩ (ext_drew _) | go_keep))) (fun hSw => ?_)
              repeat (first
                | (refine wpPlan_pas rfl rfl (fun K hK => ?_)
                   apply Exists.intro
                   refine ⟨?_, ?_⟩
                   · first | exact pasOk_no rfl | (apply pasOk_yes rfl; intro wS hS; obtain ⟨s0, s1, s2, s3, s4, s5, s6, s7⟩ := hS; go_simp; first | done | exact rfl | ((try simp only [↓IntWalk.iteOmega]); (try go_bits); (try go_simp); first | done | exact rfl))
                   go_simp
                   refine hK _ ?_
                   clear hK K)
                | (refine wpPlan_no rfl rfl rfl (by assumption) (fun K hK => ?_)
                   go_simp
                   refine hK _ ?_
                   clear hK K)
                | (refine wpPlan_act rfl rfl rfl (fun K hK => ?_)
                   go_wp2_with (first | (go_at_call 15; refine (rWhen_any _ _ _).mono ?_; rintro e w1 ⟨rfl, rfl⟩) | (go_at_call 78; refine (rRange_any _ _ _ _).mono ?_; rintro e w1 ⟨rfl, rfl⟩) | (go_at_call 77; refine (rParts_any _ _ _ _ _).mono ?_; rintro e w1 ⟨rfl, hb1⟩) | (go_at_call 14; refine (rFirst_any [_, _, _, _] _ _ (slat_new encI_len (by simp) rfl (by simp))).mono ?_; rintro e w1 ⟨rfl, rfl⟩))
                   refine OnlyK.go (hK _ _ (by ((first | assumption | exact keep7 (by assumption) (by assumption) | exact keep7 (by assumption) (ext_alloc _ _) | exact keep7 (by assumption) (ext_drew _) | exact keep7 ⟨by assumption, by assumption, by assumption, by assumption, by assumption, by assumption, by assumption, by assumption⟩ (ext_drew _) | go_keep))) (fun hSw => ?_))
                   clear hK K))
              refine wpPlan_nil ?_
              have dB2 := held7 hSw
              clear hSw d0 d1 d2 d3 d4 d5 d6
              generalize hE : firstV [whenV (false && !(x.im == 0)) 1, whenV (!false && (x.im == 0)) 6, withinV x.lim 0 1000000000, partsV x.cre x.cim (-1000) 1000] = e2 at HST
              have hE2 : firstV [whenV (false && !(x.im == 0)) 1, whenV (!false && (x.im == 0)) 6, withinV x.lim 0 1000000000, partsV x.cre x.cim (-1000) 1000] = e2 := hE
              simp only [Bool.true_and, Bool.false_and, Bool.not_true, Bool.not_false] at hE2
              rw [hE2]
              clear hE hE2
              clear hroot hposb hre
              cases hq : (e2 != 0)
              · have hst : res = checkGo (l.take (k + 1)) (l.drop (k + 1)) := by rw [HST.out, if_neg (by simpa using hq)]
                have HS2 := Lib.hid hst
                clear hst
                go_wp2
                exact ⟨⟨k + 1, by omega, by go_num, ext_trans hb dB2, HS2⟩, by simp [intOf]; omega⟩
              · have hst : res = e2 := by rw [HST.out]; simp only [ne_eq, not_true_eq_false, if_false]; rw [if_pos (by simpa using hq)]
                have HS2 := Lib.hid hst
                clear hst
                go_wp2
                go_ret
                exact ⟨by rw [HS2.out]; rfl, ext_trans hb dB2⟩
            · have hst : res = e1 := by rw [HST.out, if_pos (by rw [if_pos (by simpa using hq)]; simpa using hq), if_pos (by simpa using hq)]
              have HS2 := Lib.hid hst
              clear hst
              go_wp2
              go_ret
              exact ⟨by rw [HS2.out]; rfl, ext_trans hb dB⟩
        · have hst : res = 0 := by rw [hz.out, List.drop_of_length_le (by omega)]; rfl
          have HS2 := Lib.hid hst
          clear hst
          go_wp2
          go_ret
          exact ⟨by rw [HS2.out]; rfl, hb⟩
end Go.Proofs.YtlogjgmfkjjhjaaGreatDoor
