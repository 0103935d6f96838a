/-
  Relay.checkPoints.
-/
import Derived.Test.YtlogjgmfkjjhjaaGreatDoorX11
set_option linter.unusedSimpArgs false
set_option linter.unusedVariables false
namespace Go.Proofs.YtlogjgmfkjjhjaaGreatDoor
open Go.RowKit

def ptErr (last p : Int × Int) : Int := firstV [withinV p.1 0 100000000, withinV p.2 0 100000, whenV (decide (p.1 ≤ last.1) || decide (last.2 < p.2)) 11]
def ptsGo : Int × Int → List (Int × Int) → Int
  | _, [] => 0
  | last, p :: r => if ptErr last p ≠ 0 then ptErr last p else ptsGo p r
def ptsE (n : Nat) : Int := firstV [whenV (decide (n = 0)) 12, whenV (decide (8 < n)) 5]
def ptsErr (pts : List (Int × Int)) : Int := if ptsE pts.length ≠ 0 then ptsE pts.length else ptsGo (-1, 100000) pts
/-- the point ahead of place k -/
def lastP (pts : List (Int × Int)) (k : Nat) : Int × Int := if k = 0 then (-1, 100000) else pts.getD (k - 1) (0, 0)
theorem ptsGo_step (pts : List (Int × Int)) (k : Nat) (hk : k < pts.length) : ptsGo (lastP pts k) (pts.drop k) = if ptErr (lastP pts k) pts[k] ≠ 0 then ptErr (lastP pts k) pts[k] else ptsGo (lastP pts (k + 1)) (pts.drop (k + 1)) := by
  rw [List.drop_eq_getElem_cons hk, ptsGo]
  have : lastP pts (k + 1) = pts[k] := by simp [lastP, hk]
  rw [this]
theorem sizePt : (Tryz.prog.info? 170).map (·.size) = some 2 := by kernel_rfl

set_option maxHeartbeats 4000000 in
theorem checkPoints_any (r : Rl) (w : World) (hs : SlAt encG 2 w r.pv r.pts) :
    Calls Tryz.prog 99 #[.agg (encR r).toArray] w fun e w' => e = .returned (.int .i64 (ptsErr r.pts)) ∧ Below w.heap.size w w' := by
  unfold encR
  generalize r.pv = pv at hs ⊢
  generalize r.pts = pts at hs ⊢
  generalize r.name = rn
  generalize r.node = rd
  have hsw := hs
  obtain ⟨A, c, rfl, hc1, hc2, hr⟩ := hs
  have hlen : pts.length ≤ 9223372036854775807 := by omega
  by_cases h0 : pts.length = 0
  · have hd : ((pts.length : Int) == 0) = true := by simpa using h0
    have hd2 : decide ((8 : Int) < (pts.length : Int)) = false := by simp; omega
    have hV : ptsErr pts = firstV [whenV true 12, whenV false 5] := by simp [ptsErr, ptsE, h0, firstV, whenV]
    rw [hV]
    have hne : (firstV [whenV true 12, whenV false 5] != 0) = true := rfl
    clear h0 hr hV
    go_enter Tryz.func99, Tryz.ntmps99
    go_wp2
    generalize hW : World.alloc w _ = W
    have hbW : Below w.heap.size w W := by rw [← hW]; exact ext_alloc _ _
    have cW2 : W.cell? ⟨w.heap.size, 2, none⟩ = some (.slice A pts.length c) := by rw [← hW]; simp [World.cell?_alloc_new]
    clear hW
    have dB0 : Below W.heap.size W W := Below.refl _ _
    refine wp_region_plan (fun w' => w'.cell? ⟨w.heap.size, 2, none⟩ = some (.slice A pts.length c) ∧ Below W.heap.size W w') [4, 9, 10, 11] [0, 1, 2, 3, 5, 6, 7, 8, 4, 9, 10, 11, 12] (by kernel_rfl) (by kernel_rfl) (by ((first | assumption | exact keep1 (by assumption) (by assumption) | exact keep1 (by assumption) (ext_alloc _ _) | exact keep1 (by assumption) (ext_drew _) | exact keep1 ⟨by assumption, by assumption⟩ (ext_drew _) | go_keep))) (fun hSw => ?_)
    repeat (first
      | (refine wpPlan_pas rfl rfl (fun K hK => ?_)
         apply Exists.intro
         refine ⟨?_, ?_⟩
         · first | exact pasOk_no rfl | (apply pasOk_yes rfl; intro wS hS; obtain ⟨s0, s1⟩ := hS; go_simp; first | done | exact rfl | ((try simp only [↓IntWalk.iteOmega]); (try go_bits); (try go_simp); first | done | exact rfl))
         go_simp
         refine hK _ ?_
         clear hK K)
      | (refine wpPlan_no rfl rfl rfl (by assumption) (fun K hK => ?_)
         go_simp
         refine hK _ ?_
         clear hK K)
      | (refine wpPlan_act rfl rfl rfl (fun K hK => ?_)
         go_wp2_with (first | (go_at_call 82; refine (when_any _ _ _).mono ?_; rintro e w1 ⟨rfl, rfl⟩) | (go_at_call 81; refine (first_any [_, _] _ _ (SlAt.drew (slat_new encI_len (by simp) rfl (by simp)))).mono ?_; rintro e w1 ⟨rfl, rfl⟩))
         refine OnlyK.go (hK _ _ (by ((first | assumption | exact keep1 (by assumption) (by assumption) | exact keep1 (by assumption) (ext_alloc _ _) | exact keep1 (by assumption) (ext_drew _) | exact keep1 ⟨by assumption, by assumption⟩ (ext_drew _) | go_keep))) (fun hSw => ?_))
         clear hK K))
    refine wpPlan_nil ?_
    go_wp2
    go_ret
    exact ⟨rfl, ext_trans hbW (held1 hSw)⟩
  · by_cases h8 : 8 < pts.length
    · have hd : ((pts.length : Int) == 0) = false := by simpa using h0
      have hd2 : decide ((8 : Int) < (pts.length : Int)) = true := by simp; omega
      have hV : ptsErr pts = firstV [whenV false 12, whenV true 5] := by simp [ptsErr, ptsE, h0, h8, firstV, whenV]
      rw [hV]
      have hne : (firstV [whenV false 12, whenV true 5] != 0) = true := rfl
      clear h0 hr h8 hV
      go_enter Tryz.func99, Tryz.ntmps99
      go_wp2
      generalize hW : World.alloc w _ = W
      have hbW : Below w.heap.size w W := by rw [← hW]; exact ext_alloc _ _
      have cW2 : W.cell? ⟨w.heap.size, 2, none⟩ = some (.slice A pts.length c) := by rw [← hW]; simp [World.cell?_alloc_new]
      clear hW
      have dB0 : Below W.heap.size W W := Below.refl _ _
      refine wp_region_plan (fun w' => w'.cell? ⟨w.heap.size, 2, none⟩ = some (.slice A pts.length c) ∧ Below W.heap.size W w') [4, 9, 10, 11] [0, 1, 2, 3, 5, 6, 7, 8, 4, 9, 10, 11, 12] (by kernel_rfl) (by kernel_rfl) (by ((first | assumption | exact keep1 (by assumption) (by assumption) | exact keep1 (by assumption) (ext_alloc _ _) | exact keep1 (by assumption) (ext_drew _) | exact keep1 ⟨by assumption, by assumption⟩ (ext_drew _) | go_keep))) (fun hSw => ?_)
      repeat (first
        | (refine wpPlan_pas rfl rfl (fun K hK => ?_)
           apply Exists.intro
           refine ⟨?_, ?_⟩
           · first | exact pasOk_no rfl | (apply pasOk_yes rfl; intro wS hS; obtain ⟨s0, s1⟩ := hS; go_simp; first | done | exact rfl | ((try simp only [↓IntWalk.iteOmega]); (try go_bits); (try go_simp); first | done | exact rfl))
           go_simp
           refine hK _ ?_
           clear hK K)
        | (refine wpPlan_no rfl rfl rfl (by assumption) (fun K hK => ?_)
           go_simp
           refine hK _ ?_
           clear hK K)
        | (refine wpPlan_act rfl rfl rfl (fun K hK => ?_)
           go_wp2_with (first | (go_at_call 82; refine (when_any _ _ _).mono ?_; rintro e w1 ⟨rfl, rfl⟩) | (go_at_call 81; refine (first_any [_, _] _ _ (SlAt.drew (slat_new encI_len (by simp) rfl (by simp)))).mono ?_; rintro e w1 ⟨rfl, rfl⟩))
           refine OnlyK.go (hK _ _ (by ((first | assumption | exact keep1 (by assumption) (by assumption) | exact keep1 (by assumption) (ext_alloc _ _) | exact keep1 (by assumption) (ext_drew _) | exact keep1 ⟨by assumption, by assumption⟩ (ext_drew _) | go_keep))) (fun hSw => ?_))
           clear hK K))
      refine wpPlan_nil ?_
      go_wp2
      go_ret
      exact ⟨rfl, ext_trans hbW (held1 hSw)⟩
    · have hd : ((pts.length : Int) == 0) = false := by simpa using h0
      have hd2 : decide ((8 : Int) < (pts.length : Int)) = false := by simp; omega
      have hV : ptsErr pts = ptsGo (lastP pts 0) (pts.drop 0) := by simp [ptsErr, ptsE, h0, h8, firstV, whenV, lastP]
      have HV := Lib.hid hV
      have hne : (firstV [whenV false 12, whenV false 5] != 0) = false := rfl
      clear h0 hV
      go_enter Tryz.func99, Tryz.ntmps99
      go_wp2
      generalize hW : World.alloc w _ = W
      have hbW : Below w.heap.size w W := by rw [← hW]; exact ext_alloc _ _
      have cW2 : W.cell? ⟨w.heap.size, 2, none⟩ = some (.slice A pts.length c) := by rw [← hW]; simp [World.cell?_alloc_new]
      clear hW
      have dB0 : Below W.heap.size W W := Below.refl _ _
      refine wp_region_plan (fun w' => w'.cell? ⟨w.heap.size, 2, none⟩ = some (.slice A pts.length c) ∧ Below W.heap.size W w') [4, 9, 10, 11] [0, 1, 2, 3, 5, 6, 7, 8, 4, 9, 10, 11, 12] (by kernel_rfl) (by kernel_rfl) (by ((first | assumption | exact keep1 (by assumption) (by assumption) | exact keep1 (by assumption) (ext_alloc _ _) | exact keep1 (by assumption) (ext_drew _) | exact keep1 ⟨by assumption, by assumption⟩ (ext_drew _) | go_keep))) (fun hSw => ?_)
      repeat (first
        | (refine wpPlan_pas rfl rfl (fun K hK => ?_)
           apply Exists.intro
           refine ⟨?_, ?_⟩
           · first | exact pasOk_no rfl | (apply pasOk_yes rfl; intro wS hS; obtain ⟨s0, s1⟩ := hS; go_simp; first | done | exact rfl | ((try simp only [↓IntWalk.iteOmega]); (try go_bits); (try go_simp); first | done | exact rfl))
           go_simp
           refine hK _ ?_
           clear hK K)
        | (refine wpPlan_no rfl rfl rfl (by assumption) (fun K hK => ?_)
           go_simp
           refine hK _ ?_
           clear hK K)
        | (refine wpPlan_act rfl rfl rfl (fun K hK => ?_)
           go_wp2_with (first | (go_at_call 82; refine (when_any _ _ _).mono ?_; rintro e w1 ⟨rfl, rfl⟩) | (go_at_call 81; refine (first_any [_, _] _ _ (SlAt.drew (slat_new encI_len (by simp) rfl (by simp)))).mono ?_; rintro e w1 ⟨rfl, rfl⟩))
           refine OnlyK.go (hK _ _ (by ((first | assumption | exact keep1 (by assumption) (by assumption) | exact keep1 (by assumption) (ext_alloc _ _) | exact keep1 (by assumption) (ext_drew _) | exact keep1 ⟨by assumption, by assumption⟩ (ext_drew _) | go_keep))) (fun hSw => ?_))
           clear hK K))
      refine wpPlan_nil ?_
      generalize hW2 : World.drew _ = W2 at hSw ⊢
      clear hW2
      have hb0 := ext_trans hbW (held1 hSw)
      have hl0 := RowC.new encG_len W2 170 (-1, 100000)
      have hb2 := hb0.alloc hb0.size (.cells (encG (-1, 100000)).toArray 170)
      have k2 := ext_cell (ext_alloc W2 (.cells (encG (-1, 100000)).toArray 170)) hSw.1
      have hW2s := World.block_lt_of_cell? _ _ hSw.1
      simp only [encG] at hl0 hb2 k2
      clear hSw cW2
      go_wp2
      go_loopw [27] (fun i wr => ∃ k : Nat, k ≤ pts.length ∧ i = .int .i64 k ∧ RowC encG 2 W2.heap.size 0 wr [lastP pts k] ∧ Below w.heap.size w wr ∧ Hid (ptsErr pts = ptsGo (lastP pts k) (pts.drop k))) (fun i _ => pts.length - (intOf i).toNat)
      case atStart => exact ⟨0, Nat.zero_le _, rfl, hl0, hb2, HV⟩
      case round =>
        obtain ⟨k, hk, rfl, hl, hb, hz⟩ := hrel
        clear HV hl0 hb2 k2
        by_cases hlt : k < pts.length
        · obtain ⟨b, off, rfl, hbl, hcell⟩ := hr (by omega)
          have hx : pts[k]? = some pts[k] := List.getElem?_eq_getElem hlt
          have hst := ptsGo_step pts k hlt
          rw [← hz.out] at hst
          have hla : lastP pts (k + 1) = pts[k] := by simp [lastP, hlt]
          have c0 := ext_cell hb (hcell k _ hx 0 _ rfl)
          have c1 := ext_cell hb (hcell k _ hx 1 _ rfl)
          rw [Nat.add_zero] at c0
          generalize pts[k] = p at hst c0 c1 hla
          generalize lastP pts k = la at hst hl
          obtain ⟨l0, l1⟩ := hl.g0
          have hsz := hb.size
          have HST := Lib.hid hst
          have HLA := Lib.hid hla
          clear hx hcell hr hst hla
          go_wp2
          generalize hW3 : World.alloc wr _ = W3
          have hbW3 : Below wr.heap.size wr W3 := by rw [← hW3]; exact ext_alloc _ _
          have p0 : W3.cell? ⟨wr.heap.size, 0, none⟩ = some (.int .i64 p.1) := by rw [← hW3]; simp [World.cell?_alloc_new]
          have p1 : W3.cell? ⟨wr.heap.size, 1, none⟩ = some (.int .i64 p.2) := by rw [← hW3]; simp [World.cell?_alloc_new]
          clear hW3
          have l0' := ext_cell hbW3 l0
          have l1' := ext_cell hbW3 l1
          have dB0 : Below W3.heap.size W3 W3 := Below.refl _ _
          have hPE : ptErr la p = firstV [withinV p.1 0 100000000, withinV p.2 0 100000, whenV (decide (p.1 ≤ la.1) || decide (la.2 < p.2)) 11] := rfl
          cases hqa : decide (p.1 ≤ la.1)
          · cases hqb : decide (la.2 < p.2)
            · rw [hqa, hqb] at hPE
              simp only [Bool.false_or, Bool.true_or] at hPE
              rw [hPE] at HST
              clear hPE
              refine wp_region_plan (fun w' => w'.cell? ⟨wr.heap.size, 0, none⟩ = some (.int .i64 p.1) ∧ w'.cell? ⟨wr.heap.size, 1, none⟩ = some (.int .i64 p.2) ∧ w'.cell? ⟨W2.heap.size, 0, none⟩ = some (.int .i64 la.1) ∧ w'.cell? ⟨W2.heap.size, 1, none⟩ = some (.int .i64 la.2) ∧ Below W3.heap.size W3 w') [2, 5, 18, 19, 20] [0, 1, 3, 4, 6, 7, 8, 9, 10, 2, 5, 11, 12, 13, 14, 15, 16, 17, 18, 19, 20, 21] (by kernel_rfl) (by kernel_rfl) (by ((first | assumption | exact keep4 (by assumption) (by assumption) | exact keep4 (by assumption) (ext_alloc _ _) | exact keep4 (by assumption) (ext_drew _) | exact keep4 ⟨by assumption, by assumption, by assumption, by assumption, by assumption⟩ (ext_drew _) | go_keep))) (fun hSw => ?_)
              repeat (first
                | (refine wpPlan_pas rfl rfl (fun K hK => ?_)
                   apply Exists.intro
                   refine ⟨?_, ?_⟩
                   · first | exact pasOk_no rfl | (apply pasOk_yes rfl; intro wS hS; obtain ⟨s0, s1, s2, s3, s4⟩ := hS; go_simp; first | done | exact rfl | ((try simp only [↓IntWalk.iteOmega]); (try go_bits); (try go_simp); first | done | exact rfl))
                   go_simp
                   refine hK _ ?_
                   clear hK K)
                | (refine wpPlan_no rfl rfl rfl (by assumption) (fun K hK => ?_)
                   go_simp
                   refine hK _ ?_
                   clear hK K)
                | (refine wpPlan_act rfl rfl rfl (fun K hK => ?_)
                   go_wp2_with (first | (go_at_call 88; refine (within_any _ _ _ _).mono ?_; rintro e w1 ⟨rfl, rfl⟩) | (go_at_call 82; refine (when_any _ _ _).mono ?_; rintro e w1 ⟨rfl, rfl⟩) | (go_at_call 81; refine (first_any [_, _, _] _ _ (SlAt.drew (slat_new encI_len (by simp) rfl (by simp)))).mono ?_; rintro e w1 ⟨rfl, rfl⟩))
                   refine OnlyK.go (hK _ _ (by ((first | assumption | exact keep4 (by assumption) (by assumption) | exact keep4 (by assumption) (ext_alloc _ _) | exact keep4 (by assumption) (ext_drew _) | exact keep4 ⟨by assumption, by assumption, by assumption, by assumption, by assumption⟩ (ext_drew _) | go_keep))) (fun hSw => ?_))
                   clear hK K))
              refine wpPlan_nil ?_
              generalize hW4 : World.drew _ = W4 at hSw ⊢
              clear hW4
              have hb4 := ext_trans hbW3 (held4 hSw)
              have hl4 := hl.ext hb4
              have hb5 := ext_trans hb hb4
              have hb5s := hb5.size
              obtain ⟨p0', p1', _, _, _⟩ := hSw
              generalize firstV [withinV p.1 0 100000000, withinV p.2 0 100000, whenV false 11] = e1 at HST ⊢
              cases hq : (e1 != 0)
              · have hst : ptsErr pts = ptsGo (lastP pts (k + 1)) (pts.drop (k + 1)) := by rw [HST.out, if_neg (by simpa using hq)]
                have HS2 := Lib.hid hst
                clear hst
                go_wp2_with (refine wpList_store_row2 rfl 170 _ _ rfl encG_len encG_one sizePt 0 p hl4 (by simp) rfl _ rfl rfl ?_; intro w7 hl7 hb7 hz7 ho7)
                go_roundw
                case rel => exact ⟨k + 1, by omega, by go_num, by rw [HLA.out]; exact hl7, hb5.trans (hb7.mono (by omega)), HS2⟩
                case measure => simp [intOf]; omega
              · have hst : ptsErr pts = e1 := by rw [HST.out, if_pos (by simpa using hq)]
                have HS2 := Lib.hid hst
                clear hst
                go_wp2
                go_ret
                exact ⟨by rw [HS2.out]; rfl, hb5⟩
            · rw [hqa, hqb] at hPE
              simp only [Bool.false_or, Bool.true_or] at hPE
              rw [hPE] at HST
              clear hPE
              refine wp_region_plan (fun w' => w'.cell? ⟨wr.heap.size, 0, none⟩ = some (.int .i64 p.1) ∧ w'.cell? ⟨wr.heap.size, 1, none⟩ = some (.int .i64 p.2) ∧ w'.cell? ⟨W2.heap.size, 0, none⟩ = some (.int .i64 la.1) ∧ w'.cell? ⟨W2.heap.size, 1, none⟩ = some (.int .i64 la.2) ∧ Below W3.heap.size W3 w') [2, 5, 18, 19, 20] [0, 1, 3, 4, 6, 7, 8, 9, 10, 2, 5, 11, 12, 13, 14, 15, 16, 17, 18, 19, 20, 21] (by kernel_rfl) (by kernel_rfl) (by ((first | assumption | exact keep4 (by assumption) (by assumption) | exact keep4 (by assumption) (ext_alloc _ _) | exact keep4 (by assumption) (ext_drew _) | exact keep4 ⟨by assumption, by assumption, by assumption, by assumption, by assumption⟩ (ext_drew _) | go_keep))) (fun hSw => ?_)
              repeat (first
                | (refine wpPlan_pas rfl rfl (fun K hK => ?_)
                   apply Exists.intro
                   refine ⟨?_, ?_⟩
                   · first | exact pasOk_no rfl | (apply pasOk_yes rfl; intro wS hS; obtain ⟨s0, s1, s2, s3, s4⟩ := hS; go_simp; first | done | exact rfl | ((try simp only [↓IntWalk.iteOmega]); (try go_bits); (try go_simp); first | done | exact rfl))
                   go_simp
                   refine hK _ ?_
                   clear hK K)
                | (refine wpPlan_no rfl rfl rfl (by assumption) (fun K hK => ?_)
                   go_simp
                   refine hK _ ?_
                   clear hK K)
                | (refine wpPlan_act rfl rfl rfl (fun K hK => ?_)
                   go_wp2_with (first | (go_at_call 88; refine (within_any _ _ _ _).mono ?_; rintro e w1 ⟨rfl, rfl⟩) | (go_at_call 82; refine (when_any _ _ _).mono ?_; rintro e w1 ⟨rfl, rfl⟩) | (go_at_call 81; refine (first_any [_, _, _] _ _ (SlAt.drew (slat_new encI_len (by simp) rfl (by simp)))).mono ?_; rintro e w1 ⟨rfl, rfl⟩))
                   refine OnlyK.go (hK _ _ (by ((first | assumption | exact keep4 (by assumption) (by assumption) | exact keep4 (by assumption) (ext_alloc _ _) | exact keep4 (by assumption) (ext_drew _) | exact keep4 ⟨by assumption, by assumption, by assumption, by assumption, by assumption⟩ (ext_drew _) | go_keep))) (fun hSw => ?_))
                   clear hK K))
              refine wpPlan_nil ?_
              generalize hW4 : World.drew _ = W4 at hSw ⊢
              clear hW4
              have hb4 := ext_trans hbW3 (held4 hSw)
              have hl4 := hl.ext hb4
              have hb5 := ext_trans hb hb4
              have hb5s := hb5.size
              obtain ⟨p0', p1', _, _, _⟩ := hSw
              generalize firstV [withinV p.1 0 100000000, withinV p.2 0 100000, whenV true 11] = e1 at HST ⊢
              cases hq : (e1 != 0)
              · have hst : ptsErr pts = ptsGo (lastP pts (k + 1)) (pts.drop (k + 1)) := by rw [HST.out, if_neg (by simpa using hq)]
                have HS2 := Lib.hid hst
                clear hst
                go_wp2_with (refine wpList_store_row2 rfl 170 _ _ rfl encG_len encG_one sizePt 0 p hl4 (by simp) rfl _ rfl rfl ?_; intro w7 hl7 hb7 hz7 ho7)
                go_roundw
                case rel => exact ⟨k + 1, by omega, by go_num, by rw [HLA.out]; exact hl7, hb5.trans (hb7.mono (by omega)), HS2⟩
                case measure => simp [intOf]; omega
              · have hst : ptsErr pts = e1 := by rw [HST.out, if_pos (by simpa using hq)]
                have HS2 := Lib.hid hst
                clear hst
                go_wp2
                go_ret
                exact ⟨by rw [HS2.out]; rfl, hb5⟩
          · rw [hqa] at hPE
            simp only [Bool.false_or, Bool.true_or] at hPE
            rw [hPE] at HST
            clear hPE
            refine wp_region_plan (fun w' => w'.cell? ⟨wr.heap.size, 0, none⟩ = some (.int .i64 p.1) ∧ w'.cell? ⟨wr.heap.size, 1, none⟩ = some (.int .i64 p.2) ∧ w'.cell? ⟨W2.heap.size, 0, none⟩ = some (.int .i64 la.1) ∧ w'.cell? ⟨W2.heap.size, 1, none⟩ = some (.int .i64 la.2) ∧ Below W3.heap.size W3 w') [2, 5, 18, 19, 20] [0, 1, 3, 4, 6, 7, 8, 9, 10, 2, 5, 11, 12, 13, 14, 15, 16, 17, 18, 19, 20, 21] (by kernel_rfl) (by kernel_rfl) (by ((first | assumption | exact keep4 (by assumption) (by assumption) | exact keep4 (by assumption) (ext_alloc _ _) | exact keep4 (by assumption) (ext_drew _) | exact keep4 ⟨by assumption, by assumption, by assumption, by assumption, by assumption⟩ (ext_drew _) | go_keep))) (fun hSw => ?_)
            repeat (first
              | (refine wpPlan_pas rfl rfl (fun K hK => ?_)
                 apply Exists.intro
                 refine ⟨?_, ?_⟩
                 · first | exact pasOk_no rfl | (apply pasOk_yes rfl; intro wS hS; obtain ⟨s0, s1, s2, s3, s4⟩ := hS; go_simp; first | done | exact rfl | ((try simp only [↓IntWalk.iteOmega]); (try go_bits); (try go_simp); first | done | exact rfl))
                 go_simp
                 refine hK _ ?_
                 clear hK K)
              | (refine wpPlan_no rfl rfl rfl (by assumption) (fun K hK => ?_)
                 go_simp
                 refine hK _ ?_
                 clear hK K)
              | (refine wpPlan_act rfl rfl rfl (fun K hK => ?_)
                 go_wp2_with (first | (go_at_call 88; refine (within_any _ _ _ _).mono ?_; rintro e w1 ⟨rfl, rfl⟩) | (go_at_call 82; refine (when_any _ _ _).mono ?_; rintro e w1 ⟨rfl, rfl⟩) | (go_at_call 81; refine (first_any [_, _, _] _ _ (SlAt.drew (slat_new encI_len (by simp) rfl (by simp)))).mono ?_; rintro e w1 ⟨rfl, rfl⟩))
                 refine OnlyK.go (hK _ _ (by ((first | assumption | exact keep4 (by assumption) (by assumption) | exact keep4 (by assumption) (ext_alloc _ _) | exact keep4 (by assumption) (ext_drew _) | exact keep4 ⟨by assumption, by assumption, by assumption, by assumption, by assumption⟩ (ext_drew _) | go_keep))) (fun hSw => ?_))
                 clear hK K))
            refine wpPlan_nil ?_
            generalize hW4 : World.drew _ = W4 at hSw ⊢
            clear hW4
            have hb4 := ext_trans hbW3 (held4 hSw)
            have hl4 := hl.ext hb4
            have hb5 := ext_trans hb hb4
            have hb5s := hb5.size
            obtain ⟨p0', p1', _, _, _⟩ := hSw
            generalize firstV [withinV p.1 0 100000000, withinV p.2 0 100000, whenV true 11] = e1 at HST ⊢
            cases hq : (e1 != 0)
            · have hst : ptsErr pts = ptsGo (lastP pts (k + 1)) (pts.drop (k + 1)) := by rw [HST.out, if_neg (by simpa using hq)]
              have HS2 := Lib.hid hst
              clear hst
              go_wp2_with (refine wpList_store_row2 rfl 170 _ _ rfl encG_len encG_one sizePt 0 p hl4 (by simp) rfl _ rfl rfl ?_; intro w7 hl7 hb7 hz7 ho7)
              go_roundw
              case rel => exact ⟨k + 1, by omega, by go_num, by rw [HLA.out]; exact hl7, hb5.trans (hb7.mono (by omega)), HS2⟩
              case measure => simp [intOf]; omega
            · have hst : ptsErr pts = e1 := by rw [HST.out, if_pos (by simpa using hq)]
              have HS2 := Lib.hid hst
              clear hst
              go_wp2
              go_ret
              exact ⟨by rw [HS2.out]; rfl, hb5⟩
        · have hst : ptsErr pts = 0 := by rw [hz.out, List.drop_of_length_le (by omega)]; rfl
          have HS2 := Lib.hid hst
          clear hst
          go_wp2
          go_ret
          exact ⟨by rw [HS2.out]; rfl, hb⟩
end Go.Proofs.YtlogjgmfkjjhjaaGreatDoor
