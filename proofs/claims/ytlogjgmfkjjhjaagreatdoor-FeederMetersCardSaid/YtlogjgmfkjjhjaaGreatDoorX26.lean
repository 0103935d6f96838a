/-
  feeder.Power.
-/
import Derived.Test.YtlogjgmfkjjhjaaGreatDoorX23
set_option linter.unusedSimpArgs false
set_option linter.unusedVariables false
namespace Go.Proofs.YtlogjgmfkjjhjaaGreatDoor
open Go.RowKit

def sumL (xs : List Int) : Int := xs.foldl (· + ·) 0
theorem sumL_take (xs : List Int) (k : Nat) (h : k < xs.length) : sumL (xs.take (k + 1)) = sumL (xs.take k) + xs[k] := foldl_take_succ _ _ xs k h
theorem sumL_le (m : Int) (hm : 0 ≤ m) (xs : List Int) (h : ∀ x ∈ xs, 0 ≤ x ∧ x ≤ m) : ∀ k, k ≤ xs.length → 0 ≤ sumL (xs.take k) ∧ sumL (xs.take k) ≤ m * k
  | 0, _ => by simp [sumL]
  | k + 1, hk => by
    have ih := sumL_le m hm xs h k (by omega)
    have hx := h xs[k] (List.getElem_mem (by omega))
    rw [sumL_take xs k (by omega)]
    have : m * ((k + 1 : Nat) : Int) = m * k + m := by rw [Int.natCast_add, Int.mul_add]; simp
    omega
theorem lossesN_le {l : List Nd} (h : Good l) : ∀ x ∈ lossesN l, 0 ≤ x ∧ x ≤ 512000000000 := by
  intro x hx
  unfold lossesN at hx
  obtain ⟨i, hi, rfl⟩ := List.mem_map.1 hx
  have hi2 : i < l.length := List.mem_range.1 hi
  have e : l.getD i default = l[i] := by simp [hi2]
  have e2 : (currentsN l).getD i (0, 0) = currentN l l[i] := by simp [currentsN, hi2]
  unfold lossN
  rw [e, e2]
  have := h.sq l[i]
  have h1 := (h.mem (List.getElem_mem hi2)).re0
  have h2 := (h.mem (List.getElem_mem hi2)).re1
  have := mul_le_of h1 h2 (b := sqG (currentN l l[i])) (n := 512000000) (by unfold sqG; omega) (by unfold sqG; omega)
  omega
def conjG (z : Int × Int) : Int × Int := (z.1, -z.2)
def powerN (l : List Nd) (s : Int × Int) : Int := (mulG s (conjG ((currentsN l).getD 0 (0, 0)))).1
def powerR (l : List Nd) (s : Int × Int) : Int × Int × Int := if voltagesE l s ≠ 0 then (0, 0, voltagesE l s) else (powerN l s, sumL (lossesN l), 0)

theorem fieldG0 (a b : Int) (w : World) : (Instr.field 97 (.agg #[.int .i64 a, .int .i64 b]) 0).run Tryz.prog w = .ok (.int .i64 a) w := by kernel_rfl
set_option maxHeartbeats 8000000 in
theorem Power_any (v : Value) (l : List Nd) (s : Int × Int) (w : World) (hs : SlAt encN 7 w v l) (hok : Names l) :
    Calls Tryz.prog 56 #[v, .agg #[.int .i64 s.1, .int .i64 s.2]] w fun e w' => e = .returned (.tuple #[.int .i64 (powerR l s).1, .int .i64 (powerR l s).2.1, .int .i64 (powerR l s).2.2]) ∧ Below w.heap.size w w' := by
  have hsw := hs
  obtain ⟨A, c, rfl, hc1, hc2, hr⟩ := hs
  have hc := fun W hW => checkNodes_any l _ W (hsw.ext hW) hok
  have hz : checkNodesV l = 0 → _ := good_of
  have hV : powerR l s = if firstV [checkNodesV l, partsV s.1 s.2 (-100000000) 100000000] ≠ 0 then (0, 0, firstV [checkNodesV l, partsV s.1 s.2 (-100000000) 100000000]) else (powerN l s, sumL (lossesN l), 0) := rfl
  have hp0 := fun W => parts_any s.1 s.2 (-100000000) 100000000 W
  have hpz : partsV s.1 s.2 (-100000000) 100000000 = 0 → _ := partsV_zero.1
  rw [hV]
  clear hV hr
  generalize checkNodesV l = e0 at hc hz ⊢
  generalize partsV s.1 s.2 (-100000000) 100000000 = e1 at hp0 hpz ⊢
  have hbB : Below w.heap.size w (w.alloc (.cells #[.int .i64 s.1, .int .i64 s.2] 97)) := ext_alloc _ _
  have xB := BoxC.new w 97 #[.int .i64 s.1, .int .i64 s.2]
  have p0 := xB.cell 0 _ rfl
  have p1 := xB.cell 1 _ rfl
  clear xB
  go_enter Tryz.func56, Tryz.ntmps56
  cases hq : (firstV [e0, e1] != 0)
  · rw [if_neg (by simpa using hq)]
    have he : firstV [e0, e1] = 0 := by simpa using hq
    obtain ⟨rfl, rfl⟩ : e0 = 0 ∧ e1 = 0 := by simpa [firstV_zero] using he
    have hg := hz rfl
    obtain ⟨⟨hs1, hs2⟩, hs3, hs4⟩ := hpz rfl
    have hlo := fun W hW => losses_any _ l hg W (hsw.ext hW)
    have hcu := fun W hW => currents_any _ l hg.acyc hg.len0 hg.len hg.cur W (hsw.ext hW)
    have hle := lossesN_le hg
    have hll : (lossesN l).length = l.length := by simp [lossesN]
    have hln := hg.len1
    have hl0 := hg.len0
    have hxd := hg.currentD 0 hg.len0
    have hxl : (currentsN l).length = l.length := List.length_map _
    have hPN : powerN l s = (mulG s (conjG ((currentsN l).getD 0 (0, 0)))).1 := rfl
    rw [hPN]
    clear hPN he hz hpz hg
    generalize lossesN l = ls at hlo hle hll ⊢
    generalize currentsN l = xs at hcu hxd hxl ⊢
    generalize hcu0 : xs.getD 0 (0, 0) = cu at hxd ⊢
    have hmok := mulOk_le (a := s) (b := conjG cu) 100000000 16000 (by omega) (by omega) hxd.1 (by unfold conjG; simp only; omega) (by omega) (by omega) (by omega)
    generalize mulG s (conjG cu) = mm at hmok ⊢
    have hsl := sumL_le 512000000000 (by omega) ls hle
    have hx7 : xs[0]? = some cu := by
      have h0 : 0 < xs.length := by omega
      rw [← hcu0, List.getD_eq_getElem?_getD, List.getElem?_eq_getElem h0]; rfl
    have HX7 := Lib.hid hx7
    clear hx7
    have HXL := Lib.hid hxl
    have HLL := Lib.hid hll
    clear hle hcu0 hxl hll
    go_wp2
    generalize World.alloc w _ = W at hbB p0 p1 ⊢
    have dB0 : Below W.heap.size W W := Below.refl _ _
    refine wp_region_plan (fun w' => w'.cell? ⟨w.heap.size, 0, none⟩ = some (.int .i64 s.1) ∧ w'.cell? ⟨w.heap.size, 1, none⟩ = some (.int .i64 s.2) ∧ Below W.heap.size W w') [1, 3, 4, 5] [0, 2, 1, 3, 4, 5, 6] (by kernel_rfl) (by kernel_rfl) (by ((first | assumption | exact keep2 (by assumption) (by assumption) | exact keep2 (by assumption) (ext_alloc _ _) | exact keep2 (by assumption) (ext_drew _) | exact keep2 ⟨by assumption, by assumption, by assumption⟩ (ext_drew _) | go_keep))) (fun hSw => ?_)
    repeat (first
      | (refine wpPlan_pas rfl rfl (fun K hK => ?_)
         apply Exists.intro
         refine ⟨?_, ?_⟩
         · first | exact pasOk_no rfl | (apply pasOk_yes rfl; intro wS hS; obtain ⟨s0, s1, s2⟩ := hS; go_simp; first | done | exact rfl | ((try simp only [↓IntWalk.iteOmega]); (try go_bits); (try go_simp); first | done | exact rfl))
         go_simp
         refine hK _ ?_
         clear hK K)
      | (refine wpPlan_no rfl rfl rfl (by assumption) (fun K hK => ?_)
         go_simp
         refine hK _ ?_
         clear hK K)
      | (refine wpPlan_act rfl rfl rfl (fun K hK => ?_)
         go_wp2_with (first | (go_at_call 21; refine (hc _ (ext_trans hbB hSw.2.2)).mono ?_; rintro e wA ⟨rfl, hbA⟩) | (go_at_call 103; refine (hp0 _).mono ?_; rintro e wC ⟨rfl, hbC⟩) | (go_at_call 81; refine (first_any [_, _] _ _ (slat_new encI_len (by simp) rfl (by simp))).mono ?_; rintro e w3 ⟨rfl, rfl⟩))
         refine OnlyK.go (hK _ _ (by ((first | assumption | exact keep2 (by assumption) (by assumption) | exact keep2 (by assumption) (ext_alloc _ _) | exact keep2 (by assumption) (ext_drew _) | exact keep2 ⟨by assumption, by assumption, by assumption⟩ (ext_drew _) | go_keep))) (fun hSw => ?_))
         clear hK K))
    refine wpPlan_nil ?_
    obtain ⟨s0, s1, hbS⟩ := hSw
    have hbT := ext_trans hbB hbS
    generalize World.alloc _ (Obj.cells _ 26) = W3 at s0 s1 hbS hbT ⊢
    clear hbS p0 p1 dB0 hc hp0 hbA hbC
    go_wp2_with (go_at_call 106; refine (hlo _ hbT).mono ?_; rintro e w4 ⟨v2, rfl, ho2, hb4, hn2⟩; have hb5 := ext_trans hbT hb4; have hsx := ho2.slat encI_len; obtain ⟨A2, c2, hv2⟩ := ho2.slice; subst hv2)
    have k0 := ext_cell hb4 s0
    have k1 := ext_cell hb4 s1
    clear s0 s1 ho2 hn2 hlo
    go_loopw [23, 8] (fun i o wr => ∃ k : Nat, k ≤ ls.length ∧ i = .int .i64 k ∧ o = .int .i64 (sumL (ls.take k)) ∧ Below w4.heap.size w4 wr) (fun i _ _ => ls.length - (intOf i).toNat)
    case atStart => exact ⟨0, Nat.zero_le _, rfl, rfl, Below.refl _ _⟩
    case round =>
      obtain ⟨k, hk, rfl, rfl, hb⟩ := hrel
      by_cases hlt : k < ls.length
      · obtain ⟨A3', c3', e3', _, _, hr3⟩ := hsx
        obtain ⟨b3, o3, rfl, hbl3, hcell3⟩ := hr3 (by omega)
        cases e3'
        have hx3 : ls[k]? = some ls[k] := List.getElem?_eq_getElem hlt
        have x0 := ext_cell hb (hcell3 k _ hx3 0 _ rfl)
        rw [Nat.add_zero, Nat.mul_one] at x0
        have hst := sumL_take ls k hlt
        obtain ⟨a1, a2⟩ := hsl (k + 1) (by omega)
        have hk16 : k < 16 := by have := HLL.out; omega
        rw [hst] at a1 a2
        generalize ls[k] = y at x0 hst a1 a2
        generalize sumL (ls.take k) = sm at hst a1 a2 ⊢
        have HST := Lib.hid hst
        have hwr : IntKind.i64.wrap (sm + y) = sm + y := IntWalk.i64_in _ (by omega)
        clear hst hx3 hcell3 hr3 hsl
        go_wp2
        go_roundw
        case rel => exact ⟨k + 1, by omega, by go_num, by rw [HST.out], hb⟩
        case measure => simp [intOf]; omega
      · obtain rfl : k = ls.length := by omega
        rw [List.take_of_length_le (Nat.le_refl _)]
        have y0 := ext_cell hb k0
        have y1 := ext_cell hb k1
        have hbw := ext_trans hb5 hb
        have dB0 : Below wr.heap.size wr wr := Below.refl _ _
        clear k0 k1
        have hfld := fieldG0 mm.1 mm.2
        have hxp : 0 < xs.length := by have := HXL.out; omega
        go_wp2
        refine wp_region_plan (fun w' => w'.cell? ⟨w.heap.size, 0, none⟩ = some (.int .i64 s.1) ∧ w'.cell? ⟨w.heap.size, 1, none⟩ = some (.int .i64 s.2) ∧ Below wr.heap.size wr w') [2, 3, 4, 5, 6] [0, 1, 8, 2, 3, 4, 5, 6, 7, 9, 10, 11] (by kernel_rfl) (by kernel_rfl) (by ((first | assumption | exact keep2 (by assumption) (by assumption) | exact keep2 (by assumption) (ext_alloc _ _) | exact keep2 (by assumption) (ext_drew _) | exact keep2 ⟨by assumption, by assumption, by assumption⟩ (ext_drew _) | go_keep))) (fun hSw => ?_)
        repeat (first
          | (refine wpPlan_pas rfl rfl (fun K hK => ?_)
             apply Exists.intro
             refine ⟨?_, ?_⟩
             · first | exact pasOk_no rfl | (apply pasOk_yes rfl; intro wS hS; obtain ⟨s0, s1, s2⟩ := hS; go_simp; first | done | exact rfl | ((try simp only [↓IntWalk.iteOmega]); (try go_bits); (try go_simp); first | done | exact rfl))
             go_simp
             refine hK _ ?_
             clear hK K)
          | (refine wpPlan_no rfl rfl rfl (by assumption) (fun K hK => ?_)
             go_simp
             refine hK _ ?_
             clear hK K)
          | (refine wpPlan_act rfl rfl rfl (fun K hK => ?_)
             go_wp2_with (first | (go_at_call 75; (refine (hcu _ (ext_trans hbw hSw.2.2)).mono ?_); rintro e w7 ⟨v7, rfl, ho7, hb7, hn7⟩; obtain ⟨A7, c7, e7, _, _, hr7⟩ := ho7.slat encG_len; subst e7; obtain ⟨b7, o7, hA7, hbl7, hcell7⟩ := hr7 (by have := HXL.out; omega); subst hA7; have g0 : w7.cell? ⟨b7, o7, none⟩ = some (.int .i64 cu.1) := hcell7 0 _ HX7.out 0 _ rfl; have g1 : w7.cell? ⟨b7, o7 + 1, none⟩ = some (.int .i64 cu.2) := hcell7 0 _ HX7.out 1 _ rfl; clear hcell7 hr7 hn7) | (go_at_call 107; refine (conjugate_any cu.1 cu.2 _ (by omega) (by omega)).mono ?_; rintro e w8 ⟨rfl, hb8⟩) | (go_at_call 105; refine (times_any s (conjG cu) mm _ hmok).mono ?_; rintro e w9 ⟨rfl, hb9⟩))
             refine OnlyK.go (hK _ _ (by ((first | assumption | exact keep2 (by assumption) (by assumption) | exact keep2 (by assumption) (ext_alloc _ _) | exact keep2 (by assumption) (ext_drew _) | exact keep2 ⟨by assumption, by assumption, by assumption⟩ (ext_drew _) | go_keep))) (fun hSw => ?_))
             clear hK K))
        refine wpPlan_nil ?_
        have hbR := ext_trans hbw hSw.2.2
        clear hSw
        go_wp2
        exact bodyPost_ret (v := .tuple #[.int .i64 mm.1, .int .i64 (sumL ls), .int .i64 0]) (by simp [results, Tryz.results56, go_sem]) rfl ⟨rfl, hbR⟩
  · rw [if_pos (by simpa using hq)]
    go_wp2
    generalize World.alloc w _ = W at hbB p0 p1 ⊢
    have dB0 : Below W.heap.size W W := Below.refl _ _
    refine wp_region_plan (fun w' => w'.cell? ⟨w.heap.size, 0, none⟩ = some (.int .i64 s.1) ∧ w'.cell? ⟨w.heap.size, 1, none⟩ = some (.int .i64 s.2) ∧ Below W.heap.size W w') [1, 3, 4, 5] [0, 2, 1, 3, 4, 5, 6] (by kernel_rfl) (by kernel_rfl) (by ((first | assumption | exact keep2 (by assumption) (by assumption) | exact keep2 (by assumption) (ext_alloc _ _) | exact keep2 (by assumption) (ext_drew _) | exact keep2 ⟨by assumption, by assumption, by assumption⟩ (ext_drew _) | go_keep))) (fun hSw => ?_)
    repeat (first
      | (refine wpPlan_pas rfl rfl (fun K hK => ?_)
         apply Exists.intro
         refine ⟨?_, ?_⟩
         · first | exact pasOk_no rfl | (apply pasOk_yes rfl; intro wS hS; obtain ⟨s0, s1, s2⟩ := hS; go_simp; first | done | exact rfl | ((try simp only [↓IntWalk.iteOmega]); (try go_bits); (try go_simp); first | done | exact rfl))
         go_simp
         refine hK _ ?_
         clear hK K)
      | (refine wpPlan_no rfl rfl rfl (by assumption) (fun K hK => ?_)
         go_simp
         refine hK _ ?_
         clear hK K)
      | (refine wpPlan_act rfl rfl rfl (fun K hK => ?_)
         go_wp2_with (first | (go_at_call 21; refine (hc _ (ext_trans hbB hSw.2.2)).mono ?_; rintro e wA ⟨rfl, hbA⟩) | (go_at_call 103; refine (hp0 _).mono ?_; rintro e wC ⟨rfl, hbC⟩) | (go_at_call 81; refine (first_any [_, _] _ _ (slat_new encI_len (by simp) rfl (by simp))).mono ?_; rintro e w3 ⟨rfl, rfl⟩))
         refine OnlyK.go (hK _ _ (by ((first | assumption | exact keep2 (by assumption) (by assumption) | exact keep2 (by assumption) (ext_alloc _ _) | exact keep2 (by assumption) (ext_drew _) | exact keep2 ⟨by assumption, by assumption, by assumption⟩ (ext_drew _) | go_keep))) (fun hSw => ?_))
         clear hK K))
    refine wpPlan_nil ?_
    have hbT := ext_trans hbB hSw.2.2
    clear hSw
    go_wp2
    exact bodyPost_ret (v := .tuple #[.int .i64 0, .int .i64 0, .int .i64 (firstV [e0, e1])]) (by simp [results, Tryz.results56, go_sem]) rfl ⟨rfl, hbT⟩
end Go.Proofs.YtlogjgmfkjjhjaaGreatDoor
