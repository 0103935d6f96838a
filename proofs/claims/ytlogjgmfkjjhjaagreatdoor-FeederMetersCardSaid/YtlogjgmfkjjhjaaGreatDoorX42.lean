/-
  The reference's CheckInterval, CheckAround; the law's ends.
  The law's ends and own: a slice of one's own that reads the same.
-/
import Derived.Test.YtlogjgmfkjjhjaaGreatDoorX37
import Derived.Test.YtlogjgmfkjjhjaaGreatDoorX09
import Derived.Test.YtlogjgmfkjjhjaaGreatDoorX21
set_option linter.unusedSimpArgs false
set_option linter.unusedVariables false
namespace Go.Proofs.YtlogjgmfkjjhjaaGreatDoor
open Go.RowKit

set_option maxHeartbeats 2000000 in
theorem rInterval_any (lo hi a b : Int) (w : World) : Calls Tryz.prog 86 #[.agg #[.int .i64 lo, .int .i64 hi], .int .i64 a, .int .i64 b] w fun e w' => e = .returned (.int .i64 (firstV [withinV lo a b, withinV hi a b, whenV (decide (hi < lo)) 11])) ∧ Below w.heap.size w w' := by
  go_enter Tryz.func86, Tryz.ntmps86
  go_wp2
  generalize hW : World.alloc w _ = W
  have hbW : Below w.heap.size w W := by rw [← hW]; exact ext_alloc _ _
  have r0 : W.cell? ⟨w.heap.size, 0, none⟩ = some (.int .i64 lo) := by rw [← hW]; simp [World.cell?_alloc_new]
  have r1 : W.cell? ⟨w.heap.size, 1, none⟩ = some (.int .i64 hi) := by rw [← hW]; simp [World.cell?_alloc_new]
  clear hW
  have dB0 : Below W.heap.size W W := Below.refl _ _
  refine wp_region_plan (fun w' => w'.cell? ⟨w.heap.size, 0, none⟩ = some (.int .i64 lo) ∧ w'.cell? ⟨w.heap.size, 1, none⟩ = some (.int .i64 hi) ∧ Below W.heap.size W w') [4, 9, 15, 16, 17] [0, 1, 2, 3, 5, 6, 7, 8, 10, 11, 12, 13, 14, 4, 9, 15, 16, 17, 18] (by kernel_rfl) (by kernel_rfl) (by ((first | assumption | exact keep2 (by assumption) (by assumption) | exact keep2 (by assumption) (ext_alloc _ _) | exact keep2 (by assumption) (ext_drew _) | exact keep2 ⟨by assumption, by assumption, by assumption⟩ (ext_drew _) | go_keep))) (fun hSw => ?_)
  repeat (first
    | (refine wpPlan_pas rfl rfl (fun K hK => ?_)
       apply Exists.intro
       refine ⟨?_, ?_⟩
       · first | exact pasOk_no rfl | (apply pasOk_yes rfl; intro wS hS; obtain ⟨s0, s1, s2⟩ := hS; go_simp; first | done | exact rfl | ((try simp only [↓IntWalk.iteOmega]); (try go_bits); (try go_simp); first | done | exact rfl))
       go_simp
       refine hK _ ?_
       clear hK K)
    | (refine wpPlan_no rfl rfl rfl (by assumption) (fun K hK => ?_)
       go_simp
       refine hK _ ?_
       clear hK K)
    | (refine wpPlan_act rfl rfl rfl (fun K hK => ?_)
       go_wp2_with (first | (go_at_call 78; refine (rRange_any _ _ _ _).mono ?_; rintro e w1 ⟨rfl, rfl⟩) | (go_at_call 15; refine (rWhen_any _ _ _).mono ?_; rintro e w1 ⟨rfl, rfl⟩) | (go_at_call 14; refine (rFirst_any [_, _, _] _ _ (SlAt.drew (slat_new encI_len (by simp) rfl (by simp)))).mono ?_; rintro e w1 ⟨rfl, rfl⟩))
       refine OnlyK.go (hK _ _ (by ((first | assumption | exact keep2 (by assumption) (by assumption) | exact keep2 (by assumption) (ext_alloc _ _) | exact keep2 (by assumption) (ext_drew _) | exact keep2 ⟨by assumption, by assumption, by assumption⟩ (ext_drew _) | go_keep))) (fun hSw => ?_))
       clear hK K))
  refine wpPlan_nil ?_
  go_wp2
  go_ret
  exact ⟨rfl, ext_trans hbW (held2 hSw)⟩
theorem firstV_map_at {α : Type} (f : α → Int) : ∀ (xs : List α) (k : Nat) (hk : k < xs.length), (∀ j y, j < k → xs[j]? = some y → f y = 0) → f xs[k] ≠ 0 → firstV (xs.map f) = f xs[k]
  | [], k, hk, _, _ => by simp at hk
  | x :: r, 0, hk, _, h => by
    simp only [List.getElem_cons_zero] at h ⊢
    rw [List.map_cons, firstV, if_pos h]
  | x :: r, k + 1, hk, h0, h => by
    have hx : f x = 0 := h0 0 x (by omega) rfl
    simp only [List.getElem_cons_succ] at h ⊢
    rw [List.map_cons, firstV, if_neg (by simp [hx])]
    exact firstV_map_at f r k (by simpa using hk) (fun j y hj hy => h0 (j + 1) y (by omega) (by simpa using hy)) h

set_option maxHeartbeats 4000000 in
theorem rCheckAround_any (l : List Nd) (v va : Value) (around : List (Int × Int)) (w : World) (hs : SlAt encN 7 w v l) (ha : SlAt encG 2 w va around) :
    Calls Tryz.prog 27 #[v, va] w fun e w' => e = .returned (.int .i64 (endsErr l around)) ∧ Below w.heap.size w w' := by
  obtain ⟨A, c, rfl, hc, hm, _⟩ := hs
  obtain ⟨A', c', rfl, hc', hm', hr⟩ := ha
  have hlen : l.length ≤ 9223372036854775807 := by omega
  have hlen' : around.length ≤ 9223372036854775807 := by omega
  by_cases hne : around.length = l.length
  · have hd : ((around.length : Int) != (l.length : Int)) = false := by simp [hne]
    have hE : endsErr l around = firstV (around.map endErr) := by unfold endsErr; rw [if_neg (by simp [hne])]
    rw [hE]
    generalize hres : firstV (around.map endErr) = res
    have HRES := Lib.hid hres
    clear hres hne hE
    go_enter Tryz.func27, Tryz.ntmps27
    go_wp2
    go_loopw [5, 6] (fun i e wr => ∃ k : Nat, k ≤ around.length ∧ i = .int .i64 k ∧ Below w.heap.size w wr ∧ Hid (∀ j y, j < k → around[j]? = some y → endErr y = 0)) (fun i _ _ => around.length - (intOf i).toNat)
    case atStart => exact ⟨0, Nat.zero_le _, rfl, Below.refl _ _, fun j y hj => absurd hj (Nat.not_lt_zero _)⟩
    case round =>
      obtain ⟨k, hk, rfl, hb, hz⟩ := hrel
      by_cases hlt : k < around.length
      · obtain ⟨b, off, rfl, hbl, hcell⟩ := hr (by omega)
        have hx : around[k]? = some around[k] := List.getElem?_eq_getElem hlt
        have c0 := ext_cell hb (hcell k _ hx 0 _ rfl)
        have c1 := ext_cell hb (hcell k _ hx 1 _ rfl)
        rw [Nat.add_zero] at c0
        have hbad : endErr around[k] ≠ 0 → res = endErr around[k] := fun h => by rw [← HRES.out]; exact firstV_map_at endErr around k hlt hz.out h
        have hin := fun W => rInterval_any around[k].1 around[k].2 (-1000000000) 1000000000 W
        have hin' : ∀ W, Calls Tryz.prog 86 #[.agg #[.int .i64 around[k].1, .int .i64 around[k].2], .int .i64 (-1000000000), .int .i64 1000000000] W fun e w' => e = .returned (.int .i64 (endErr around[k])) ∧ Below W.heap.size W w' := hin
        generalize around[k] = x at hx c0 c1 hbad hin'
        generalize hee : endErr x = ee at hbad hin'
        have HX := Lib.hid hx
        have HE := Lib.hid hee
        have HBAD := Lib.hid hbad
        clear hcell hr hx hbad hin hee
        cases hq : (ee != 0)
        · have h0 : ee = 0 := by simpa using hq
          have H0 := Lib.hid h0
          clear h0
          go_wp2_with (go_at_call 86; refine (hin' _).mono ?_; rintro e w1 ⟨rfl, hb1⟩; have hbn := ext_trans hb hb1)
          go_roundw
          case rel => exact ⟨k + 1, by omega, by go_num, hbn, fun j y hj hy => by
            by_cases e : j = k
            · subst e; have := HX.out; rw [hy] at this; cases this; rw [HE.out]; exact H0.out
            · exact hz.out j y (by omega) hy⟩
          case measure => simp [intOf]; omega
        · have HB := Lib.hid (HBAD.out (by simpa using hq))
          go_wp2_with (go_at_call 86; refine (hin' _).mono ?_; rintro e w1 ⟨rfl, hb1⟩; have hbn := ext_trans hb hb1)
          go_ret
          exact ⟨by rw [HB.out]; rfl, hbn⟩
      · obtain rfl : k = around.length := by omega
        have hall : res = 0 := by
          rw [← HRES.out, firstV_zero]
          intro y hy
          obtain ⟨x, hx, rfl⟩ := List.mem_map.1 hy
          obtain ⟨j, hj, e⟩ := List.getElem_of_mem hx
          exact hz.out j x hj (by rw [List.getElem?_eq_getElem hj, e])
        have HA := Lib.hid hall
        clear hall hr
        go_wp2
        go_ret
        exact ⟨by rw [HA.out]; rfl, hb⟩
  · have hd : ((around.length : Int) != (l.length : Int)) = true := by simp; omega
    have hE : endsErr l around = 2 := by unfold endsErr; rw [if_pos hne]
    rw [hE]
    clear hne hE hr
    go_enter Tryz.func27, Tryz.ntmps27
    go_wp2
    go_ret
    exact ⟨rfl, Below.refl _ _⟩
end Go.Proofs.YtlogjgmfkjjhjaaGreatDoor
namespace Go.Proofs.YtlogjgmfkjjhjaaGreatDoor
open Go.RowKit

theorem ends_any_lit (w : World) : (w.alloc (.cells #[] 105)).ownsRow w.heap.size 105 2 (.slice (some ⟨w.heap.size, 0, none⟩) 0 0) 0 [] :=
  ⟨by simp, .inr ⟨w.heap.size, 0, _, rfl, Nat.le_refl _, heap_alloc_new w _, Nat.le_refl _, by unfold maxLen; omega, by simp, by simp⟩⟩
set_option maxHeartbeats 1000000 in
theorem ends_any (xs : List (Int × Int)) (v : Value) (w : World) (hs : SlAt encG 2 w v xs) (hn : xs.length ≤ 1048576) :
    Calls Tryz.prog 25 #[v] w fun e w' => ∃ u, e = .returned u ∧ SlAt encG 2 w' u xs ∧ Below w.heap.size w w' := by
  obtain ⟨A, c, rfl, hc, hm, hr⟩ := hs
  obtain ⟨iS, hiS, hiS2⟩ := Option.map_eq_some_iff.1 infoIv
  simp only [Prod.mk.injEq] at hiS2
  obtain ⟨hiz, his, hib⟩ := hiS2
  have HIZ := Lib.hid hiz
  have HIS := Lib.hid his
  have HIB := Lib.hid hib
  have HII := Lib.hid hiS
  clear hiz his hib hiS
  cases A with
  | none =>
    have h0 : xs = [] := by
      cases xs with
      | nil => rfl
      | cons a r => obtain ⟨b, off, h, _⟩ := hr (by simp); cases h
    subst h0
    simp only [List.length_nil] at *
    go_enter Tryz.func25, Tryz.ntmps25
    go_wp2
    go_ret
    exact ⟨_, rfl, ⟨some ⟨w.heap.size, 0, none⟩, 0, rfl, Nat.le_refl _, by omega, fun h => absurd h (by simp)⟩, ext_alloc _ _⟩
  | some ad =>
    have hnews : ∀ j u, (xs.flatMap encG)[j]? = some u → (w.alloc (.cells #[] 105)).cell? (ad.add j) = some u := by
      intro j u h
      cases xs with
      | nil => simp at h
      | cons a r =>
        obtain ⟨b, off, e, hbl, hcell⟩ := hr (by simp)
        cases e
        rw [add_lit]
        exact ext_cell (ext_alloc _ _) (flat_cells encG_len hcell j u h)
    clear hr
    go_enter Tryz.func25, Tryz.ntmps25
    go_wp2_with (at_builtin; refine wpList_append_own_at _ rfl _ _ 46 rfl w.heap.size 105 iS (.agg #[.int .i64 0, .int .i64 0]) 2 16 Tryz.underlying46 HII.out HIZ.out HIS.out HIB.out rfl (by decide) _ 0 _ rfl (ends_any_lit w) ad _ c (xs.flatMap encG) rfl (flat_len encG_len _) hnews (fun u hu => by obtain ⟨x, _, hx⟩ := List.mem_flatMap.1 hu; simp only [encG, List.mem_cons, List.mem_nil_iff, or_false] at hx; rcases hx with rfl | rfl <;> rfl) (by unfold maxLen; omega) (by omega) (by simp) ?_; intro v4 w4 hown4 hgw4 hnw4 hat4)
    go_ret
    have hown : Own encG 2 w.heap.size 105 w4 v4 xs := by unfold Own; simpa using hown4
    exact ⟨_, rfl, hown.slat encG_len, (ext_alloc w _).grown hgw4 (by simp) (fun j e => by cases e; exact Nat.le_refl _)⟩
theorem own_any_lit (w : World) : (w.alloc (.cells #[] 9)).ownsRow w.heap.size 9 1 (.slice (some ⟨w.heap.size, 0, none⟩) 0 0) 0 [] :=
  ⟨by simp, .inr ⟨w.heap.size, 0, _, rfl, Nat.le_refl _, heap_alloc_new w _, Nat.le_refl _, by unfold maxLen; omega, by simp, by simp⟩⟩
set_option maxHeartbeats 1000000 in
theorem own_any (xs : List ByteArray) (v : Value) (w : World) (hs : SlAt encS 1 w v xs) (hn : xs.length ≤ 1048576) :
    Calls Tryz.prog 46 #[v] w fun e w' => ∃ u, e = .returned u ∧ SlAt encS 1 w' u xs ∧ Below w.heap.size w w' := by
  obtain ⟨A, c, rfl, hc, hm, hr⟩ := hs
  obtain ⟨iS, hiS, hiS2⟩ := Option.map_eq_some_iff.1 infoS
  simp only [Prod.mk.injEq] at hiS2
  obtain ⟨hiz, his, hib⟩ := hiS2
  have HIZ := Lib.hid hiz
  have HIS := Lib.hid his
  have HIB := Lib.hid hib
  have HII := Lib.hid hiS
  clear hiz his hib hiS
  cases A with
  | none =>
    have h0 : xs = [] := by
      cases xs with
      | nil => rfl
      | cons a r => obtain ⟨b, off, h, _⟩ := hr (by simp); cases h
    subst h0
    simp only [List.length_nil] at *
    go_enter Tryz.func46, Tryz.ntmps46
    go_wp2
    go_ret
    exact ⟨_, rfl, ⟨some ⟨w.heap.size, 0, none⟩, 0, rfl, Nat.le_refl _, by omega, fun h => absurd h (by simp)⟩, ext_alloc _ _⟩
  | some ad =>
    have hnews : ∀ j u, (xs.flatMap encS)[j]? = some u → (w.alloc (.cells #[] 9)).cell? (ad.add j) = some u := by
      intro j u h
      cases xs with
      | nil => simp at h
      | cons a r =>
        obtain ⟨b, off, e, hbl, hcell⟩ := hr (by simp)
        cases e
        rw [add_lit]
        exact ext_cell (ext_alloc _ _) (flat_cells encS_len hcell j u h)
    clear hr
    go_enter Tryz.func46, Tryz.ntmps46
    go_wp2_with (at_builtin; refine wpList_append_own_at _ rfl _ _ 25 rfl w.heap.size 9 iS (.string ByteArray.empty) 1 16 Tryz.underlying25 HII.out HIZ.out HIS.out HIB.out rfl (by decide) _ 0 _ rfl (own_any_lit w) ad _ c (xs.flatMap encS) rfl (flat_len encS_len _) hnews (fun u hu => by obtain ⟨x, _, hx⟩ := List.mem_flatMap.1 hu; simp only [encS, List.mem_cons, List.mem_nil_iff, or_false] at hx; rcases hx with rfl | rfl <;> rfl) (by unfold maxLen; omega) (by omega) (by simp) ?_; intro v4 w4 hown4 hgw4 hnw4 hat4)
    go_ret
    have hown : Own encS 1 w.heap.size 9 w4 v4 xs := by unfold Own; simpa using hown4
    exact ⟨_, rfl, hown.slat encS_len, (ext_alloc w _).grown hgw4 (by simp) (fun j e => by cases e; exact Nat.le_refl _)⟩
end Go.Proofs.YtlogjgmfkjjhjaaGreatDoor
