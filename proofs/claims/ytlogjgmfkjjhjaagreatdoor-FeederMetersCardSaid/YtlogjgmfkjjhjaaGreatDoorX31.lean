/-
  Contracts of the reference's small functions: When, First, CheckRange, IsName, CheckName, checkParts, Plus.
-/
import Derived.Test.YtlogjgmfkjjhjaaGreatDoorX06
import Derived.Test.YtlogjgmfkjjhjaaGreatDoorX05
import Derived.Test.YtlogjgmfkjjhjaaGreatDoorX02
set_option linter.unusedSimpArgs false
set_option linter.unusedVariables false
namespace Go.Proofs.YtlogjgmfkjjhjaaGreatDoor
open Go.RowKit

theorem rWhen_any (b : Bool) (x : Int) (w : World) : Calls Tryz.prog 15 #[.bool b, .int .i64 x] w fun e w' => e = .returned (.int .i64 (whenV b x)) ∧ w = w' := by
  cases b
  · go_enter Tryz.func15, Tryz.ntmps15
    go_wp2
    go_ret
    exact ⟨rfl, rfl⟩
  · go_enter Tryz.func15, Tryz.ntmps15
    go_wp2
    go_ret
    exact ⟨rfl, rfl⟩

set_option maxHeartbeats 400000 in
theorem rFirst_any (xs : List Int) (v : Value) (w : World) (hs : SlAt encI 1 w v xs) : Calls Tryz.prog 14 #[v] w fun e w' => e = .returned (.int .i64 (firstV xs)) ∧ w = w' := by
  obtain ⟨A, c, rfl, hc, hm, hr⟩ := hs
  have hlen : xs.length ≤ 9223372036854775807 := by omega
  go_enter Tryz.func14, Tryz.ntmps14
  go_wp2
  go_loop [3] (fun i => ∃ k : Nat, k ≤ xs.length ∧ i = .int .i64 k ∧ Hid (∀ j, j < k → xs.getD j 0 = 0)) (fun i => xs.length - (intOf i).toNat)
  case atStart => exact ⟨0, Nat.zero_le _, rfl, fun j hj => absurd hj (Nat.not_lt_zero _)⟩
  case round =>
    obtain ⟨k, hk, rfl, hz⟩ := hrel
    by_cases hlt : k < xs.length
    · obtain ⟨b, off, rfl, hb, hc⟩ := hr (by omega)
      have hcell : w.cell? ⟨b, off + k, none⟩ = some (.int .i64 (xs[k])) := by
        have := hc k xs[k] (List.getElem?_eq_getElem hlt) 0 _ rfl
        simpa using this
      clear hc hr
      generalize hx : xs[k] = x at hcell
      have HX : Hid (xs[k] = x) := hx
      clear hx
      cases hq : (x != 0)
      · go_wp2
        go_round
        case rel => exact ⟨k + 1, by omega, by go_num, fun j hj => by
          by_cases e : j = k
          · subst e; have := HX.out; simp at hq; simp [hlt, this, hq]
          · exact hz.out j (by omega)⟩
        case measure => simp [intOf]; omega
      · go_wp2
        go_ret
        refine ⟨?_, rfl⟩
        rw [firstV_drop xs k hz.out, List.drop_eq_getElem_cons hlt, HX.out, firstV, if_pos (by simpa using hq)]; rfl
    · go_wp2
      go_ret
      refine ⟨?_, rfl⟩
      rw [firstV_drop xs k hz.out, List.drop_of_length_le (by omega)]; rfl

theorem rRange_any (n a b : Int) (w : World) : Calls Tryz.prog 78 #[.int .i64 n, .int .i64 a, .int .i64 b] w fun e w' => e = .returned (.int .i64 (withinV n a b)) ∧ w = w' := by
  by_cases h1 : n < a
  · go_enter Tryz.func78, Tryz.ntmps78
    go_wp2_with (go_at_call 15; refine (rWhen_any _ _ _).mono ?_; rintro e w' ⟨rfl, rfl⟩)
    go_ret
    exact ⟨by simp [withinV, whenV, h1], rfl⟩
  · by_cases h2 : b < n
    · go_enter Tryz.func78, Tryz.ntmps78
      go_wp2_with (go_at_call 15; refine (rWhen_any _ _ _).mono ?_; rintro e w' ⟨rfl, rfl⟩)
      go_ret
      exact ⟨by simp [withinV, whenV, h2], rfl⟩
    · go_enter Tryz.func78, Tryz.ntmps78
      go_wp2_with (go_at_call 15; refine (rWhen_any _ _ _).mono ?_; rintro e w' ⟨rfl, rfl⟩)
      go_ret
      exact ⟨by simp [withinV, whenV, h1, h2], rfl⟩

set_option maxHeartbeats 2000000 in
theorem rIsName_any (s : ByteArray) (w : World) (hs : s.size ≤ 9223372036854775807) : Calls Tryz.prog 139 #[.string s] w fun e w' => e = .returned (.bool (isNameB s)) ∧ w = w' := by
  by_cases h0 : s.size = 0
  · have hd : ((s.size : Int) == 0) = true := by simpa using h0
    have hn : isNameB s = false := by unfold isNameB; simp [h0]
    rw [hn]
    clear hn h0
    go_enter Tryz.func139, Tryz.ntmps139
    go_wp2
    go_ret
    exact ⟨rfl, rfl⟩
  have hd : ((s.size : Int) == 0) = false := by simpa using h0
  by_cases h24 : 24 < s.size
  · have hd2 : decide ((24 : Int) < (s.size : Int)) = true := by simp; omega
    have hn : isNameB s = false := by unfold isNameB; simp; intro _ _; omega
    rw [hn]
    clear hn h0 h24
    go_enter Tryz.func139, Tryz.ntmps139
    go_wp2
    go_ret
    exact ⟨rfl, rfl⟩
  have hd2 : decide ((24 : Int) < (s.size : Int)) = false := by simp; omega
  generalize hres : isNameB s = res
  have HRES := Lib.hid hres
  have H0 := Lib.hid h0
  have H24 := Lib.hid h24
  clear hres h0 h24
  go_enter Tryz.func139, Tryz.ntmps139
  go_wp2
  go_loop [3] (fun i => ∃ k : Nat, k ≤ s.size ∧ i = .int .i64 k ∧ Hid (∀ j (h : j < s.data.toList.length), j < k → goodC (j == 0) (s.data.toList[j].toNat) = true)) (fun i => s.size - (intOf i).toNat)
  case atStart => exact ⟨0, Nat.zero_le _, rfl, fun j _ hj => absurd hj (Nat.not_lt_zero _)⟩
  case round =>
    obtain ⟨k, hk, rfl, hg⟩ := hrel
    clear hd hd2
    by_cases hlt : k < s.size
    · have hbad : (goodC (k == 0) s[k].toNat = false) → res = false := fun h => HRES.out ▸ isName_bad s k hlt hg.out h
      have HBAD := Lib.hid hbad
      clear hbad
      have hstep : goodC (k == 0) s[k].toNat = true → Hid (∀ j (h : j < s.data.toList.length), j < k + 1 → goodC (j == 0) (s.data.toList[j].toNat) = true) := fun h j hj hjp => by
        by_cases ej : j = k
        · subst ej; exact h
        · exact hg.out j hj (by omega)
      have HSTEP := Lib.hid hstep
      clear hstep hg
      have hidx : (Instr.index 9 (.string s) (.int .i64 (k : Int))).run Tryz.prog w = .ok (.int .u8 (s[k].toNat : Int)) w := by
        rw [run_index_string _ _ _ _ _ Tryz.underlying9, dif_pos ⟨by omega, by omega⟩]
        rfl
      have hcc : ∀ n : Nat, n = s[k].toNat → (goodC (k == 0) n = false → res = false) ∧ (goodC (k == 0) n = true → Hid (∀ j (h : j < s.data.toList.length), j < k + 1 → goodC (j == 0) (s.data.toList[j].toNat) = true)) := fun n e => by
        subst e; exact ⟨HBAD.out, HSTEP.out⟩
      generalize s[k].toNat = n at hidx hcc
      obtain ⟨hbad, hstep⟩ := hcc n rfl
      clear hcc HBAD HSTEP
      by_cases hlet : (65 ≤ n ∧ n ≤ 90) ∨ (97 ≤ n ∧ n ≤ 122)
      · have HF := hstep (goodC_yes _ _ (by omega))
        have hs : ∃ b48 b57 b95 : Bool, decide ((48 : Int) ≤ (n : Int)) = b48 ∧ decide ((n : Int) ≤ 57) = b57 ∧ ((n : Int) == 95) = b95 := ⟨_, _, _, rfl, rfl, rfl⟩
        have f48 : decide ((48 : Int) ≤ (n : Int)) = true := by simp; omega
        have f57 : decide ((n : Int) ≤ 57) = false := by simp; omega
        have f95 : ((n : Int) == 95) = false := by simp; omega
        clear hs
        have hcs : (decide ((65 : Int) ≤ (n : Int)) = true ∧ decide ((n : Int) ≤ 90) = true) ∨ (decide ((65 : Int) ≤ (n : Int)) = true ∧ decide ((n : Int) ≤ 90) = false ∧ decide ((97 : Int) ≤ (n : Int)) = true ∧ decide ((n : Int) ≤ 122) = true) := by simp only [decide_eq_true_eq, decide_eq_false_iff_not]; omega
        clear hlet hbad hstep
        rcases hcs with ⟨g1, g2⟩ | ⟨g1, g2, g3, g4⟩
        all_goals
          go_wp2
          go_round
          case rel => exact ⟨k + 1, by omega, by go_num, HF⟩
          case measure => simp [intOf]; omega
      · have hnl : (decide ((65 : Int) ≤ (n : Int)) = false ∧ decide ((97 : Int) ≤ (n : Int)) = false) ∨ (decide ((65 : Int) ≤ (n : Int)) = true ∧ decide ((n : Int) ≤ 90) = false ∧ decide ((97 : Int) ≤ (n : Int)) = false) ∨ (decide ((65 : Int) ≤ (n : Int)) = true ∧ decide ((n : Int) ≤ 90) = false ∧ decide ((97 : Int) ≤ (n : Int)) = true ∧ decide ((n : Int) ≤ 122) = false) := by simp only [decide_eq_true_eq, decide_eq_false_iff_not]; omega
        by_cases hoth : n = 95 ∨ (48 ≤ n ∧ n ≤ 57)
        · have hdo : (decide ((48 : Int) ≤ (n : Int)) = true ∧ decide ((n : Int) ≤ 57) = true) ∨ (decide ((48 : Int) ≤ (n : Int)) = true ∧ decide ((n : Int) ≤ 57) = false ∧ ((n : Int) == 95) = true) := by simp only [decide_eq_true_eq, decide_eq_false_iff_not, beq_iff_eq]; omega
          by_cases hz : k = 0
          · have hb := hbad (goodC_not _ _ (by omega) (by omega) (.inl (by simp [hz])))
            have HB := Lib.hid hb
            have hz2 : ((k : Int) == 0) = true := by simp; omega
            clear hb hbad hstep hlet hoth hz
            rcases hdo with ⟨d1, d2⟩ | ⟨d1, d2, d3⟩ <;> rcases hnl with ⟨g1, g3⟩ | ⟨g1, g2, g3⟩ | ⟨g1, g2, g3, g4⟩
            all_goals
              go_wp2
              go_ret
              exact ⟨by rw [HB.out]; rfl, rfl⟩
          · have HF := hstep (goodC_yes _ _ (.inr (.inr ⟨by simpa using hz, hoth⟩)))
            have hz2 : ((k : Int) == 0) = false := by simp; omega
            clear hbad hstep hlet hoth hz
            rcases hdo with ⟨d1, d2⟩ | ⟨d1, d2, d3⟩ <;> rcases hnl with ⟨g1, g3⟩ | ⟨g1, g2, g3⟩ | ⟨g1, g2, g3, g4⟩
            all_goals
              go_wp2
              go_round
              case rel => exact ⟨k + 1, by omega, by go_num, HF⟩
              case measure => simp [intOf]; omega
        · have hb := hbad (goodC_not _ _ (by omega) (by omega) (.inr (by omega)))
          have HB := Lib.hid hb
          have hdo : (decide ((48 : Int) ≤ (n : Int)) = false ∧ ((n : Int) == 95) = false) ∨ (decide ((48 : Int) ≤ (n : Int)) = true ∧ decide ((n : Int) ≤ 57) = false ∧ ((n : Int) == 95) = false) := by simp only [decide_eq_true_eq, decide_eq_false_iff_not, beq_eq_false_iff_ne]; omega
          clear hb hbad hstep hlet hoth
          cases hz2 : ((k : Int) == 0)
          all_goals
            rcases hdo with ⟨d1, d3⟩ | ⟨d1, d2, d3⟩ <;> rcases hnl with ⟨g1, g3⟩ | ⟨g1, g2, g3⟩ | ⟨g1, g2, g3, g4⟩
            all_goals
              go_wp2
              go_ret
              exact ⟨by rw [HB.out]; rfl, rfl⟩
    · obtain rfl : k = s.size := by omega
      have hend : res = true := by
        rw [← HRES.out, isName_end s hg.out]
        have h1 : (s.size != 0) = true := by have := H0.out; simpa using this
        have h2 : decide (s.size ≤ 24) = true := by have := H24.out; simp; omega
        rw [h1, h2]
        rfl
      have HE := Lib.hid hend
      clear hend hg
      go_wp2
      go_ret
      exact ⟨by rw [HE.out]; rfl, rfl⟩

theorem rCheckName_any (s : ByteArray) (w : World) (hs : s.size ≤ 9223372036854775807) : Calls Tryz.prog 76 #[.string s] w fun e w' => e = .returned (.int .i64 (whenV (!isNameB s) 8)) ∧ w = w' := by
  go_enter Tryz.func76, Tryz.ntmps76
  go_wp2_with (first
    | (go_at_call 139; refine (rIsName_any _ _ hs).mono ?_; rintro e w' ⟨rfl, rfl⟩)
    | (go_at_call 15; refine (rWhen_any _ _ _).mono ?_; rintro e w' ⟨rfl, rfl⟩))
  go_ret
  exact ⟨rfl, rfl⟩

set_option maxHeartbeats 1000000 in
theorem rParts_any (re im a b : Int) (w : World) : Calls Tryz.prog 77 #[.agg #[.int .i64 re, .int .i64 im], .int .i64 a, .int .i64 b] w fun e w' => e = .returned (.int .i64 (partsV re im a b)) ∧ Below w.heap.size w w' := by
  go_enter Tryz.func77, Tryz.ntmps77
  go_wp2
  go_region_held3 (fun w' => w'.cell? ⟨w.heap.size, 0, none⟩ = some (.int .i64 re) ∧ w'.cell? ⟨w.heap.size, 1, none⟩ = some (.int .i64 im)) (go_keep)
    (first
      | (go_at_call_of 78 (Value.int .i64 re); refine (rRange_any _ _ _ _).mono ?_; rintro e w' ⟨rfl, rfl⟩)
      | (go_at_call_of 78 (Value.int .i64 im); refine (rRange_any _ _ _ _).mono ?_; rintro e w' ⟨rfl, rfl⟩)
      | (go_at_call 14; refine (rFirst_any [_, _] _ _ (SlAt.drew (slat_new encI_len (by simp) rfl (by simp)))).mono ?_; rintro e w' ⟨rfl, rfl⟩))
  go_wp2
  go_ret
  exact ⟨rfl, by (repeat (first | exact Below.refl _ _ | assumption | refine Below.drew ?_ | refine Below.alloc ?_ (by simp <;> omega) _ | refine Below.alloc ?_ (by simp) _ | refine Below.setCell ?_ (by simp) _))⟩

set_option maxHeartbeats 400000 in
theorem rPlus_any (a b c d : Int) (w : World) (h1 : -9223372036854775808 ≤ a + c) (h2 : a + c ≤ 9223372036854775807) (h3 : -9223372036854775808 ≤ b + d) (h4 : b + d ≤ 9223372036854775807) :
    Calls Tryz.prog 80 #[.agg #[.int .i64 a, .int .i64 b], .agg #[.int .i64 c, .int .i64 d]] w fun e w' => e = .returned (.agg #[.int .i64 (a + c), .int .i64 (b + d)]) ∧ Below w.heap.size w w' := by
  go_enter Tryz.func80, Tryz.ntmps80
  go_wp2
  exact bodyPost_ret (v := .agg #[.int .i64 (a + c), .int .i64 (b + d)]) (by simp [results, Tryz.results80, go_sem]) rfl ⟨rfl, by (repeat (first | exact Below.refl _ _ | assumption | refine Below.drew ?_ | refine Below.alloc ?_ (by simp <;> omega) _ | refine Below.alloc ?_ (by simp) _ | refine Below.setCell ?_ (by simp) _))⟩
end Go.Proofs.YtlogjgmfkjjhjaaGreatDoor
