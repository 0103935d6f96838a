/-
  Contracts of the reference's SameWords, SameInts, SameGauss, SameIntervals, HasWord, HasInt, Find.
-/
import Derived.Test.YtlogjgmfkjjhjaaGreatDoorX31
import Derived.Test.YtlogjgmfkjjhjaaGreatDoorX07
set_option linter.unusedSimpArgs false
set_option linter.unusedVariables false
namespace Go.Proofs.YtlogjgmfkjjhjaaGreatDoor
open Go.RowKit

theorem eq_of_gets2 {α : Type} : ∀ (xs ys : List α), xs.length = ys.length → (∀ j, j < xs.length → xs[j]? = ys[j]?) → xs = ys := fun xs ys hl h => by
  apply List.ext_getElem?
  intro i
  by_cases hi : i < xs.length
  · exact h i hi
  · rw [List.getElem?_eq_none (by omega), List.getElem?_eq_none (by omega)]

theorem beq_int (x y : Int) : (x == y) = decide (x = y) := by by_cases h : x = y <;> simp [h]
set_option maxHeartbeats 2000000 in
theorem sameWords_any (xs ys : List ByteArray) (v1 v2 : Value) (w : World) (h1 : SlAt encS 1 w v1 xs) (h2 : SlAt encS 1 w v2 ys) :
    Calls Tryz.prog 22 #[v1, v2] w fun e w' => e = .returned (.bool (decide (xs = ys))) ∧ Below w.heap.size w w' := by
  obtain ⟨A, c, rfl, hc1, hc2, hr⟩ := h1
  obtain ⟨A', c', rfl, hc1', hc2', hr'⟩ := h2
  go_enter Tryz.func22, Tryz.ntmps22
  have hil : ((xs.length : Int) != (ys.length : Int)) = !decide (xs.length = ys.length) := by by_cases h : xs.length = ys.length <;> simp [h, bne] <;> omega
  cases hq : decide (xs.length = ys.length)
  · rw [hq] at hil
    have hne : decide (xs = ys) = false := by simp; intro e; rw [e] at hq; simp at hq
    rw [hne]
    clear hne hq
    go_wp2
    go_ret
    exact ⟨rfl, Below.refl _ _⟩
  · rw [hq] at hil
    have hll : xs.length = ys.length := by simpa using hq
    have HLL := Lib.hid hll
    have hlen : xs.length ≤ 9223372036854775807 := by omega
    generalize hres : decide (xs = ys) = res
    have HRES := Lib.hid hres
    clear hll hq hres
    go_wp2
    go_loopw [5] (fun i wr => ∃ k : Nat, k ≤ xs.length ∧ i = .int .i64 k ∧ Below w.heap.size w wr ∧ Hid (∀ j, j < k → xs[j]? = ys[j]?)) (fun i _ => xs.length - (intOf i).toNat)
    case atStart => exact ⟨0, Nat.zero_le _, rfl, Below.refl _ _, fun j h => by omega⟩
    case round =>
      obtain ⟨k, hk, rfl, hb, hz⟩ := hrel
      by_cases hlt : k < xs.length
      · have hlt' : k < ys.length := by have := HLL.out; omega
        obtain ⟨b1, o1, rfl, hbl1, hcell1⟩ := hr (by omega)
        obtain ⟨b2, o2, rfl, hbl2, hcell2⟩ := hr' (by omega)
        have hx : xs[k]? = some xs[k] := List.getElem?_eq_getElem hlt
        have hy : ys[k]? = some ys[k] := List.getElem?_eq_getElem hlt'
        have x0 := ext_cell hb (hcell1 k _ hx 0 _ rfl)
        have y0 := ext_cell hb (hcell2 k _ hy 0 _ rfl)
        rw [Nat.add_zero, Nat.mul_one] at x0 y0
        generalize xs[k] = x at hx x0
        generalize ys[k] = y at hy y0
        have HX := Lib.hid hx
        have HY := Lib.hid hy
        have HBE : Hid ((x.toList == y.toList) = decide (x = y)) := Lib.hid (by first | exact beq_str x y | (by_cases h : x = y <;> simp [h]))
        clear hx hy hcell1 hcell2 hr hr'
        cases hq : ((x.toList == y.toList))
        · skip
          go_wp2
          refine wp_region_plan (fun w' => w'.cell? ⟨b1, o1 + k, none⟩ = some (.string x) ∧ w'.cell? ⟨b2, o2 + k, none⟩ = some (.string y) ∧ Below w.heap.size w w') [] [0, 1, 2, 3, 4, 5, 6, 7, 8] (by kernel_rfl) (by kernel_rfl) (by ((first | assumption | exact keep2 (by assumption) (by assumption) | exact keep2 (by assumption) (ext_alloc _ _) | exact keep2 (by assumption) (ext_drew _) | exact keep2 ⟨by assumption, by assumption, by assumption⟩ (ext_drew _) | go_keep))) (fun hSw => ?_)
          repeat (first
            | (refine wpPlan_pas rfl rfl (fun K hK => ?_)
               apply Exists.intro
               refine ⟨?_, ?_⟩
               · first | exact pasOk_no rfl | (apply pasOk_yes rfl; intro wS hS; obtain ⟨s0, s1, s2⟩ := hS; go_simp; first | done | exact rfl | ((try simp only [↓IntWalk.iteOmega]); (try go_bits); (try go_simp); first | done | exact rfl))
               go_simp
               refine hK _ ?_
               clear hK K)
            | (refine wpPlan_no rfl rfl rfl (by assumption) (fun K hK => ?_)
               go_simp
               refine hK _ ?_
               clear hK K)
            | (refine wpPlan_act rfl rfl rfl (fun K hK => ?_)
               go_wp2
               refine OnlyK.go (hK _ _ (by ((first | assumption | exact keep2 (by assumption) (by assumption) | exact keep2 (by assumption) (ext_alloc _ _) | exact keep2 (by assumption) (ext_drew _) | exact keep2 ⟨by assumption, by assumption, by assumption⟩ (ext_drew _) | go_keep))) (fun hSw => ?_))
               clear hK K))
          refine wpPlan_nil ?_
          have hbS := held2 hSw
          clear hSw
          have hne : res = false := by
            rw [← HRES.out]
            simp only [decide_eq_false_iff_not]
            intro e
            have hxx := HX.out
            have hyy := HY.out
            rw [e, hyy] at hxx
            simp only [Option.some.injEq] at hxx
            subst hxx
            have := HBE.out
            rw [hq] at this
            simp at this
          have HNE := Lib.hid hne
          clear hne
          go_wp2
          go_ret
          exact ⟨by rw [HNE.out]; rfl, hbS⟩
        · skip
          go_wp2
          refine wp_region_plan (fun w' => w'.cell? ⟨b1, o1 + k, none⟩ = some (.string x) ∧ w'.cell? ⟨b2, o2 + k, none⟩ = some (.string y) ∧ Below w.heap.size w w') [] [0, 1, 2, 3, 4, 5, 6, 7, 8] (by kernel_rfl) (by kernel_rfl) (by ((first | assumption | exact keep2 (by assumption) (by assumption) | exact keep2 (by assumption) (ext_alloc _ _) | exact keep2 (by assumption) (ext_drew _) | exact keep2 ⟨by assumption, by assumption, by assumption⟩ (ext_drew _) | go_keep))) (fun hSw => ?_)
          repeat (first
            | (refine wpPlan_pas rfl rfl (fun K hK => ?_)
               apply Exists.intro
               refine ⟨?_, ?_⟩
               · first | exact pasOk_no rfl | (apply pasOk_yes rfl; intro wS hS; obtain ⟨s0, s1, s2⟩ := hS; go_simp; first | done | exact rfl | ((try simp only [↓IntWalk.iteOmega]); (try go_bits); (try go_simp); first | done | exact rfl))
               go_simp
               refine hK _ ?_
               clear hK K)
            | (refine wpPlan_no rfl rfl rfl (by assumption) (fun K hK => ?_)
               go_simp
               refine hK _ ?_
               clear hK K)
            | (refine wpPlan_act rfl rfl rfl (fun K hK => ?_)
               go_wp2
               refine OnlyK.go (hK _ _ (by ((first | assumption | exact keep2 (by assumption) (by assumption) | exact keep2 (by assumption) (ext_alloc _ _) | exact keep2 (by assumption) (ext_drew _) | exact keep2 ⟨by assumption, by assumption, by assumption⟩ (ext_drew _) | go_keep))) (fun hSw => ?_))
               clear hK K))
          refine wpPlan_nil ?_
          have hbS := held2 hSw
          clear hSw
          have hxy : x = y := by have := HBE.out; rw [hq] at this; simpa using this.symm
          have HXY := Lib.hid hxy
          clear hxy
          go_wp2
          go_roundw
          case rel => exact ⟨k + 1, by omega, by go_num, hbS, fun j hj => by
            by_cases e : j = k
            · subst e; rw [HX.out, HY.out, HXY.out]
            · exact hz.out j (by omega)⟩
          case measure => simp [intOf]; omega
      · obtain rfl : k = xs.length := by omega
        have hne : res = true := by
          rw [← HRES.out]
          simp only [decide_eq_true_eq]
          exact eq_of_gets2 xs ys HLL.out hz.out
        have HNE := Lib.hid hne
        clear hne
        go_wp2
        go_ret
        exact ⟨by rw [HNE.out]; rfl, hb⟩
set_option maxHeartbeats 2000000 in
theorem sameInts_any (xs ys : List Int) (v1 v2 : Value) (w : World) (h1 : SlAt encI 1 w v1 xs) (h2 : SlAt encI 1 w v2 ys) :
    Calls Tryz.prog 61 #[v1, v2] w fun e w' => e = .returned (.bool (decide (xs = ys))) ∧ Below w.heap.size w w' := by
  obtain ⟨A, c, rfl, hc1, hc2, hr⟩ := h1
  obtain ⟨A', c', rfl, hc1', hc2', hr'⟩ := h2
  go_enter Tryz.func61, Tryz.ntmps61
  have hil : ((xs.length : Int) != (ys.length : Int)) = !decide (xs.length = ys.length) := by by_cases h : xs.length = ys.length <;> simp [h, bne] <;> omega
  cases hq : decide (xs.length = ys.length)
  · rw [hq] at hil
    have hne : decide (xs = ys) = false := by simp; intro e; rw [e] at hq; simp at hq
    rw [hne]
    clear hne hq
    go_wp2
    go_ret
    exact ⟨rfl, Below.refl _ _⟩
  · rw [hq] at hil
    have hll : xs.length = ys.length := by simpa using hq
    have HLL := Lib.hid hll
    have hlen : xs.length ≤ 9223372036854775807 := by omega
    generalize hres : decide (xs = ys) = res
    have HRES := Lib.hid hres
    clear hll hq hres
    go_wp2
    go_loopw [5] (fun i wr => ∃ k : Nat, k ≤ xs.length ∧ i = .int .i64 k ∧ Below w.heap.size w wr ∧ Hid (∀ j, j < k → xs[j]? = ys[j]?)) (fun i _ => xs.length - (intOf i).toNat)
    case atStart => exact ⟨0, Nat.zero_le _, rfl, Below.refl _ _, fun j h => by omega⟩
    case round =>
      obtain ⟨k, hk, rfl, hb, hz⟩ := hrel
      by_cases hlt : k < xs.length
      · have hlt' : k < ys.length := by have := HLL.out; omega
        obtain ⟨b1, o1, rfl, hbl1, hcell1⟩ := hr (by omega)
        obtain ⟨b2, o2, rfl, hbl2, hcell2⟩ := hr' (by omega)
        have hx : xs[k]? = some xs[k] := List.getElem?_eq_getElem hlt
        have hy : ys[k]? = some ys[k] := List.getElem?_eq_getElem hlt'
        have x0 := ext_cell hb (hcell1 k _ hx 0 _ rfl)
        have y0 := ext_cell hb (hcell2 k _ hy 0 _ rfl)
        rw [Nat.add_zero, Nat.mul_one] at x0 y0
        generalize xs[k] = x at hx x0
        generalize ys[k] = y at hy y0
        have HX := Lib.hid hx
        have HY := Lib.hid hy
        have HBE : Hid ((x == y) = decide (x = y)) := Lib.hid (by first | exact beq_str x y | (by_cases h : x = y <;> simp [h]))
        clear hx hy hcell1 hcell2 hr hr'
        cases hq : ((x == y))
        · skip
          go_wp2
          refine wp_region_plan (fun w' => w'.cell? ⟨b1, o1 + k, none⟩ = some (.int .i64 x) ∧ w'.cell? ⟨b2, o2 + k, none⟩ = some (.int .i64 y) ∧ Below w.heap.size w w') [] [0, 1, 2, 3, 4, 5, 6, 7, 8] (by kernel_rfl) (by kernel_rfl) (by ((first | assumption | exact keep2 (by assumption) (by assumption) | exact keep2 (by assumption) (ext_alloc _ _) | exact keep2 (by assumption) (ext_drew _) | exact keep2 ⟨by assumption, by assumption, by assumption⟩ (ext_drew _) | go_keep))) (fun hSw => ?_)
          repeat (first
            | (refine wpPlan_pas rfl rfl (fun K hK => ?_)
               apply Exists.intro
               refine ⟨?_, ?_⟩
               · first | exact pasOk_no rfl | (apply pasOk_yes rfl; intro wS hS; obtain ⟨s0, s1, s2⟩ := hS; go_simp; first | done | exact rfl | ((try simp only [↓IntWalk.iteOmega]); (try go_bits); (try go_simp); first | done | exact rfl))
               go_simp
               refine hK _ ?_
               clear hK K)
            | (refine wpPlan_no rfl rfl rfl (by assumption) (fun K hK => ?_)
               go_simp
               refine hK _ ?_
               clear hK K)
            | (refine wpPlan_act rfl rfl rfl (fun K hK => ?_)
               go_wp2
               refine OnlyK.go (hK _ _ (by ((first | assumption | exact keep2 (by assumption) (by assumption) | exact keep2 (by assumption) (ext_alloc _ _) | exact keep2 (by assumption) (ext_drew _) | exact keep2 ⟨by assumption, by assumption, by assumption⟩ (ext_drew _) | go_keep))) (fun hSw => ?_))
               clear hK K))
          refine wpPlan_nil ?_
          have hbS := held2 hSw
          clear hSw
          have hne : res = false := by
            rw [← HRES.out]
            simp only [decide_eq_false_iff_not]
            intro e
            have hxx := HX.out
            have hyy := HY.out
            rw [e, hyy] at hxx
            simp only [Option.some.injEq] at hxx
            subst hxx
            have := HBE.out
            rw [hq] at this
            simp at this
          have HNE := Lib.hid hne
          clear hne
          go_wp2
          go_ret
          exact ⟨by rw [HNE.out]; rfl, hbS⟩
        · skip
          go_wp2
          refine wp_region_plan (fun w' => w'.cell? ⟨b1, o1 + k, none⟩ = some (.int .i64 x) ∧ w'.cell? ⟨b2, o2 + k, none⟩ = some (.int .i64 y) ∧ Below w.heap.size w w') [] [0, 1, 2, 3, 4, 5, 6, 7, 8] (by kernel_rfl) (by kernel_rfl) (by ((first | assumption | exact keep2 (by assumption) (by assumption) | exact keep2 (by assumption) (ext_alloc _ _) | exact keep2 (by assumption) (ext_drew _) | exact keep2 ⟨by assumption, by assumption, by assumption⟩ (ext_drew _) | go_keep))) (fun hSw => ?_)
          repeat (first
            | (refine wpPlan_pas rfl rfl (fun K hK => ?_)
               apply Exists.intro
               refine ⟨?_, ?_⟩
               · first | exact pasOk_no rfl | (apply pasOk_yes rfl; intro wS hS; obtain ⟨s0, s1, s2⟩ := hS; go_simp; first | done | exact rfl | ((try simp only [↓IntWalk.iteOmega]); (try go_bits); (try go_simp); first | done | exact rfl))
               go_simp
               refine hK _ ?_
               clear hK K)
            | (refine wpPlan_no rfl rfl rfl (by assumption) (fun K hK => ?_)
               go_simp
               refine hK _ ?_
               clear hK K)
            | (refine wpPlan_act rfl rfl rfl (fun K hK => ?_)
               go_wp2
               refine OnlyK.go (hK _ _ (by ((first | assumption | exact keep2 (by assumption) (by assumption) | exact keep2 (by assumption) (ext_alloc _ _) | exact keep2 (by assumption) (ext_drew _) | exact keep2 ⟨by assumption, by assumption, by assumption⟩ (ext_drew _) | go_keep))) (fun hSw => ?_))
               clear hK K))
          refine wpPlan_nil ?_
          have hbS := held2 hSw
          clear hSw
          have hxy : x = y := by have := HBE.out; rw [hq] at this; simpa using this.symm
          have HXY := Lib.hid hxy
          clear hxy
          go_wp2
          go_roundw
          case rel => exact ⟨k + 1, by omega, by go_num, hbS, fun j hj => by
            by_cases e : j = k
            · subst e; rw [HX.out, HY.out, HXY.out]
            · exact hz.out j (by omega)⟩
          case measure => simp [intOf]; omega
      · obtain rfl : k = xs.length := by omega
        have hne : res = true := by
          rw [← HRES.out]
          simp only [decide_eq_true_eq]
          exact eq_of_gets2 xs ys HLL.out hz.out
        have HNE := Lib.hid hne
        clear hne
        go_wp2
        go_ret
        exact ⟨by rw [HNE.out]; rfl, hb⟩

theorem eqIntv (a b c d : Int) (w : World) : (Op.equalIn 10000 105 (.agg #[.int .i64 a, .int .i64 b]) (.agg #[.int .i64 c, .int .i64 d])).run Tryz.prog w = .ok (a == c && b == d) w := by
  have u3 := Tryz.underlying3
  have a3 := Tryz.isAgg3
  have z3 := Tryz.sizeOf3
  have hS : Tryz.prog.underlying 105 = some (.struct (Tryz.prog.fieldsOf 105)) := by kernel_rfl
  have hp : Tryz.prog.stoodInHeld 105 = false := by kernel_rfl
  rw [show (10000 : Nat) = 9999 + 1 from rfl, run_equalIn_agg w 9999 105 _ _ hS hp]
  simp only [Program.fieldsOf, Tryz.underlying105]
  go_simp
  by_cases h1 : a = c <;> by_cases h2 : b = d <;> simp [h1, h2]
set_option maxHeartbeats 2000000 in
theorem sameGauss_any (xs ys : List (Int × Int)) (v1 v2 : Value) (w : World) (h1 : SlAt encG 2 w v1 xs) (h2 : SlAt encG 2 w v2 ys) :
    Calls Tryz.prog 23 #[v1, v2] w fun e w' => e = .returned (.bool (decide (xs = ys))) ∧ Below w.heap.size w w' := by
  obtain ⟨A, c, rfl, hc1, hc2, hr⟩ := h1
  obtain ⟨A', c', rfl, hc1', hc2', hr'⟩ := h2
  go_enter Tryz.func23, Tryz.ntmps23
  have hE := eqGauss
  have hil : ((xs.length : Int) != (ys.length : Int)) = !decide (xs.length = ys.length) := by by_cases h : xs.length = ys.length <;> simp [h, bne] <;> omega
  cases hq : decide (xs.length = ys.length)
  · rw [hq] at hil
    have hne : decide (xs = ys) = false := by simp; intro e; rw [e] at hq; simp at hq
    rw [hne]
    clear hne hq
    go_wp2
    go_ret
    exact ⟨rfl, Below.refl _ _⟩
  · rw [hq] at hil
    have hll : xs.length = ys.length := by simpa using hq
    have HLL := Lib.hid hll
    have hlen : xs.length ≤ 9223372036854775807 := by omega
    generalize hres : decide (xs = ys) = res
    have HRES := Lib.hid hres
    clear hll hq hres
    go_wp2
    go_loopw [5] (fun i wr => ∃ k : Nat, k ≤ xs.length ∧ i = .int .i64 k ∧ Below w.heap.size w wr ∧ Hid (∀ j, j < k → xs[j]? = ys[j]?)) (fun i _ => xs.length - (intOf i).toNat)
    case atStart => exact ⟨0, Nat.zero_le _, rfl, Below.refl _ _, fun j h => by omega⟩
    case round =>
      obtain ⟨k, hk, rfl, hb, hz⟩ := hrel
      by_cases hlt : k < xs.length
      · have hlt' : k < ys.length := by have := HLL.out; omega
        obtain ⟨b1, o1, rfl, hbl1, hcell1⟩ := hr (by omega)
        obtain ⟨b2, o2, rfl, hbl2, hcell2⟩ := hr' (by omega)
        have hx : xs[k]? = some xs[k] := List.getElem?_eq_getElem hlt
        have hy : ys[k]? = some ys[k] := List.getElem?_eq_getElem hlt'
        have x0 := ext_cell hb (hcell1 k _ hx 0 _ rfl)
        have x1 := ext_cell hb (hcell1 k _ hx 1 _ rfl)
        have y0 := ext_cell hb (hcell2 k _ hy 0 _ rfl)
        have y1 := ext_cell hb (hcell2 k _ hy 1 _ rfl)
        rw [Nat.add_zero] at x0 y0
        generalize xs[k] = x at hx x0 x1
        generalize ys[k] = y at hy y0 y1
        have HX := Lib.hid hx
        have HY := Lib.hid hy
        clear hx hy hcell1 hcell2 hr hr'
        go_wp2
        cases hq : (x.1 == y.1 && x.2 == y.2)
        · skip
          refine wp_region_plan (fun w' => w'.cell? ⟨b1, o1 + k * 2, none⟩ = some (.int .i64 x.1) ∧ w'.cell? ⟨b1, o1 + k * 2 + 1, none⟩ = some (.int .i64 x.2) ∧ w'.cell? ⟨b2, o2 + k * 2, none⟩ = some (.int .i64 y.1) ∧ w'.cell? ⟨b2, o2 + k * 2 + 1, none⟩ = some (.int .i64 y.2) ∧ Below w.heap.size w w') [] [0, 1, 2, 3, 4, 5, 6, 7, 8] (by kernel_rfl) (by kernel_rfl) (by ((first | assumption | exact keep4 (by assumption) (by assumption) | exact keep4 (by assumption) (ext_alloc _ _) | exact keep4 (by assumption) (ext_drew _) | exact keep4 ⟨by assumption, by assumption, by assumption, by assumption, by assumption⟩ (ext_drew _) | go_keep))) (fun hSw => ?_)
          repeat (first
            | (refine wpPlan_pas rfl rfl (fun K hK => ?_)
               apply Exists.intro
               refine ⟨?_, ?_⟩
               · first | exact pasOk_no rfl | (apply pasOk_yes rfl; intro wS hS; obtain ⟨s0, s1, s2, s3, s4⟩ := hS; go_simp; first | done | exact rfl | ((try simp only [↓IntWalk.iteOmega]); (try go_bits); (try go_simp); first | done | exact rfl))
               go_simp
               refine hK _ ?_
               clear hK K)
            | (refine wpPlan_no rfl rfl rfl (by assumption) (fun K hK => ?_)
               go_simp
               refine hK _ ?_
               clear hK K)
            | (refine wpPlan_act rfl rfl rfl (fun K hK => ?_)
               go_wp2
               refine OnlyK.go (hK _ _ (by ((first | assumption | exact keep4 (by assumption) (by assumption) | exact keep4 (by assumption) (ext_alloc _ _) | exact keep4 (by assumption) (ext_drew _) | exact keep4 ⟨by assumption, by assumption, by assumption, by assumption, by assumption⟩ (ext_drew _) | go_keep))) (fun hSw => ?_))
               clear hK K))
          refine wpPlan_nil ?_
          have hbS := held4 hSw
          clear hSw
          have hne : res = false := by
            rw [← HRES.out]
            simp only [decide_eq_false_iff_not]
            intro e
            have hxx := HX.out
            have hyy := HY.out
            rw [e, hyy] at hxx
            simp only [Option.some.injEq] at hxx
            subst hxx
            simp at hq
          have HNE := Lib.hid hne
          clear hne
          go_wp2
          go_ret
          exact ⟨by rw [HNE.out]; rfl, hbS⟩
        · skip
          refine wp_region_plan (fun w' => w'.cell? ⟨b1, o1 + k * 2, none⟩ = some (.int .i64 x.1) ∧ w'.cell? ⟨b1, o1 + k * 2 + 1, none⟩ = some (.int .i64 x.2) ∧ w'.cell? ⟨b2, o2 + k * 2, none⟩ = some (.int .i64 y.1) ∧ w'.cell? ⟨b2, o2 + k * 2 + 1, none⟩ = some (.int .i64 y.2) ∧ Below w.heap.size w w') [] [0, 1, 2, 3, 4, 5, 6, 7, 8] (by kernel_rfl) (by kernel_rfl) (by ((first | assumption | exact keep4 (by assumption) (by assumption) | exact keep4 (by assumption) (ext_alloc _ _) | exact keep4 (by assumption) (ext_drew _) | exact keep4 ⟨by assumption, by assumption, by assumption, by assumption, by assumption⟩ (ext_drew _) | go_keep))) (fun hSw => ?_)
          repeat (first
            | (refine wpPlan_pas rfl rfl (fun K hK => ?_)
               apply Exists.intro
               refine ⟨?_, ?_⟩
               · first | exact pasOk_no rfl | (apply pasOk_yes rfl; intro wS hS; obtain ⟨s0, s1, s2, s3, s4⟩ := hS; go_simp; first | done | exact rfl | ((try simp only [↓IntWalk.iteOmega]); (try go_bits); (try go_simp); first | done | exact rfl))
               go_simp
               refine hK _ ?_
               clear hK K)
            | (refine wpPlan_no rfl rfl rfl (by assumption) (fun K hK => ?_)
               go_simp
               refine hK _ ?_
               clear hK K)
            | (refine wpPlan_act rfl rfl rfl (fun K hK => ?_)
               go_wp2
               refine OnlyK.go (hK _ _ (by ((first | assumption | exact keep4 (by assumption) (by assumption) | exact keep4 (by assumption) (ext_alloc _ _) | exact keep4 (by assumption) (ext_drew _) | exact keep4 ⟨by assumption, by assumption, by assumption, by assumption, by assumption⟩ (ext_drew _) | go_keep))) (fun hSw => ?_))
               clear hK K))
          refine wpPlan_nil ?_
          have hbS := held4 hSw
          clear hSw
          have hxy : x = y := by
            simp only [Bool.and_eq_true, beq_iff_eq] at hq
            exact Prod.ext hq.1 hq.2
          have HXY := Lib.hid hxy
          clear hxy
          go_wp2
          go_roundw
          case rel => exact ⟨k + 1, by omega, by go_num, hbS, fun j hj => by
            by_cases e : j = k
            · subst e; rw [HX.out, HY.out, HXY.out]
            · exact hz.out j (by omega)⟩
          case measure => simp [intOf]; omega
      · obtain rfl : k = xs.length := by omega
        have hne : res = true := by
          rw [← HRES.out]
          simp only [decide_eq_true_eq]
          exact eq_of_gets2 xs ys HLL.out hz.out
        have HNE := Lib.hid hne
        clear hne
        go_wp2
        go_ret
        exact ⟨by rw [HNE.out]; rfl, hb⟩
set_option maxHeartbeats 2000000 in
theorem sameIntervals_any (xs ys : List (Int × Int)) (v1 v2 : Value) (w : World) (h1 : SlAt encG 2 w v1 xs) (h2 : SlAt encG 2 w v2 ys) :
    Calls Tryz.prog 30 #[v1, v2] w fun e w' => e = .returned (.bool (decide (xs = ys))) ∧ Below w.heap.size w w' := by
  obtain ⟨A, c, rfl, hc1, hc2, hr⟩ := h1
  obtain ⟨A', c', rfl, hc1', hc2', hr'⟩ := h2
  go_enter Tryz.func30, Tryz.ntmps30
  have hE := eqIntv
  have hil : ((xs.length : Int) != (ys.length : Int)) = !decide (xs.length = ys.length) := by by_cases h : xs.length = ys.length <;> simp [h, bne] <;> omega
  cases hq : decide (xs.length = ys.length)
  · rw [hq] at hil
    have hne : decide (xs = ys) = false := by simp; intro e; rw [e] at hq; simp at hq
    rw [hne]
    clear hne hq
    go_wp2
    go_ret
    exact ⟨rfl, Below.refl _ _⟩
  · rw [hq] at hil
    have hll : xs.length = ys.length := by simpa using hq
    have HLL := Lib.hid hll
    have hlen : xs.length ≤ 9223372036854775807 := by omega
    generalize hres : decide (xs = ys) = res
    have HRES := Lib.hid hres
    clear hll hq hres
    go_wp2
    go_loopw [5] (fun i wr => ∃ k : Nat, k ≤ xs.length ∧ i = .int .i64 k ∧ Below w.heap.size w wr ∧ Hid (∀ j, j < k → xs[j]? = ys[j]?)) (fun i _ => xs.length - (intOf i).toNat)
    case atStart => exact ⟨0, Nat.zero_le _, rfl, Below.refl _ _, fun j h => by omega⟩
    case round =>
      obtain ⟨k, hk, rfl, hb, hz⟩ := hrel
      by_cases hlt : k < xs.length
      · have hlt' : k < ys.length := by have := HLL.out; omega
        obtain ⟨b1, o1, rfl, hbl1, hcell1⟩ := hr (by omega)
        obtain ⟨b2, o2, rfl, hbl2, hcell2⟩ := hr' (by omega)
        have hx : xs[k]? = some xs[k] := List.getElem?_eq_getElem hlt
        have hy : ys[k]? = some ys[k] := List.getElem?_eq_getElem hlt'
        have x0 := ext_cell hb (hcell1 k _ hx 0 _ rfl)
        have x1 := ext_cell hb (hcell1 k _ hx 1 _ rfl)
        have y0 := ext_cell hb (hcell2 k _ hy 0 _ rfl)
        have y1 := ext_cell hb (hcell2 k _ hy 1 _ rfl)
        rw [Nat.add_zero] at x0 y0
        generalize xs[k] = x at hx x0 x1
        generalize ys[k] = y at hy y0 y1
        have HX := Lib.hid hx
        have HY := Lib.hid hy
        clear hx hy hcell1 hcell2 hr hr'
        go_wp2
        cases hq : (x.1 == y.1 && x.2 == y.2)
        · skip
          refine wp_region_plan (fun w' => w'.cell? ⟨b1, o1 + k * 2, none⟩ = some (.int .i64 x.1) ∧ w'.cell? ⟨b1, o1 + k * 2 + 1, none⟩ = some (.int .i64 x.2) ∧ w'.cell? ⟨b2, o2 + k * 2, none⟩ = some (.int .i64 y.1) ∧ w'.cell? ⟨b2, o2 + k * 2 + 1, none⟩ = some (.int .i64 y.2) ∧ Below w.heap.size w w') [] [0, 1, 2, 3, 4, 5, 6, 7, 8] (by kernel_rfl) (by kernel_rfl) (by ((first | assumption | exact keep4 (by assumption) (by assumption) | exact keep4 (by assumption) (ext_alloc _ _) | exact keep4 (by assumption) (ext_drew _) | exact keep4 ⟨by assumption, by assumption, by assumption, by assumption, by assumption⟩ (ext_drew _) | go_keep))) (fun hSw => ?_)
          repeat (first
            | (refine wpPlan_pas rfl rfl (fun K hK => ?_)
               apply Exists.intro
               refine ⟨?_, ?_⟩
               · first | exact pasOk_no rfl | (apply pasOk_yes rfl; intro wS hS; obtain ⟨s0, s1, s2, s3, s4⟩ := hS; go_simp; first | done | exact rfl | ((try simp only [↓IntWalk.iteOmega]); (try go_bits); (try go_simp); first | done | exact rfl))
               go_simp
               refine hK _ ?_
               clear hK K)
            | (refine wpPlan_no rfl rfl rfl (by assumption) (fun K hK => ?_)
               go_simp
               refine hK _ ?_
               clear hK K)
            | (refine wpPlan_act rfl rfl rfl (fun K hK => ?_)
               go_wp2
               refine OnlyK.go (hK _ _ (by ((first | assumption | exact keep4 (by assumption) (by assumption) | exact keep4 (by assumption) (ext_alloc _ _) | exact keep4 (by assumption) (ext_drew _) | exact keep4 ⟨by assumption, by assumption, by assumption, by assumption, by assumption⟩ (ext_drew _) | go_keep))) (fun hSw => ?_))
               clear hK K))
          refine wpPlan_nil ?_
          have hbS := held4 hSw
          clear hSw
          have hne : res = false := by
            rw [← HRES.out]
            simp only [decide_eq_false_iff_not]
            intro e
            have hxx := HX.out
            have hyy := HY.out
            rw [e, hyy] at hxx
            simp only [Option.some.injEq] at hxx
            subst hxx
            simp at hq
          have HNE := Lib.hid hne
          clear hne
          go_wp2
          go_ret
          exact ⟨by rw [HNE.out]; rfl, hbS⟩
        · skip
          refine wp_region_plan (fun w' => w'.cell? ⟨b1, o1 + k * 2, none⟩ = some (.int .i64 x.1) ∧ w'.cell? ⟨b1, o1 + k * 2 + 1, none⟩ = some (.int .i64 x.2) ∧ w'.cell? ⟨b2, o2 + k * 2, none⟩ = some (.int .i64 y.1) ∧ w'.cell? ⟨b2, o2 + k * 2 + 1, none⟩ = some (.int .i64 y.2) ∧ Below w.heap.size w w') [] [0, 1, 2, 3, 4, 5, 6, 7, 8] (by kernel_rfl) (by kernel_rfl) (by ((first | assumption | exact keep4 (by assumption) (by assumption) | exact keep4 (by assumption) (ext_alloc _ _) | exact keep4 (by assumption) (ext_drew _) | exact keep4 ⟨by assumption, by assumption, by assumption, by assumption, by assumption⟩ (ext_drew _) | go_keep))) (fun hSw => ?_)
          repeat (first
            | (refine wpPlan_pas rfl rfl (fun K hK => ?_)
               apply Exists.intro
               refine ⟨?_, ?_⟩
               · first | exact pasOk_no rfl | (apply pasOk_yes rfl; intro wS hS; obtain ⟨s0, s1, s2, s3, s4⟩ := hS; go_simp; first | done | exact rfl | ((try simp only [↓IntWalk.iteOmega]); (try go_bits); (try go_simp); first | done | exact rfl))
               go_simp
               refine hK _ ?_
               clear hK K)
            | (refine wpPlan_no rfl rfl rfl (by assumption) (fun K hK => ?_)
               go_simp
               refine hK _ ?_
               clear hK K)
            | (refine wpPlan_act rfl rfl rfl (fun K hK => ?_)
               go_wp2
               refine OnlyK.go (hK _ _ (by ((first | assumption | exact keep4 (by assumption) (by assumption) | exact keep4 (by assumption) (ext_alloc _ _) | exact keep4 (by assumption) (ext_drew _) | exact keep4 ⟨by assumption, by assumption, by assumption, by assumption, by assumption⟩ (ext_drew _) | go_keep))) (fun hSw => ?_))
               clear hK K))
          refine wpPlan_nil ?_
          have hbS := held4 hSw
          clear hSw
          have hxy : x = y := by
            simp only [Bool.and_eq_true, beq_iff_eq] at hq
            exact Prod.ext hq.1 hq.2
          have HXY := Lib.hid hxy
          clear hxy
          go_wp2
          go_roundw
          case rel => exact ⟨k + 1, by omega, by go_num, hbS, fun j hj => by
            by_cases e : j = k
            · subst e; rw [HX.out, HY.out, HXY.out]
            · exact hz.out j (by omega)⟩
          case measure => simp [intOf]; omega
      · obtain rfl : k = xs.length := by omega
        have hne : res = true := by
          rw [← HRES.out]
          simp only [decide_eq_true_eq]
          exact eq_of_gets2 xs ys HLL.out hz.out
        have HNE := Lib.hid hne
        clear hne
        go_wp2
        go_ret
        exact ⟨by rw [HNE.out]; rfl, hb⟩

set_option maxHeartbeats 1000000 in
theorem hasWord_any (xs : List ByteArray) (v : Value) (s : ByteArray) (w : World) (hs : SlAt encS 1 w v xs) :
    Calls Tryz.prog 69 #[v, Value.string s] w fun e w' => e = .returned (.bool (xs.any fun x => decide (s = x))) ∧ w = w' := by
  obtain ⟨A, c, rfl, hc, hm, hr⟩ := hs.one (Value.string) (fun _ => rfl)
  have hlen : xs.length ≤ 9223372036854775807 := by omega
  clear hs
  generalize hres : (xs.any fun x => decide (s = x)) = res
  have HRES := Lib.hid hres
  clear hres
  go_enter Tryz.func69, Tryz.ntmps69
  go_wp2
  go_loop [5] (fun i => ∃ k : Nat, k ≤ xs.length ∧ i = .int .i64 k ∧ Hid (∀ j y, j < k → xs[j]? = some y → decide (s = y) = false)) (fun i => xs.length - (intOf i).toNat)
  case atStart => exact ⟨0, Nat.zero_le _, rfl, fun j y hj => absurd hj (Nat.not_lt_zero _)⟩
  case round =>
    obtain ⟨k, hk, rfl, hz⟩ := hrel
    by_cases hlt : k < xs.length
    · obtain ⟨b, off, rfl, hbl, hcell⟩ := hr (by omega)
      have hx : xs[k]? = some xs[k] := List.getElem?_eq_getElem hlt
      have c0 := hcell k _ hx
      generalize xs[k] = x at hx c0
      have HX := Lib.hid hx
      clear hcell hr hx
      have HBE : Hid ((x.toList == s.toList) = decide (s = x)) := Lib.hid (by first | exact (beq_str x s).trans (decide_eq_decide.2 eq_comm) | exact (beq_int x s).trans (decide_eq_decide.2 eq_comm))
      cases hq : ((x.toList == s.toList))
      · have HQ : Hid (decide (s = x) = false) := by have := HBE.out; rw [hq] at this; exact this.symm
        go_wp2
        go_round
        case rel => exact ⟨k + 1, by omega, by go_num, fun j y hj hy => by
          by_cases e : j = k
          · subst e; have := HX.out; rw [hy] at this; cases this; exact HQ.out
          · exact hz.out j y (by omega) hy⟩
        case measure => simp [intOf]; omega
      · have HQ : Hid (res = true) := by
          have := HBE.out; rw [hq] at this
          rw [← HRES.out]
          exact List.any_eq_true.2 ⟨x, List.mem_of_getElem? HX.out, this.symm⟩
        go_wp2
        go_ret
        exact ⟨by rw [HQ.out]; rfl, rfl⟩
    · obtain rfl : k = xs.length := by omega
      have HQ : Hid (res = false) := by
        rw [← HRES.out]
        exact List.any_eq_false.2 fun x hx => by
          obtain ⟨j, hj, e⟩ := List.getElem_of_mem hx
          have := hz.out j x hj (by rw [List.getElem?_eq_getElem hj, e])
          rw [this]; simp
      go_wp2
      go_ret
      exact ⟨by rw [HQ.out]; rfl, rfl⟩
set_option maxHeartbeats 1000000 in
theorem hasInt_any (xs : List Int) (v : Value) (s : Int) (w : World) (hs : SlAt encI 1 w v xs) :
    Calls Tryz.prog 79 #[v, Value.int .i64 s] w fun e w' => e = .returned (.bool (xs.any fun x => decide (s = x))) ∧ w = w' := by
  obtain ⟨A, c, rfl, hc, hm, hr⟩ := hs.one (Value.int .i64) (fun _ => rfl)
  have hlen : xs.length ≤ 9223372036854775807 := by omega
  clear hs
  generalize hres : (xs.any fun x => decide (s = x)) = res
  have HRES := Lib.hid hres
  clear hres
  go_enter Tryz.func79, Tryz.ntmps79
  go_wp2
  go_loop [5] (fun i => ∃ k : Nat, k ≤ xs.length ∧ i = .int .i64 k ∧ Hid (∀ j y, j < k → xs[j]? = some y → decide (s = y) = false)) (fun i => xs.length - (intOf i).toNat)
  case atStart => exact ⟨0, Nat.zero_le _, rfl, fun j y hj => absurd hj (Nat.not_lt_zero _)⟩
  case round =>
    obtain ⟨k, hk, rfl, hz⟩ := hrel
    by_cases hlt : k < xs.length
    · obtain ⟨b, off, rfl, hbl, hcell⟩ := hr (by omega)
      have hx : xs[k]? = some xs[k] := List.getElem?_eq_getElem hlt
      have c0 := hcell k _ hx
      generalize xs[k] = x at hx c0
      have HX := Lib.hid hx
      clear hcell hr hx
      have HBE : Hid ((x == s) = decide (s = x)) := Lib.hid (by first | exact (beq_str x s).trans (decide_eq_decide.2 eq_comm) | exact (beq_int x s).trans (decide_eq_decide.2 eq_comm))
      cases hq : ((x == s))
      · have HQ : Hid (decide (s = x) = false) := by have := HBE.out; rw [hq] at this; exact this.symm
        go_wp2
        go_round
        case rel => exact ⟨k + 1, by omega, by go_num, fun j y hj hy => by
          by_cases e : j = k
          · subst e; have := HX.out; rw [hy] at this; cases this; exact HQ.out
          · exact hz.out j y (by omega) hy⟩
        case measure => simp [intOf]; omega
      · have HQ : Hid (res = true) := by
          have := HBE.out; rw [hq] at this
          rw [← HRES.out]
          exact List.any_eq_true.2 ⟨x, List.mem_of_getElem? HX.out, this.symm⟩
        go_wp2
        go_ret
        exact ⟨by rw [HQ.out]; rfl, rfl⟩
    · obtain rfl : k = xs.length := by omega
      have HQ : Hid (res = false) := by
        rw [← HRES.out]
        exact List.any_eq_false.2 fun x hx => by
          obtain ⟨j, hj, e⟩ := List.getElem_of_mem hx
          have := hz.out j x hj (by rw [List.getElem?_eq_getElem hj, e])
          rw [this]; simp
      go_wp2
      go_ret
      exact ⟨by rw [HQ.out]; rfl, rfl⟩

set_option maxHeartbeats 1000000 in
theorem rFind_any (l : List Nd) (v : Value) (s : ByteArray) (w : World) (hs : SlAt encN 7 w v l) :
    Calls Tryz.prog 16 #[v, .string s] w fun e w' => e = .returned (.int .i64 (findI l s)) ∧ w = w' := by
  obtain ⟨A, c, rfl, hc, hm, hr⟩ := hs
  have hlen : l.length ≤ 9223372036854775807 := by omega
  generalize hres : findI l s = res
  have HRES := Lib.hid hres
  clear hres
  go_enter Tryz.func16, Tryz.ntmps16
  go_wp2
  go_loop [5] (fun i => ∃ k : Nat, k ≤ l.length ∧ i = .int .i64 k ∧ Hid (∀ j y, j < k → l[j]? = some y → decide (y.name = s) = false)) (fun i => l.length - (intOf i).toNat)
  case atStart => exact ⟨0, Nat.zero_le _, rfl, fun j y hj => absurd hj (Nat.not_lt_zero _)⟩
  case round =>
    obtain ⟨k, hk, rfl, hz⟩ := hrel
    by_cases hlt : k < l.length
    · obtain ⟨b, off, rfl, hbl, hcell⟩ := hr (by omega)
      have hx : l[k]? = some l[k] := List.getElem?_eq_getElem hlt
      have c0 := hcell k _ hx 0 _ rfl
      rw [Nat.add_zero] at c0
      generalize l[k] = x at hx c0
      have HX := Lib.hid hx
      clear hcell hr hx
      have HBE : Hid ((x.name.toList == s.toList) = decide (x.name = s)) := beq_str _ _
      cases hq : (x.name.toList == s.toList)
      · have HQ : Hid (decide (x.name = s) = false) := by have := HBE.out; rw [hq] at this; exact this.symm
        go_wp2
        go_round
        case rel => exact ⟨k + 1, by omega, by go_num, fun j y hj hy => by
          by_cases e : j = k
          · subst e; have := HX.out; rw [hy] at this; cases this; exact HQ.out
          · exact hz.out j y (by omega) hy⟩
        case measure => simp [intOf]; omega
      · have HQ : Hid (res = ((k : Nat) : Int)) := Lib.hid (by
          have := HBE.out; rw [hq] at this
          rw [← HRES.out]
          unfold findI idxI
          rw [idxFrom_hit _ l 0 k x HX.out this.symm hz.out, Nat.zero_add])
        go_wp2
        go_ret
        exact ⟨by rw [HQ.out]; rfl, rfl⟩
    · obtain rfl : k = l.length := by omega
      have HQ : Hid (res = -1) := by
        rw [← HRES.out]
        unfold findI idxI
        exact idxFrom_miss _ l 0 fun x hx => by
          obtain ⟨j, hj, e⟩ := List.getElem_of_mem hx
          exact hz.out j x hj (by rw [List.getElem?_eq_getElem hj, e])
      go_wp2
      go_ret
      exact ⟨by rw [HQ.out]; rfl, rfl⟩
end Go.Proofs.YtlogjgmfkjjhjaaGreatDoor
