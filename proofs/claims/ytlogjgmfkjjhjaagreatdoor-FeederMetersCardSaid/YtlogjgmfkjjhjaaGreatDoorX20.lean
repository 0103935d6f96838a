/-
  slices.Equal at complex integers; feeder.CheckCurrents.
  strconv.Itoa at a list of integers: feeder.mapped[int,string].
-/
import Derived.Test.YtlogjgmfkjjhjaaGreatDoorX10
import Derived.Test.YtlogjgmfkjjhjaaGreatDoorX02
import Derived.Test.YtlogjgmfkjjhjaaGreatDoorX07
import Derived.Test.YtlogjgmfkjjhjaaGreatDoorShelf
set_option linter.unusedSimpArgs false
set_option linter.unusedVariables false
namespace Go.Proofs.YtlogjgmfkjjhjaaGreatDoor
open Go.RowKit

theorem eq_of_gets {α : Type} : ∀ (xs ys : List α), xs.length = ys.length → (∀ j, j < xs.length → xs[j]? = ys[j]?) → xs = ys := fun xs ys hl h => by
  apply List.ext_getElem? 
  intro i
  by_cases hi : i < xs.length
  · exact h i hi
  · rw [List.getElem?_eq_none (by omega), List.getElem?_eq_none (by omega)]

set_option maxHeartbeats 2000000 in
theorem equalG_any (xs ys : List (Int × Int)) (v1 v2 : Value) (w : World) (h1 : SlAt encG 2 w v1 xs) (h2 : SlAt encG 2 w v2 ys) :
    Calls Tryz.prog 109 #[v1, v2] w fun e w' => e = .returned (.bool (decide (xs = ys))) ∧ Below w.heap.size w w' := by
  obtain ⟨A, c, rfl, hc1, hc2, hr⟩ := h1
  obtain ⟨A', c', rfl, hc1', hc2', hr'⟩ := h2
  go_enter Tryz.func109, Tryz.ntmps109
  have hE := eqGauss
  have hil : ((xs.length : Int) != (ys.length : Int)) = !decide (xs.length = ys.length) := by by_cases h : xs.length = ys.length <;> simp [h, bne] <;> omega
  cases hq : decide (xs.length = ys.length)
  · rw [hq] at hil
    have hne : decide (xs = ys) = false := by simp; intro e; rw [e] at hq; simp at hq
    rw [hne]
    clear hne hq
    go_wp2
    go_ret
    exact ⟨rfl, Below.refl _ _⟩
  · rw [hq] at hil
    have hll : xs.length = ys.length := by simpa using hq
    have HLL := Lib.hid hll
    have hlen : xs.length ≤ 9223372036854775807 := by omega
    generalize hres : decide (xs = ys) = res
    have HRES := Lib.hid hres
    clear hll hq hres
    go_wp2
    go_loopw [13] (fun i wr => ∃ k : Nat, k ≤ xs.length ∧ i = .int .i64 k ∧ Below w.heap.size w wr ∧ Hid (∀ j, j < k → xs[j]? = ys[j]?)) (fun i _ => xs.length - (intOf i).toNat)
    case atStart => exact ⟨0, Nat.zero_le _, rfl, Below.refl _ _, fun j h => by omega⟩
    case round =>
      obtain ⟨k, hk, rfl, hb, hz⟩ := hrel
      by_cases hlt : k < xs.length
      · have hlt' : k < ys.length := by have := HLL.out; omega
        obtain ⟨b1, o1, rfl, hbl1, hcell1⟩ := hr (by omega)
        obtain ⟨b2, o2, rfl, hbl2, hcell2⟩ := hr' (by omega)
        have hx : xs[k]? = some xs[k] := List.getElem?_eq_getElem hlt
        have hy : ys[k]? = some ys[k] := List.getElem?_eq_getElem hlt'
        have x0 := ext_cell hb (hcell1 k _ hx 0 _ rfl)
        have x1 := ext_cell hb (hcell1 k _ hx 1 _ rfl)
        have y0 := ext_cell hb (hcell2 k _ hy 0 _ rfl)
        have y1 := ext_cell hb (hcell2 k _ hy 1 _ rfl)
        rw [Nat.add_zero] at x0 y0
        generalize xs[k] = x at hx x0 x1
        generalize ys[k] = y at hy y0 y1
        have HX := Lib.hid hx
        have HY := Lib.hid hy
        clear hx hy hcell1 hcell2 hr hr'
        go_wp2
        cases hq : (x.1 == y.1 && x.2 == y.2)
        · skip
          refine wp_region_plan (fun w' => w'.cell? ⟨b1, o1 + k * 2, none⟩ = some (.int .i64 x.1) ∧ w'.cell? ⟨b1, o1 + k * 2 + 1, none⟩ = some (.int .i64 x.2) ∧ w'.cell? ⟨b2, o2 + k * 2, none⟩ = some (.int .i64 y.1) ∧ w'.cell? ⟨b2, o2 + k * 2 + 1, none⟩ = some (.int .i64 y.2) ∧ Below w.heap.size w w') [] [0, 1, 2, 3, 4, 5, 6, 7, 8] (by kernel_rfl) (by kernel_rfl) (by ((first | assumption | exact keep4 (by assumption) (by assumption) | exact keep4 (by assumption) (ext_alloc _ _) | exact keep4 (by assumption) (ext_drew _) | exact keep4 ⟨by assumption, by assumption, by assumption, by assumption, by assumption⟩ (ext_drew _) | go_keep))) (fun hSw => ?_)
          repeat (first
            | (refine wpPlan_pas rfl rfl (fun K hK => ?_)
               apply Exists.intro
               refine ⟨?_, ?_⟩
               · first | exact pasOk_no rfl | (apply pasOk_yes rfl; intro wS hS; obtain ⟨s0, s1, s2, s3, s4⟩ := hS; go_simp; first | done | exact rfl | ((try simp only [↓IntWalk.iteOmega]); (try go_bits); (try go_simp); first | done | exact rfl))
               go_simp
               refine hK _ ?_
               clear hK K)
            | (refine wpPlan_no rfl rfl rfl (by assumption) (fun K hK => ?_)
               go_simp
               refine hK _ ?_
               clear hK K)
            | (refine wpPlan_act rfl rfl rfl (fun K hK => ?_)
               go_wp2
               refine OnlyK.go (hK _ _ (by ((first | assumption | exact keep4 (by assumption) (by assumption) | exact keep4 (by assumption) (ext_alloc _ _) | exact keep4 (by assumption) (ext_drew _) | exact keep4 ⟨by assumption, by assumption, by assumption, by assumption, by assumption⟩ (ext_drew _) | go_keep))) (fun hSw => ?_))
               clear hK K))
          refine wpPlan_nil ?_
          have hbS := held4 hSw
          clear hSw
          have hne : res = false := by
            rw [← HRES.out]
            simp only [decide_eq_false_iff_not]
            intro e
            have hxx := HX.out
            have hyy := HY.out
            rw [e, hyy] at hxx
            simp only [Option.some.injEq] at hxx
            subst hxx
            simp at hq
          have HNE := Lib.hid hne
          clear hne
          go_wp2
          go_ret
          exact ⟨by rw [HNE.out]; rfl, hbS⟩
        · skip
          refine wp_region_plan (fun w' => w'.cell? ⟨b1, o1 + k * 2, none⟩ = some (.int .i64 x.1) ∧ w'.cell? ⟨b1, o1 + k * 2 + 1, none⟩ = some (.int .i64 x.2) ∧ w'.cell? ⟨b2, o2 + k * 2, none⟩ = some (.int .i64 y.1) ∧ w'.cell? ⟨b2, o2 + k * 2 + 1, none⟩ = some (.int .i64 y.2) ∧ Below w.heap.size w w') [] [0, 1, 2, 3, 4, 5, 6, 7, 8] (by kernel_rfl) (by kernel_rfl) (by ((first | assumption | exact keep4 (by assumption) (by assumption) | exact keep4 (by assumption) (ext_alloc _ _) | exact keep4 (by assumption) (ext_drew _) | exact keep4 ⟨by assumption, by assumption, by assumption, by assumption, by assumption⟩ (ext_drew _) | go_keep))) (fun hSw => ?_)
          repeat (first
            | (refine wpPlan_pas rfl rfl (fun K hK => ?_)
               apply Exists.intro
               refine ⟨?_, ?_⟩
               · first | exact pasOk_no rfl | (apply pasOk_yes rfl; intro wS hS; obtain ⟨s0, s1, s2, s3, s4⟩ := hS; go_simp; first | done | exact rfl | ((try simp only [↓IntWalk.iteOmega]); (try go_bits); (try go_simp); first | done | exact rfl))
               go_simp
               refine hK _ ?_
               clear hK K)
            | (refine wpPlan_no rfl rfl rfl (by assumption) (fun K hK => ?_)
               go_simp
               refine hK _ ?_
               clear hK K)
            | (refine wpPlan_act rfl rfl rfl (fun K hK => ?_)
               go_wp2
               refine OnlyK.go (hK _ _ (by ((first | assumption | exact keep4 (by assumption) (by assumption) | exact keep4 (by assumption) (ext_alloc _ _) | exact keep4 (by assumption) (ext_drew _) | exact keep4 ⟨by assumption, by assumption, by assumption, by assumption, by assumption⟩ (ext_drew _) | go_keep))) (fun hSw => ?_))
               clear hK K))
          refine wpPlan_nil ?_
          have hbS := held4 hSw
          clear hSw
          have hxy : x = y := by
            simp only [Bool.and_eq_true, beq_iff_eq] at hq
            exact Prod.ext hq.1 hq.2
          have HXY := Lib.hid hxy
          clear hxy
          go_wp2
          go_roundw
          case rel => exact ⟨k + 1, by omega, by go_num, hbS, fun j hj => by
            by_cases e : j = k
            · subst e; rw [HX.out, HY.out, HXY.out]
            · exact hz.out j (by omega)⟩
          case measure => simp [intOf]; omega
      · obtain rfl : k = xs.length := by omega
        have hne : res = true := by
          rw [← HRES.out]
          simp only [decide_eq_true_eq]
          exact eq_of_gets xs ys HLL.out hz.out
        have HNE := Lib.hid hne
        clear hne
        go_wp2
        go_ret
        exact ⟨by rw [HNE.out]; rfl, hb⟩

def checkCurV (l : List Nd) (all : List (Int × Int)) : Int := if firstV [checkNodesV l, whenV (!decide (all.length = l.length)) 2] ≠ 0 then firstV [checkNodesV l, whenV (!decide (all.length = l.length)) 2] else whenV (!decide (all = currentsN l)) 19

set_option maxHeartbeats 4000000 in
theorem CheckCurrents_any (v va : Value) (l : List Nd) (all : List (Int × Int)) (w : World) (hs : SlAt encN 7 w v l) (hok : Names l) (ha : SlAt encG 2 w va all) :
    Calls Tryz.prog 59 #[v, va] w fun e w' => e = .returned (.int .i64 (checkCurV l all)) ∧ Below w.heap.size w w' := by
  have hsw := hs
  have haw := ha
  obtain ⟨A, c, rfl, hc1, hc2, hr⟩ := hs
  obtain ⟨A', c', rfl, hc1', hc2', hr'⟩ := ha
  have hc := checkNodes_any l _ w hsw hok
  have hz : checkNodesV l = 0 → _ := good_of
  have hV : checkCurV l all = if firstV [checkNodesV l, whenV (!decide (all.length = l.length)) 2] ≠ 0 then firstV [checkNodesV l, whenV (!decide (all.length = l.length)) 2] else whenV (!decide (all = currentsN l)) 19 := rfl
  rw [hV]
  clear hV hr hr'
  generalize checkNodesV l = e0 at hc hz ⊢
  have hil : ((all.length : Int) != (l.length : Int)) = !decide (all.length = l.length) := by by_cases h : all.length = l.length <;> simp [h, bne] <;> omega
  generalize decide (all.length = l.length) = dl at hil ⊢
  go_enter Tryz.func59, Tryz.ntmps59
  cases hq : (firstV [e0, whenV (!dl) 2] != 0)
  · have he : firstV [e0, whenV (!dl) 2] = 0 := by simpa using hq
    rw [if_neg (by simpa using he)]
    have h0 : e0 = 0 := (firstV_zero _).1 he e0 (by simp)
    subst h0
    have hg := hz rfl
    have hcu := fun W hW => currents_any _ l hg.acyc hg.len0 hg.len hg.cur W (hsw.ext hW)
    clear hz he
    generalize currentsN l = xs at hcu ⊢
    have heq := fun (W : World) (v2 : Value) (hW : Below w.heap.size w W) (h2 : SlAt encG 2 W v2 xs) => equalG_any all xs _ v2 W (haw.ext hW) h2
    generalize decide (all = xs) = dd at heq ⊢
    cases dl
    · simp [whenV] at hq; simp [firstV] at hq
    · skip
      go_wp2_with (first
        | (go_at_call 21; refine hc.mono ?_; rintro e w1 ⟨rfl, hb1⟩)
        | (go_at_call 82; refine (when_any _ _ _).mono ?_; rintro e w3 ⟨rfl, rfl⟩)
        | (go_at_call 81; refine (first_any [_, _] _ _ (slat_new encI_len (by simp) rfl (by simp))).mono ?_; rintro e w3 ⟨rfl, rfl⟩)
        | (go_at_call 75; refine (hcu _ (hb1.alloc hb1.size _)).mono ?_; rintro e w4 ⟨v2, rfl, ho2, hb4, hn2⟩; have hb5 := ext_trans (hb1.alloc hb1.size _) hb4; have hsx := ho2.slat encG_len; obtain ⟨A2, c2, rfl⟩ := ho2.slice)
        | (go_at_call 109; refine (heq _ _ hb5 hsx).mono ?_; rintro e w6 ⟨rfl, hb6⟩; have hb7 := ext_trans hb5 hb6))
      go_ret
      exact ⟨rfl, hb7⟩
  · have he : firstV [e0, whenV (!dl) 2] ≠ 0 := by simpa using hq
    rw [if_pos he]
    go_wp2_with (first
      | (go_at_call 21; refine hc.mono ?_; rintro e w1 ⟨rfl, hb1⟩)
      | (go_at_call 82; refine (when_any _ _ _).mono ?_; rintro e w3 ⟨rfl, rfl⟩; have hb2 := hb1.alloc hb1.size (.cells #[.int .i64 e0, .int .i64 (whenV (!dl) 2)] 26))
      | (go_at_call 81; refine (first_any [_, _] _ _ (slat_new encI_len (by simp) rfl (by simp))).mono ?_; rintro e w3 ⟨rfl, rfl⟩))
    go_ret
    exact ⟨rfl, hb2⟩
end Go.Proofs.YtlogjgmfkjjhjaaGreatDoor
namespace Go.Proofs.YtlogjgmfkjjhjaaGreatDoor
open Go.RowKit

/-- what the library's own variables hold -/
structure Env (w : World) : Prop where
  tab : Lib.TabIs Tryz.prog w "internal/strconv.uint64pow10" .u64 Lib.pow10Tab
  mx : ∃ m, w.cell? ⟨1, 0, none⟩ = some (.int .i64 m)
theorem tab_ext {P : Program} {w w1 : World} {name : String} {k : IntKind} {zs : List Int} (h : Lib.TabIs P w name k zs) (hb : Below w.heap.size w w1) : Lib.TabIs P w1 name k zs := by
  unfold Lib.TabIs World.var? at h ⊢
  cases hg : P.globalNamed name with
  | none => rw [hg] at h; simp at h
  | some g =>
    rw [hg] at h
    simp only [Option.bind_some] at h ⊢
    cases hh : w.heap[g]? with
    | none => rw [hh] at h; simp at h
    | some o =>
      rw [hb.block g (Array.getElem?_eq_some_iff.1 hh).1]
      exact h
theorem Env.ext {w w1 : World} (h : Env w) (hb : Below w.heap.size w w1) : Env w1 :=
  ⟨tab_ext h.tab hb, by obtain ⟨m, hm⟩ := h.mx; exact ⟨m, ext_cell hb hm⟩⟩
theorem below_grow (w : World) (k : Nat) (os : Array Obj) : Below w.heap.size w (Go.Sort.grow (w.drewN k) os) :=
  ⟨rfl, rfl, rfl, by simp [Go.Sort.grow], fun j hj => by simp only [Go.Sort.grow]; exact Array.getElem?_append_left (xs := w.heap) hj⟩
def itoaB (n : Int) : ByteArray := ⟨(Lib.itoa n).toArray⟩
theorem itoa_any (n : Int) (w : World) (he : Env w) (h0 : -9223372036854775808 ≤ n) (h1 : n ≤ 9223372036854775807) :
    Calls Tryz.prog 124 #[.int .i64 n] w fun e w' => e = .returned (.string (itoaB n)) ∧ Below w.heap.size w w' :=
  (Tryz.strconv_Itoa n h0 h1 w he.tab).mono fun e w' ⟨h, k, os, hw⟩ => ⟨h, by rw [hw]; exact below_grow w k os⟩

set_option maxHeartbeats 2000000 in
theorem mappedIS {lb : Array Value} (f : Int → ByteArray) (g : Nat) (eg : ∀ args w, (callFunc g args).run Tryz.prog w = .ok (.enter g args) w) (xs : List Int) (v : Value) (w : World)
    (hs : SlAt encI 1 w v xs) (hn : xs.length ≤ 1048576) (hp : FnB g lb (fun x : Int => .int .i64 x) Value.string f xs w) :
    Calls Tryz.prog 123 #[v, .func (.func g) #[] lb] w (RetSl encS 1 9 (xs.map f) w) := by
  obtain ⟨A, c, rfl, hc, hm, hr⟩ := hs
  have hlen : xs.length ≤ 9223372036854775807 := by omega
  go_enter Tryz.func123, Tryz.ntmps123
  go_wp2
  go_loopw [10, 5] (fun i o wr => ∃ k : Nat, k ≤ xs.length ∧ i = .int .i64 k ∧ Below w.heap.size w wr ∧ Own encS 1 w.heap.size 9 wr o ((xs.take k).map f) ∧ Hid ((xs.take k).map f = [] → o = .slice none 0 0)) (fun i _ _ => xs.length - (intOf i).toNat)
  case atStart => exact ⟨0, Nat.zero_le _, rfl, Below.refl _ _, Own.nil _, fun _ => rfl⟩
  case round =>
    obtain ⟨k, hk, rfl, hb, ho, hnil⟩ := hrel
    by_cases hlt : k < xs.length
    · obtain ⟨b, off, rfl, hbl, hcell⟩ := hr (by omega)
      have hx : xs[k]? = some xs[k] := List.getElem?_eq_getElem hlt
      have hcall := fun W hW => hp W xs[k] (List.getElem_mem hlt) hW
      have hts := map_take_succ f xs k hlt
      generalize xs[k] = x at hx hcall hts
      have c0 := ext_cell hb (hcell k x hx 0 _ rfl)
      rw [Nat.add_zero, Nat.mul_one] at c0
      have hlt2 : ((xs.take k).map f).length = k := by simp; omega
      have HTS := Lib.hid hts
      have HL := Lib.hid hlt2
      clear hcell hr hp hx hts hlt2
      generalize (xs.take k).map f = ys at ho hnil HTS HL
      generalize f x = y at hcall HTS
      have hsz := hb.size
      go_wp2_with (first
        | (go_at_fn g; refine (hcall _ hb).mono ?_; rintro e w1 ⟨rfl, hb1⟩; have hbw := ext_trans hb hb1; have ho1 := ho.ext hb1)
        | (at_builtin; refine own_append (w0 := w) rfl _ _ 25 (.string ByteArray.empty) 16 rfl Tryz.underlying25 infoS rfl (by decide) (by decide) encS_len _ ys y _ rfl rfl rfl (by simp [encS, Value.oneCell']) ho1 hbw hbw.size (by have := HL.out; omega) ?_; intro v1 w2 hown hbv hgv hnn))
      go_roundw
      case rel => exact ⟨k + 1, by omega, by go_num, hbv, by rw [HTS.out]; exact hown, fun h => by rw [HTS.out] at h; simp at h⟩
      case measure => simp [intOf]; omega
    · obtain rfl : k = xs.length := by omega
      rw [List.take_of_length_le (Nat.le_refl _)] at ho hnil
      go_wp2
      go_ret
      exact ⟨_, rfl, ho, hb, hnil.out⟩
theorem itoa_fn (xs : List Int) (w : World) (he : Env w) (hx : ∀ x ∈ xs, -9223372036854775808 ≤ x ∧ x ≤ 9223372036854775807) : FnB 124 #[] (fun x : Int => .int .i64 x) Value.string itoaB xs w :=
  fun W x hm hW => by have := itoa_any x W (he.ext hW) (hx x hm).1 (hx x hm).2; simpa using this
end Go.Proofs.YtlogjgmfkjjhjaaGreatDoor
