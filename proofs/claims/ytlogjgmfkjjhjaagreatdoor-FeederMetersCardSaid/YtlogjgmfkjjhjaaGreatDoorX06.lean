/-
  Rows of elements of several cells that a call rewrites in place: a store of one element, a clear of the end; slices.DeleteFunc at nodes over a row of the caller's own, where the predicate may lay new memory: the nodes that are kept, in their order.
  slices.DeleteFunc at nodes, over a row of the caller's own: the nodes that are kept, in their order.
  slices.Index, slices.Contains at strings.
  The builtin copy at elements of several cells into a row just made; feeder.branch and what it calls. At most 2^20 nodes, one at least; each parent lies before its node.
-/
import Derived.Test.YtlogjgmfkjjhjaaGreatDoorX05
import Derived.Deep.MidRow
import Derived.Test.YtlogjgmfkjjhjaaGreatDoorX04
set_option linter.unusedSimpArgs false
set_option linter.unusedVariables false
namespace Go.Proofs.YtlogjgmfkjjhjaaGreatDoor
open Go.RowKit

/-- the rows ys lie in block b from off on, and may be written -/
def RowC {α : Type} (E : α → List Value) (k b off : Nat) (w : World) (ys : List α) : Prop :=
  b < w.heap.size ∧ (∀ i x, ys[i]? = some x → ∀ j u, (E x)[j]? = some u → w.cell? ⟨b, off + i * k + j, none⟩ = some u) ∧ ∀ j, w.frozen? ⟨b, j, none⟩ = false

section
variable {α : Type} {E : α → List Value} {k b off : Nat} {w w1 : World} {ys : List α}
theorem RowC.ext (h : RowC E k b off w ys) (hb : Below w.heap.size w w1) : RowC E k b off w1 ys :=
  ⟨Nat.lt_of_lt_of_le h.1 hb.size, fun i x hx j u hu => ext_cell hb (h.2.1 i x hx j u hu), fun j => by
    have := h.2.2 j
    simp only [World.frozen?] at this ⊢
    rw [hb.block b h.1]; exact this⟩
theorem RowC.slat (h : RowC E k b off w ys) {c : Nat} (hc : ys.length ≤ c) (hc2 : c ≤ 9223372036854775807) : SlAt E k w (.slice (some ⟨b, off, none⟩) ys.length c) ys :=
  ⟨_, c, rfl, hc, hc2, fun _ => ⟨b, off, rfl, h.1, h.2.1⟩⟩
theorem RowC.take (h : RowC E k b off w ys) (n : Nat) : RowC E k b off w (ys.take n) :=
  ⟨h.1, fun i x hx => h.2.1 i x (by rw [List.getElem?_take] at hx; split at hx <;> simp_all), h.2.2⟩
theorem RowC.there (hE : ∀ x, (E x).length = k) (h : RowC E k b off w ys) {i : Nat} (hi : i < ys.length) : w.there b (off + i * k) k := fun j hj => by
  refine ⟨?_, h.2.2 _⟩
  have hu : (E ys[i])[j]? = some ((E ys[i])[j]'(by rw [hE]; exact hj)) := List.getElem?_eq_getElem _
  rw [h.2.1 i ys[i] (List.getElem?_eq_getElem hi) j _ hu]
  rfl
theorem size_setCells (b : Nat) : ∀ (vs : List Value) (o : Nat) (w : World), (w.setCells b o vs).heap.size = w.heap.size
  | [], _, _ => rfl
  | v :: r, o, w => by rw [World.setCells, size_setCells b r]; exact Array.size_modify
theorem below_setCells {n₀ b : Nat} (hb : n₀ ≤ b) : ∀ (vs : List Value) (o : Nat) (w : World), Below n₀ w (w.setCells b o vs)
  | [], _, w => Below.refl _ _
  | v :: r, o, w => ((Below.refl n₀ w).setCell (p := ⟨b, o, none⟩) hb v).trans (below_setCells hb r (o + 1) _)
theorem RowC.set (hE : ∀ x, (E x).length = k) (h : RowC E k b off w ys) {i : Nat} (hi : i < ys.length) (z : α) : RowC E k b off (w.setCells b (off + i * k) (E z)) (ys.set i z) := by
  refine ⟨by rw [size_setCells]; exact h.1, fun i' x hx j u hu => ?_, fun j => by rw [World.frozen?_setCells]; exact h.2.2 j⟩
  have hjk : j < k := by rw [← hE x]; exact (List.getElem?_eq_some_iff.1 hu).1
  by_cases e : i' = i
  · subst e
    rw [List.getElem?_set_self hi] at hx
    obtain rfl : z = x := by simpa using hx
    have ht := h.there hE hi
    rw [World.cell?_setCells_in b (E z) (off + i' * k) w (fun j hj => (ht j (by rw [hE] at hj; exact hj)).1) j (by rw [hE]; exact hjk)]
    rw [List.getElem?_eq_getElem (by rw [hE]; exact hjk)] at hu
    exact hu
  · rw [List.getElem?_set_ne (fun h => e h.symm)] at hx
    rw [World.cell?_setCells_out]
    · exact h.2.1 i' x hx j u hu
    · intro _ _
      rw [hE]
      show off + i' * k + j < off + i * k ∨ off + i * k + k ≤ off + i' * k + j
      rcases Nat.lt_or_gt_of_ne e with h1 | h1
      · left
        have : (i' + 1) * k ≤ i * k := Nat.mul_le_mul_right k h1
        rw [Nat.add_mul] at this; omega
      · right
        have : (i + 1) * k ≤ i' * k := Nat.mul_le_mul_right k h1
        rw [Nat.add_mul] at this; omega
theorem RowC.cut (h : RowC E k b off w ys) (n : Nat) (hn : n ≤ ys.length) (hE : ∀ x, (E x).length = k) (vs : List Value) : RowC E k b off (w.setCells b (off + n * k) vs) (ys.take n) := by
  refine ⟨by rw [size_setCells]; exact h.1, fun i x hx j u hu => ?_, fun j => by rw [World.frozen?_setCells]; exact h.2.2 j⟩
  have hjk : j < k := by rw [← hE x]; exact (List.getElem?_eq_some_iff.1 hu).1
  rw [List.getElem?_take] at hx
  split at hx
  · rename_i hin
    rw [World.cell?_setCells_out]
    · exact h.2.1 i x hx j u hu
    · intro _ _
      left
      have : (i + 1) * k ≤ n * k := Nat.mul_le_mul_right k hin
      rw [Nat.add_mul] at this; show off + i * k + j < off + n * k; omega
  · cases hx
end

section
variable {P : Program} {ops : Array Oper} {rest : List Oper} {o : Oper} {a : Act} {w : World} {Q : Exit → Act → World → Prop}
/-- the store of one element -/
theorem wpList_store_row {α : Type} {E : α → List Value} {k b off : Nat} {ys : List α} (hgd : o.guard = none) (ty : TypeId) (p q : Operand) (ho : o.op = .store ty p q) (hE : ∀ x, (E x).length = k) (h1 : ∀ x, ∀ v ∈ E x, v.oneCell' = true) (hi : (P.info? ty).map (·.size) = some k)
    (i : Nat) (z : α) (hr : RowC E k b off w ys) (hil : i < ys.length) (hp : a.eval p = .pointer (some ⟨b, off + i * k, none⟩)) (cs : Array Value) (hcs : cs = (E z).toArray) (hq : a.eval q = .agg cs)
    (h : ∀ w1, RowC E k b off w1 (ys.set i z) → Below b w w1 → w1.heap.size = w.heap.size → wpList P ops Q rest (a.put o.dst undef) w1) : wpList P ops Q (o :: rest) a w := by
  subst hcs
  refine wpList_store_mid hgd ty p q ho b (off + i * k) (E z).toArray hp hq (by rw [List.size_toArray, hE]; exact hr.there hE hil) (by rw [List.size_toArray, hE]; exact hi) (all_oneCell_toArray (h1 z)) ?_
  exact h _ (hr.set hE hil z) (below_setCells (Nat.le_refl b) _ _ _) (size_setCells _ _ _ _)
/-- clear of a row's end -/
theorem wpList_clear_row {α : Type} {E : α → List Value} {k b off : Nat} {ys : List α} (hgd : o.guard = none) (s : Operand) (t e : TypeId) (z : Value) (ho : o.op = .call { callee := .builtin .clear, args := #[s], argTypes := #[t] }) (ht : P.underlying t = some (.slice e)) (hv : ∀ w, (zeroValue e).run P w = .ok z w) (hz : z.cells.size = k) (hz1 : ∀ v ∈ z.cells, v.oneCell' = true) (hE : ∀ x, (E x).length = k) (hk : 0 < k)
    (n m c : Nat) (hr : RowC E k b off w ys) (hn : n < ys.length) (hm : n + m = ys.length) (hs : a.eval s = .slice (some ⟨b, off + n * k, none⟩) m c)
    (h : ∀ w1, RowC E k b off w1 (ys.take n) → Below b w w1 → w1.heap.size = w.heap.size → wpList P ops Q rest (a.put o.dst (.tuple #[])) w1) : wpList P ops Q (o :: rest) a w := by
  refine wpList_plain hgd fun K hK => ?_
  have hsz : (Builtin.zeroCells z.cells m).toList.length = m * k := by simp [Builtin.zeroCells, hz]
  have hth : ∀ j, j < m * k → (w.cell? ⟨b, off + n * k + j, none⟩).isSome = true := fun j hj => by
    have h2 := (hr.there hE (i := n + j / k) (by have := (Nat.div_lt_iff_lt_mul hk).2 hj; omega)) (j % k) (Nat.mod_lt _ hk)
    rw [Nat.add_mul, show off + (n * k + j / k * k) + j % k = off + n * k + j by have := Nat.div_add_mod j k; rw [Nat.mul_comm] at this; omega] at h2
    exact h2.1
  have hst := run_storeCells_cells (P := P) b (off + n * k) (Builtin.zeroCells z.cells m).toList 0 w (by rw [hsz]; simpa using hth) (fun j _ => hr.2.2 _) (by
    intro v hv'
    simp only [Builtin.zeroCells, Array.toList_map, List.mem_map] at hv'
    obtain ⟨i, hi, rfl⟩ := hv'
    have : i % z.cells.size < z.cells.size := Nat.mod_lt _ (by omega)
    rw [getElem!_pos z.cells _ this]
    exact hz1 _ (Array.getElem_mem this))
  simp only [Nat.add_zero] at hst
  obtain ⟨m, rfl⟩ : ∃ m', m = m' + 1 := ⟨m - 1, by omega⟩
  have hrun : (Builtin.clear_ #[t] o.type #[.slice (some ⟨b, off + n * k, none⟩) (m + 1) c]).run P w = .ok (.tuple #[]) (w.setCells b (off + n * k) (Builtin.zeroCells z.cells (m + 1)).toList) := by
    simp [Builtin.clear_, run_underlying ht, hv, hst]
  unfold Oper.wp execOp
  simp only [ho, resolve, invoke, builtin, Sem.run_bind, Sem.run_pure, Result.andThen_ok, List.map_toArray, List.map_cons, List.map_nil, hs, hrun]
  exact hK _ _ (h _ (hr.cut n (by omega) hE _) (below_setCells (Nat.le_refl b) _ _ _) (size_setCells _ _ _ _))
end

/-- a function value that is called on the elements of a list, where what lies from block b on may have turned -/
def FnFrom {α β : Type} (b g : Nat) (lb : Array Value) (EA : α → Value) (VU : β → Value) (f : α → β) (xs : List α) (w : World) : Prop :=
  ∀ (W : World) (x : α), x ∈ xs → Below b w W → Calls Tryz.prog g (#[EA x] ++ lb) W fun e w' => e = .returned (VU (f x)) ∧ Below W.heap.size W w'

theorem encN_one (x : Nd) : ∀ v ∈ encN x, v.oneCell' = true := by
  intro v hv
  simp only [encN, List.mem_cons, List.mem_nil_iff, or_false] at hv
  rcases hv with rfl | rfl | rfl | rfl | rfl | rfl | rfl <;> rfl
theorem sizeN : (Tryz.prog.info? 125).map (·.size) = some 7 := by kernel_rfl
end Go.Proofs.YtlogjgmfkjjhjaaGreatDoor
namespace Go.Proofs.YtlogjgmfkjjhjaaGreatDoor
open Go.RowKit

theorem idxFrom_hit_iff {α : Type} (p : α → Bool) : ∀ (xs : List α) (i : Nat), (idxFrom p i xs = -1 ∧ xs.filter (fun x => !p x) = xs) ∨ ∃ k, idxFrom p i xs = ((i + k : Nat) : Int) ∧ k < xs.length ∧ (xs.take (k + 1)).filter (fun x => !p x) = xs.take k
  | [], _ => .inl ⟨rfl, rfl⟩
  | x :: r, i => by
    unfold idxFrom
    cases h : p x with
    | true => exact .inr ⟨0, by simp, by simp, by simp [h]⟩
    | false =>
      rcases idxFrom_hit_iff p r (i + 1) with ⟨h1, h2⟩ | ⟨k, h1, h2, h3⟩
      · left; simp [h, h1, h2]
      · right; refine ⟨k + 1, by simp [h1]; omega, by simp; omega, ?_⟩
        rw [List.take_succ_cons, List.take_succ_cons, List.filter_cons_of_pos (by simp [h]), h3]

/-- the loop's relation -/
structure InvD {α : Type} (p : α → Bool) (xs : List α) (i j : Nat) (ys : List α) : Prop where
  len : ys.length = xs.length
  low : ys.take i = (xs.take j).filter fun x => !p x
  high : ys.drop j = xs.drop j
  lt : i < j
theorem InvD.skip {α : Type} {p : α → Bool} {xs ys : List α} {i j : Nat} (h : InvD p xs i j ys) (x : α) (hx : xs[j]? = some x) (hp : p x = true) : InvD p xs i (j + 1) ys := {
  len := h.len
  low := by
    obtain ⟨hj, e⟩ := List.getElem?_eq_some_iff.1 hx
    rw [h.low, List.take_succ_eq_append_getElem hj, e, List.filter_append]; simp [hp]
  high := by rw [← List.drop_drop, h.high, List.drop_drop]
  lt := by have := h.lt; omega }
theorem InvD.keep {α : Type} {p : α → Bool} {xs ys : List α} {i j : Nat} (h : InvD p xs i j ys) (x : α) (hx : xs[j]? = some x) (hp : p x = false) : InvD p xs (i + 1) (j + 1) (ys.set i x) := {
  len := by simpa using h.len
  low := by
    obtain ⟨hj, e⟩ := List.getElem?_eq_some_iff.1 hx
    have hi : i < (ys.set i x).length := by have := h.lt; have := h.len; simp; omega
    rw [List.take_succ_eq_append_getElem hi, List.take_set_of_le (Nat.le_refl _), h.low, List.take_succ_eq_append_getElem hj, e, List.filter_append]; simp [hp]
  high := by
    have := h.lt
    rw [List.drop_set_of_lt (by omega), ← List.drop_drop, h.high, List.drop_drop]
  lt := by have := h.lt; omega }
theorem InvD.get {α : Type} {p : α → Bool} {xs ys : List α} {i j : Nat} (h : InvD p xs i j ys) : ys[j]? = xs[j]? := by
  have := congrArg (·[0]?) h.high
  simpa using this

set_option maxHeartbeats 4000000 in
theorem deleteN (off : Nat) (pb : Nd → Bool) (g : Nat) (lb : Array Value) (eg : ∀ args w, (callFunc g args).run Tryz.prog w = .ok (.enter g args) w) (b c : Nat) (xs : List Nd) (w : World) (hlen : xs.length ≤ 1048576) (hc : xs.length ≤ c) (hc2 : c ≤ 9223372036854775807)
    (hr : RowC encN 7 b off w xs) (hp : FnFrom b g lb (fun x => .agg (encN x).toArray) Value.bool pb xs w) :
    Calls Tryz.prog 135 #[.slice (some ⟨b, off, none⟩) xs.length c, .func (.func g) #[] lb] w fun e w' => e = .returned (.slice (some ⟨b, off, none⟩) (xs.filter fun x => !pb x).length c) ∧ Below b w w' ∧ RowC encN 7 b off w' (xs.filter fun x => !pb x) := by
  have hb := hr.1
  have hI := indexFuncN pb g lb eg xs _ w (hr.slat hc hc2) (fun W x hx hW => hp W x hx (hW.mono (by omega)))
  rcases idxFrom_hit_iff pb xs 0 with ⟨h1, h2⟩ | ⟨k0, h1, hk0, h2⟩
  · rw [show idxI pb xs = -1 from h1] at hI
    rw [h2]
    clear h1 h2
    go_enter Tryz.func135, Tryz.ntmps135
    go_wp2_with (go_at_call 145; refine hI.mono ?_; rintro e w1 ⟨rfl, hb1⟩)
    go_ret
    exact ⟨rfl, hb1.mono (by omega), hr.ext hb1⟩
  · rw [show idxI pb xs = (k0 : Int) by rw [idxI, h1]; simp] at hI
    have hne1 : ((k0 : Int) == -1) = false := beq_eq_false_iff_ne.2 (by omega)
    have hst : InvD pb xs k0 (k0 + 1) xs := ⟨rfl, h2.symm, rfl, by omega⟩
    have HST := Lib.hid hst
    clear h1 h2 hst
    go_enter Tryz.func135, Tryz.ntmps135
    go_wp2_with (go_at_call 145; refine hI.mono ?_; rintro e w1 ⟨rfl, hb1⟩)
    go_loopw [5, 6, 7] (fun i j _ wr => ∃ (i0 j0 : Nat) (ys : List Nd), i = .int .i64 i0 ∧ j = .int .i64 j0 ∧ RowC encN 7 b off wr ys ∧ j0 ≤ xs.length ∧ Below b w wr ∧ Hid (InvD pb xs i0 j0 ys)) (fun _ j _ _ => xs.length - (intOf j).toNat)
    case atStart => exact ⟨k0, k0 + 1, xs, rfl, by go_num, hr.ext hb1, by omega, hb1.mono (by omega), HST⟩
    case round =>
      obtain ⟨i0, j0, ys, rfl, rfl, hrow, hj, hbr, HV⟩ := hrel
      have hij := HV.out.lt
      have hyl := HV.out.len
      have hbs := hrow.1
      by_cases hlt : j0 < xs.length
      · have hx : xs[j0]? = some (xs.getD j0 default) := by rw [List.getD_eq_getElem?_getD, List.getElem?_eq_getElem hlt]; rfl
        have hy : ys[j0]? = some (xs.getD j0 default) := by rw [HV.out.get, hx]
        obtain ⟨c0, c1, c2, c3, c4, c5, c6⟩ := nodeCells (fun i u hu => (hrow.2.1 j0 _ hy i u hu))
        have hcall := fun W hW => hp W (xs.getD j0 default) (List.mem_of_getElem? hx) hW
        generalize xs.getD j0 default = x at c0 c1 c2 c3 c4 c5 c6 hcall hx
        have HX := Lib.hid hx
        clear hx hy
        have hbb : Below b w (wr.alloc (.cells (encN x).toArray 125)) := hbr.alloc (by omega) _
        have cx : ∀ w' i u, Below (wr.alloc (.cells (encN x).toArray 125)).heap.size (wr.alloc (.cells (encN x).toArray 125)) w' → (encN x)[i]? = some u → w'.cell? ⟨wr.heap.size, i, none⟩ = some u := fun w' i u h hu => ext_cell h ((BoxC.new wr _ _).cell i u (by simpa using hu))
        have hrow1 := hrow.ext (ext_alloc wr (.cells (encN x).toArray 125))
        have HE : Hid (encN x = [.string x.name, .string x.parent, .int .i64 x.re, .int .i64 x.im, .int .i64 x.lim, .int .i64 x.cre, .int .i64 x.cim]) := Lib.hid rfl
        have hbz := Nat.le_of_lt hrow1.1
        unfold encN at hcall hbb cx hbz
        cases hq : pb x
        · rw [hq] at hcall
          go_wp2_with (first
            | (go_at_fn g; refine (hcall _ hbb).mono ?_; rintro e w1 ⟨rfl, hb1⟩; have x0 := cx w1 0 _ hb1 rfl; have x1 := cx w1 1 _ hb1 rfl; have x2 := cx w1 2 _ hb1 rfl; have x3 := cx w1 3 _ hb1 rfl; have x4 := cx w1 4 _ hb1 rfl; have x5 := cx w1 5 _ hb1 rfl; have x6 := cx w1 6 _ hb1 rfl; have hrow2 := hrow1.ext hb1; have hbx := hbb.trans (hb1.mono hbz); clear hcall cx)
            | (refine wpList_store_row rfl 125 _ _ rfl encN_len encN_one sizeN i0 x hrow2 (by omega) rfl _ rfl rfl ?_; intro w3 hrow3 hb3 hs3))
          go_roundw
          case rel => exact ⟨i0 + 1, j0 + 1, _, by go_num, by go_num, hrow3, by omega, hbx.trans hb3, Lib.hid (HV.out.keep x HX.out hq)⟩
          case measure => simp [intOf]; omega
        · rw [hq] at hcall
          go_wp2_with (go_at_fn g; refine (hcall _ hbb).mono ?_; rintro e w1 ⟨rfl, hb1⟩)
          go_roundw
          case rel => exact ⟨i0, j0 + 1, ys, rfl, by go_num, hrow1.ext hb1, by omega, hbb.trans (hb1.mono hbz), Lib.hid (HV.out.skip x HX.out hq)⟩
          case measure => simp [intOf]; omega
      · obtain rfl : j0 = xs.length := by omega
        have hl : (xs.filter fun x => !pb x).length = i0 := by
          have := congrArg List.length HV.out.low
          rw [List.length_take, List.take_of_length_le (Nat.le_refl _)] at this; omega
        have ht : ys.take i0 = xs.filter fun x => !pb x := by rw [HV.out.low, List.take_of_length_le (Nat.le_refl _)]
        have HL := Lib.hid hl
        have HT := Lib.hid ht
        clear hl ht
        go_wp2_with (refine wpList_clear_row rfl _ 29 125 _ rfl Tryz.underlying29 Tryz.zeroValue125 (by decide) (by decide) encN_len (by decide) i0 (xs.length - i0) (c - i0) hrow (by omega) (by omega) rfl ?_; intro w3 hrow3 hb3 hs3)
        go_ret
        rw [HT.out] at hrow3
        exact ⟨by rw [HL.out]; rfl, hbr.trans hb3, hrow3⟩
end Go.Proofs.YtlogjgmfkjjhjaaGreatDoor
namespace Go.Proofs.YtlogjgmfkjjhjaaGreatDoor
open Go.RowKit

theorem SlAt.one {α : Type} {E : α → List Value} {w : World} {v : Value} {xs : List α} (enc : α → Value) (hE : ∀ x, E x = [enc x]) (h : SlAt E 1 w v xs) :
    ∃ A c, v = .slice A xs.length c ∧ xs.length ≤ c ∧ c ≤ 9223372036854775807 ∧ (0 < xs.length → ∃ b off, A = some ⟨b, off, none⟩ ∧ b < w.heap.size ∧ ∀ j x, xs[j]? = some x → w.cell? ⟨b, off + j, none⟩ = some (enc x)) := by
  obtain ⟨A, c, h1, h2, h3, h4⟩ := h
  refine ⟨A, c, h1, h2, h3, fun hn => ?_⟩
  obtain ⟨b, off, h5, h6, h7⟩ := h4 hn
  refine ⟨b, off, h5, h6, fun j x hx => ?_⟩
  have := h7 j x hx 0 (enc x) (by rw [hE]; rfl)
  simpa using this

set_option maxHeartbeats 1000000 in
theorem indexS_any (xs : List ByteArray) (v : Value) (s : ByteArray) (w : World) (hs : SlAt encS 1 w v xs) :
    Calls Tryz.prog 147 #[v, .string s] w fun e w' => e = .returned (.int .i64 (idxI (fun x => decide (s = x)) xs)) ∧ w' = w := by
  obtain ⟨A, c, rfl, hc, hm, hr⟩ := hs.one Value.string (fun _ => rfl)
  have hlen : xs.length ≤ 9223372036854775807 := by omega
  clear hs
  go_enter Tryz.func147, Tryz.ntmps147
  go_wp2
  go_loop [8] (fun i => ∃ k : Nat, k ≤ xs.length ∧ i = .int .i64 k ∧ Hid (∀ j y, j < k → xs[j]? = some y → decide (s = y) = false)) (fun i => xs.length - (intOf i).toNat)
  case atStart => exact ⟨0, Nat.zero_le _, rfl, fun j y hj => absurd hj (Nat.not_lt_zero _)⟩
  case round =>
    obtain ⟨k, hk, rfl, hz⟩ := hrel
    by_cases hlt : k < xs.length
    · obtain ⟨b, off, rfl, hbl, hcell⟩ := hr (by omega)
      have hx : xs[k]? = some xs[k] := List.getElem?_eq_getElem hlt
      have c0 := hcell k _ hx
      generalize xs[k] = x at hx c0
      have HX := Lib.hid hx
      clear hcell hr hx
      have hbe : (s.toList == x.toList) = decide (s = x) := beq_str s x
      cases hq : decide (s = x)
      · rw [hq] at hbe
        have HQ := Lib.hid hq
        clear hq
        go_wp2
        go_round
        case rel => exact ⟨k + 1, by omega, by go_num, fun j y hj hy => by
          by_cases e : j = k
          · subst e; have := HX.out; rw [hy] at this; cases this; exact HQ.out
          · exact hz.out j y (by omega) hy⟩
        case measure => simp [intOf]; omega
      · rw [hq] at hbe
        have HQ := Lib.hid hq
        clear hq
        go_wp2
        go_ret
        refine ⟨?_, rfl⟩
        rw [idxI, idxFrom_hit _ xs 0 k x HX.out HQ.out hz.out, Nat.zero_add]; rfl
    · obtain rfl : k = xs.length := by omega
      go_wp2
      go_ret
      refine ⟨?_, rfl⟩
      rw [idxI, idxFrom_miss _ xs 0]
      · rfl
      · intro x hx
        obtain ⟨j, hj, e⟩ := List.getElem_of_mem hx
        exact hz.out j x hj (by rw [List.getElem?_eq_getElem hj, e])

theorem idxFrom_any {α : Type} (p : α → Bool) : ∀ (xs : List α) (i : Nat), decide (idxFrom p i xs ≥ 0) = xs.any p
  | [], _ => rfl
  | x :: r, i => by
    unfold idxFrom
    cases h : p x
    · simpa [h] using idxFrom_any p r (i + 1)
    · simp [h]
def hasS (xs : List ByteArray) (s : ByteArray) : Bool := xs.any fun x => decide (s = x)

theorem containsS_any (xs : List ByteArray) (v : Value) (s : ByteArray) (w : World) (hs : SlAt encS 1 w v xs) :
    Calls Tryz.prog 119 #[v, .string s] w fun e w' => e = .returned (.bool (hasS xs s)) ∧ w' = w := by
  have hi := idxFrom_any (fun x => decide (s = x)) xs 0
  go_enter Tryz.func119, Tryz.ntmps119
  have H := Lib.hid hi
  clear hi
  go_wp2_with (go_at_call 147; refine (indexS_any xs _ s _ hs).mono ?_; rintro e w1 ⟨rfl, rfl⟩)
  go_ret
  refine ⟨?_, rfl⟩
  simp only [hasS]
  rw [← H.out]
  rfl
end Go.Proofs.YtlogjgmfkjjhjaaGreatDoor
namespace Go.Proofs.YtlogjgmfkjjhjaaGreatDoor
open Go.RowKit

theorem flat_cells {α : Type} {E : α → List Value} {k : Nat} (hE : ∀ x, (E x).length = k) {w : World} {b off : Nat} {xs : List α}
    (h : ∀ j x, xs[j]? = some x → ∀ i u, (E x)[i]? = some u → w.cell? ⟨b, off + j * k + i, none⟩ = some u) (t : Nat) (v : Value) (ht : (xs.flatMap E)[t]? = some v) : w.cell? ⟨b, off + t, none⟩ = some v := by
  have hl : t < xs.length * k := by rw [← flat_len hE xs]; exact (List.getElem?_eq_some_iff.1 ht).1
  have hk : 0 < k := by
    rcases Nat.eq_zero_or_pos k with h0 | h0
    · subst h0; omega
    · exact h0
  have hi : t / k < xs.length := (Nat.div_lt_iff_lt_mul hk).2 hl
  have hj : t % k < k := Nat.mod_lt _ hk
  have he : t / k * k + t % k = t := by have := Nat.div_add_mod t k; rw [Nat.mul_comm] at this; exact this
  have hx : xs[t / k]? = some xs[t / k] := List.getElem?_eq_getElem hi
  have hu : (E xs[t / k])[t % k]? = some ((E xs[t / k])[t % k]'(by rw [hE]; exact hj)) := List.getElem?_eq_getElem _
  have h1 := h _ _ hx _ _ hu
  have h2 := flat_get hE xs _ _ hx _ _ hu
  rw [he, ht] at h2
  rw [Nat.add_assoc, he] at h1
  rw [h1]; exact h2.symm

section
variable {P : Program} {ops : Array Oper} {rest : List Oper} {o : Oper} {a : Act} {w : World} {Q : Exit → Act → World → Prop}
theorem wpList_copy_new {α : Type} {E : α → List Value} {k base : Nat} {ys : List α} (hgd : o.guard = none) (d s : Operand) (dT sT e : TypeId) (ho : o.op = .call { callee := .builtin .copy, args := #[d, s], argTypes := #[dT, sT] })
    (hu : P.underlying dT = some (.slice e)) (hsz : (P.info? e).map (·.size) = some k) (hE : ∀ x, (E x).length = k) (h1 : ∀ x, ∀ v ∈ E x, v.oneCell' = true) (v : Value) (hs : SlAt E k w v ys) (hn : 0 < ys.length)
    (g : Nat) (cells : List Value) (hg : w.ownsRow base e k (.slice (some ⟨g, 0, none⟩) ys.length ys.length) ys.length cells)
    (hd : a.eval d = .slice (some ⟨g, 0, none⟩) ys.length ys.length) (hv : a.eval s = v)
    (h : ∀ w1, RowC E k g 0 w1 ys → Below g w w1 → wpList P ops Q rest (a.put o.dst (goInt ys.length)) w1) : wpList P ops Q (o :: rest) a w := by
  refine wpList_plain hgd fun K hK => ?_
  obtain ⟨A, c, rfl, hc1, hc2, hr⟩ := hs
  obtain ⟨b, off, rfl, hb, hcell⟩ := hr hn
  rcases hg.2 with ⟨hv0, _⟩ | ⟨g', cap, cur, e1, hbg, hh, hcc, hmm, hz, ht⟩
  · cases hv0
  · obtain ⟨rfl, rfl⟩ : g = g' ∧ ys.length = cap := by simpa using e1
    have hfl : (ys.flatMap E).length = ys.length * k := flat_len hE ys
    have hth : ∀ j, j < ys.length * k → (w.cell? ⟨g, 0 + j, none⟩).isSome = true := fun j hj => by
      simp only [World.cell?, hh, Nat.zero_add]
      simp
      omega
    have hfz : ∀ j, w.frozen? ⟨g, j, none⟩ = false := fun j => by simp [World.frozen?, hh]
    have hl := run_loadCells_list (P := P) w ⟨b, off, none⟩ (ys.flatMap E) (fun j u hu' => by rw [Addr.add_mid]; exact flat_cells hE hcell j u hu')
    have hst := run_storeCells_cells (P := P) g 0 (ys.flatMap E) 0 w (by rw [hfl]; simpa using hth) (fun j _ => hfz _) (fun v hv' => by obtain ⟨x, _, hx⟩ := List.mem_flatMap.1 hv'; exact h1 x v hx)
    have hrun : (Builtin.copy_ #[dT, sT] o.type #[.slice (some ⟨g, 0, none⟩) ys.length ys.length, .slice (some ⟨b, off, none⟩) ys.length c]).run P w = .ok (goInt ys.length) (w.setCells g 0 (ys.flatMap E)) := by
      cases hq : P.info? e with
      | none => simp [hq] at hsz
      | some i =>
        have hi : i.size = k := by simpa [hq] using hsz
        rw [hfl] at hl
        simp only [Nat.add_zero] at hst
        simp [Builtin.copy_, run_underlying hu, Builtin.lenOf, Builtin.firstCells, sizeOf, typeInfo, hq, hi, hl, hst]
    unfold Oper.wp execOp
    simp only [ho, resolve, invoke, builtin, Sem.run_bind, Sem.run_pure, Result.andThen_ok, List.map_toArray, List.map_cons, List.map_nil, hd, hv, hrun]
    refine hK _ _ (h _ ⟨by rw [size_setCells]; exact (Array.getElem?_eq_some_iff.1 hh).1, fun i x hx j u hu' => ?_, fun j => by rw [World.frozen?_setCells]; exact hfz j⟩ (below_setCells (Nat.le_refl g) _ _ _))
    have hfg := flat_get hE ys i x hx j u hu'
    have hlt := (List.getElem?_eq_some_iff.1 hfg).1
    rw [Nat.add_assoc, World.cell?_setCells_in g (ys.flatMap E) 0 w (by rw [hfl]; exact hth) (i * k + j) hlt]
    rw [List.getElem?_eq_getElem hlt] at hfg
    exact hfg
end

/-- the nodes of a branch -/
def branchN (l : List Nd) (s : ByteArray) : List Nd := l.filter fun n => hasS (namesN l n.name) s

set_option maxHeartbeats 4000000 in
theorem branch1_any (lb nb : Nat) (v : Value) (l : List Nd) (s : ByteArray) (hac : Acyc l) (hl : l.length ≤ 1048576) (x : Nd) (w : World) (hcl : w.cell? ⟨lb, 0, none⟩ = some v) (hcn : w.cell? ⟨nb, 0, none⟩ = some (.string s)) (hs : SlAt encN 7 w v l) :
    Calls Tryz.prog 136 #[.agg (encN x).toArray, .pointer (some ⟨lb, 0, none⟩), .pointer (some ⟨nb, 0, none⟩)] w fun e w' => e = .returned (.bool (!hasS (namesN l x.name) s)) ∧ Below w.heap.size w w' := by
  have hlb := World.block_lt_of_cell? _ _ hcl
  have hnb := World.block_lt_of_cell? _ _ hcn
  have hnm := fun W hW => names_any v l x.name hac hl W (hs.ext hW)
  generalize hN : namesN l x.name = N at hnm
  clear hac hN
  obtain ⟨A, c, rfl, hc1, hc2, hr⟩ := hs
  clear hr
  unfold encN
  go_enter Tryz.func136, Tryz.ntmps136
  go_wp2
  generalize hW : World.alloc w _ = W
  have hbW : Below w.heap.size w W := by rw [← hW]; exact ext_alloc _ _
  have cW0 : W.cell? ⟨w.heap.size, 0, none⟩ = some (.string x.name) := by rw [← hW]; simp [World.cell?_alloc_new]
  have cW1 : W.cell? ⟨w.heap.size, 1, none⟩ = some (.string x.parent) := by rw [← hW]; simp [World.cell?_alloc_new]
  have cW2 : W.cell? ⟨w.heap.size, 2, none⟩ = some (.int .i64 x.re) := by rw [← hW]; simp [World.cell?_alloc_new]
  have cW3 : W.cell? ⟨w.heap.size, 3, none⟩ = some (.int .i64 x.im) := by rw [← hW]; simp [World.cell?_alloc_new]
  have cW4 : W.cell? ⟨w.heap.size, 4, none⟩ = some (.int .i64 x.lim) := by rw [← hW]; simp [World.cell?_alloc_new]
  have cW5 : W.cell? ⟨w.heap.size, 5, none⟩ = some (.int .i64 x.cre) := by rw [← hW]; simp [World.cell?_alloc_new]
  have cW6 : W.cell? ⟨w.heap.size, 6, none⟩ = some (.int .i64 x.cim) := by rw [← hW]; simp [World.cell?_alloc_new]
  clear hW
  have kl := ext_cell hbW hcl
  have kn := ext_cell hbW hcn
  have hnm2 := fun W1 (h : Below W.heap.size W W1) => hnm W1 (ext_trans hbW h)
  have dB0 : Below W.heap.size W W := Below.refl _ _
  clear hnm hcl hcn cW1 cW2 cW3 cW4 cW5 cW6
  refine wp_region_plan (fun w' => w'.cell? ⟨w.heap.size, 0, none⟩ = some (.string x.name) ∧ w'.cell? ⟨lb, 0, none⟩ = some (.slice A l.length c) ∧ w'.cell? ⟨nb, 0, none⟩ = some (.string s) ∧ Below W.heap.size W w') [3, 5] [0, 1, 2, 4, 3, 5, 6, 7] (by kernel_rfl) (by kernel_rfl) (by ((first | assumption | exact keep3 (by assumption) (by assumption) | exact keep3 (by assumption) (ext_alloc _ _) | exact keep3 (by assumption) (ext_drew _) | exact keep3 ⟨by assumption, by assumption, by assumption, by assumption⟩ (ext_drew _) | go_keep))) (fun hSw => ?_)
  repeat (first
    | (refine wpPlan_pas rfl rfl (fun K hK => ?_)
       apply Exists.intro
       refine ⟨?_, ?_⟩
       · first | exact pasOk_no rfl | (apply pasOk_yes rfl; intro wS hS; obtain ⟨s0, s1, s2, s3⟩ := hS; go_simp; first | done | exact rfl | ((try simp only [↓IntWalk.iteOmega]); (try go_bits); (try go_simp); first | done | exact rfl))
       go_simp
       refine hK _ ?_
       clear hK K)
    | (refine wpPlan_no rfl rfl rfl (by assumption) (fun K hK => ?_)
       go_simp
       refine hK _ ?_
       clear hK K)
    | (refine wpPlan_act rfl rfl rfl (fun K hK => ?_)
       go_wp2_with (first | (go_at_call 71; refine (hnm2 _ (held3 (by assumption))).mono ?_; rintro e w1 ⟨v2, rfl, ho2, hb1, hn2⟩) | (go_at_call 119; refine (containsS_any N _ s _ (ho2.slat encS_len)).mono ?_; rintro e w2 ⟨rfl, rfl⟩))
       refine OnlyK.go (hK _ _ (by ((first | assumption | exact keep3 (by assumption) (by assumption) | exact keep3 (by assumption) (ext_alloc _ _) | exact keep3 (by assumption) (ext_drew _) | exact keep3 ⟨by assumption, by assumption, by assumption, by assumption⟩ (ext_drew _) | go_keep))) (fun hSw => ?_))
       clear hK K))
  refine wpPlan_nil ?_
  go_wp2
  go_ret
  exact ⟨rfl, ext_trans hbW (held3 hSw)⟩
set_option maxHeartbeats 4000000 in
theorem branch_any (v : Value) (l : List Nd) (s : ByteArray) (hac : Acyc l) (hn : 0 < l.length) (hl : l.length ≤ 1048576) (w : World) (hs : SlAt encN 7 w v l) :
    Calls Tryz.prog 73 #[v, .string s] w fun e w' => ∃ b c', e = .returned (.slice (some ⟨b, 0, none⟩) (branchN l s).length c') ∧ (branchN l s).length ≤ c' ∧ c' ≤ 1048576 ∧ w.heap.size ≤ b ∧ RowC encN 7 b 0 w' (branchN l s) ∧ Below w.heap.size w w' := by
  have hsw := hs
  obtain ⟨A, c, rfl, hc1, hc2, hr⟩ := hs
  clear hr
  obtain ⟨i0, hi, hz0, hz1, hz2⟩ := info_parts infoN
  have eg := enters_of Tryz.func136 (by kernel_rfl) rfl
  have hle := List.length_filter_le (fun n => hasS (namesN l n.name) s) l
  go_enter Tryz.func73, Tryz.ntmps73
  have b1 := Boxed.new w 29 (.slice A l.length c)
  have b2 := Boxed.new (w.alloc (.cells #[.slice A l.length c] 29)) 9 (.string s)
  rw [World.size_alloc] at b2
  have hb2 : Below w.heap.size w ((w.alloc (.cells #[.slice A l.length c] 29)).alloc (.cells #[.string s] 9)) := by (repeat (first | exact Below.refl _ _ | assumption | refine Below.drew ?_ | refine Below.alloc ?_ (by simp <;> omega) _ | refine Below.alloc ?_ (by simp) _ | refine Below.setCell ?_ (by simp) _))
  have k1 := (b1.alloc (.cells #[.string s] 9)).cell
  have k2 := b2.cell
  have hsz2 : ((w.alloc (.cells #[.slice A l.length c] 29)).alloc (.cells #[.string s] 9)).heap.size = w.heap.size + 1 + 1 := by simp
  have hs2 := hsw.ext hb2
  have HZ := Lib.hid hsz2
  clear hsz2
  go_wp2_with (first
    | (at_make; refine wpList_make_full _ rfl _ _ 29 rfl (w.heap.size + 1 + 1) 125 i0 _ 7 Tryz.underlying29 hi hz0 hz1 .i64 .i64 l.length l.length l.length rfl rfl rfl rfl (by rw [hz2]; omega) (by simp only [maxLen]; omega) (Nat.le_of_eq HZ.out.symm) ?_; intro w3 hown3 hg3; rw [HZ.out] at hown3; have hb3 : Below (w.heap.size + 1 + 1) _ w3 := Below.grown (Below.refl _ _) hg3 (Nat.le_of_eq HZ.out.symm) (fun k e => by cases e); have k3 := (hb3.cell (p := ⟨w.heap.size, 0, none⟩) (by simp; omega)).trans k1; have k4 := (hb3.cell (p := ⟨w.heap.size + 1, 0, none⟩) (by simp)).trans k2)
    | (have hown4 := hown3; refine wpList_copy_new rfl _ _ 29 29 125 rfl Tryz.underlying29 sizeN encN_len encN_one _ (hs2.ext (by rw [HZ.out]; exact hb3)) hn _ _ hown3 rfl rfl ?_; intro w4 hrow4 hb4; have hb5 := hb2.trans ((hb3.trans hb4).mono (by omega)); have k5 := (hb4.cell (p := ⟨w.heap.size, 0, none⟩) (by simp; omega)).trans k3; have k6 := (hb4.cell (p := ⟨w.heap.size + 1, 0, none⟩) (by simp)).trans k4)
    | (go_at_call 135; refine (deleteN 0 (fun n => !hasS (namesN l n.name) s) _ #[.pointer (some ⟨w.heap.size, 0, none⟩), .pointer (some ⟨w.heap.size + 1, 0, none⟩)] eg _ l.length l _ hl (Nat.le_refl _) (by omega) hrow4 (fun W x hx hW => branch1_any w.heap.size (w.heap.size + 1) _ l s hac hl x W ((hW.cell (p := ⟨w.heap.size, 0, none⟩) (by simp; omega)).trans k5) ((hW.cell (p := ⟨w.heap.size + 1, 0, none⟩) (by simp)).trans k6) (hsw.ext (hb5.trans (hW.mono (by omega)))))).mono ?_; rintro e w5 ⟨rfl, hb6, hrow6⟩; simp only [Bool.not_not] at hrow6))
  go_ret
  exact ⟨_, _, rfl, hle, hl, by omega, hrow6, hb5.trans (hb6.mono (by omega))⟩
end Go.Proofs.YtlogjgmfkjjhjaaGreatDoor
