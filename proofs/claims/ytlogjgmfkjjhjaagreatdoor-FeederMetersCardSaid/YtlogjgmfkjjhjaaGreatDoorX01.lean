/-
  Words for memory that several texts of this claim use: a slice that reads as a list, whatever the number of cells of an element; worlds that have only grown. No condition.
  Maps with string keys that a call has made: what a key holds, as a function. Fewer than 2^62 entries; keys that Go can hold.
  Contracts of the small functions of package feeder: when, first, within, parts, nothing, plus, conjugate, square. No condition beyond the stated bounds.
  Contracts of slices.IndexFunc at nodes and of feeder.find. The predicate is any that answers a plain Bool function on the elements and leaves what was there as it was.
-/
import Derived.Test.YtlogjgmfkjjhjaaGreatDoorProg
import Derived.WalkKit
import Derived.WalkSpells
import Derived.WalkLawsBesides
import Derived.Lib.Hide
import Derived.Deep.LoopGhost
import Derived.Maps.AppendAt
import Derived.KernelRfl
import Derived.Maps.Own
import Derived.Maps.OwnSet
import Derived.Maps.Views
import Derived.StringKeys
import Derived.Deep.RegionHeld3
import Derived.Deep.RegionWith
import Derived.Deep.DeepCutAuto
import Derived.BigQuiet
import Derived.Deep.QuietTactic
import Derived.Shelf.Abstract
set_option linter.unusedSimpArgs false
set_option linter.unusedVariables false
namespace Go.Proofs.YtlogjgmfkjjhjaaGreatDoor
open Go.RowKit

theorem bs_ext {a b : ByteArray} (h : a.data.toList = b.data.toList) : a = b := by
  cases a; cases b; simp only [ByteArray.mk.injEq]; exact Array.toList_inj.1 h
theorem beq_str (a b : ByteArray) : (a.toList == b.toList) = decide (a = b) := by
  by_cases h : a = b
  · subst h; simp
  · have : ¬ a.toList = b.toList := fun e => h (bs_ext (by rw [← ByteArray.toList_eq, ← ByteArray.toList_eq]; exact e))
    simp [h, this]

theorem add_lit (b o i : Nat) : (⟨b, o, none⟩ : Addr).add i = ⟨b, o + i, none⟩ := by unfold Addr.add; split <;> simp_all

/-- nothing that was there has turned -/
theorem ext_trans {w w1 w2 : World} (h : Below w.heap.size w w1) (k : Below w1.heap.size w1 w2) : Below w.heap.size w w2 :=
  h.trans ⟨k.os, k.tape, k.output, k.size, fun i hi => k.block i (Nat.lt_of_lt_of_le hi h.size)⟩
theorem ext_cell {w w1 : World} (h : Below w.heap.size w w1) {a : Addr} {v : Value} (hc : w.cell? a = some v) : w1.cell? a = some v := (h.cell (World.block_lt_of_cell? w a hc)).trans hc
theorem ext_alloc (w : World) (o : Obj) : Below w.heap.size w (w.alloc o) := (Below.refl _ w).alloc (Nat.le_refl _) o
theorem ext_drew (w : World) : Below w.heap.size w w.drew := (Below.refl _ w).drew
theorem ext_drewN (w : World) (n : Nat) : Below w.heap.size w (w.drewN n) := ⟨rfl, rfl, rfl, Nat.le_refl _, fun _ _ => rfl⟩
/-- what a drawn region holds on to: cells, and that what was there is unturned -/
theorem held1 {A : Prop} {w W : World} (h : A ∧ Below w.heap.size w W) : Below w.heap.size w W := h.2
theorem held2 {A B : Prop} {w W : World} (h : A ∧ B ∧ Below w.heap.size w W) : Below w.heap.size w W := h.2.2
theorem held3 {A B C : Prop} {w W : World} (h : A ∧ B ∧ C ∧ Below w.heap.size w W) : Below w.heap.size w W := h.2.2.2
theorem held4 {A B C D : Prop} {w W : World} (h : A ∧ B ∧ C ∧ D ∧ Below w.heap.size w W) : Below w.heap.size w W := h.2.2.2.2
theorem held5 {A B C D E : Prop} {w W : World} (h : A ∧ B ∧ C ∧ D ∧ E ∧ Below w.heap.size w W) : Below w.heap.size w W := h.2.2.2.2.2
theorem held6 {A B C D E F : Prop} {w W : World} (h : A ∧ B ∧ C ∧ D ∧ E ∧ F ∧ Below w.heap.size w W) : Below w.heap.size w W := h.2.2.2.2.2.2
theorem held7 {A B C D E F G : Prop} {w W : World} (h : A ∧ B ∧ C ∧ D ∧ E ∧ F ∧ G ∧ Below w.heap.size w W) : Below w.heap.size w W := h.2.2.2.2.2.2.2
theorem held8 {A B C D E F G H : Prop} {w W : World} (h : A ∧ B ∧ C ∧ D ∧ E ∧ F ∧ G ∧ H ∧ Below w.heap.size w W) : Below w.heap.size w W := h.2.2.2.2.2.2.2.2
theorem held9 {A B C D E F G H I : Prop} {w W : World} (h : A ∧ B ∧ C ∧ D ∧ E ∧ F ∧ G ∧ H ∧ I ∧ Below w.heap.size w W) : Below w.heap.size w W := h.2.2.2.2.2.2.2.2.2
theorem keep0 {w W W1 : World} (h : Below w.heap.size w W) (hb : Below W.heap.size W W1) : Below w.heap.size w W1 := ext_trans h hb
theorem keep1 {w W W1 : World} {a0 : Addr} {u0 : Value} (h : W.cell? a0 = some u0 ∧ Below w.heap.size w W) (hb : Below W.heap.size W W1) : W1.cell? a0 = some u0 ∧ Below w.heap.size w W1 := ⟨ext_cell hb h.1, keep0 h.2 hb⟩
theorem keep2 {w W W1 : World} {a0 a1 : Addr} {u0 u1 : Value} (h : W.cell? a0 = some u0 ∧ W.cell? a1 = some u1 ∧ Below w.heap.size w W) (hb : Below W.heap.size W W1) : W1.cell? a0 = some u0 ∧ W1.cell? a1 = some u1 ∧ Below w.heap.size w W1 := ⟨ext_cell hb h.1, keep1 h.2 hb⟩
theorem keep3 {w W W1 : World} {a0 a1 a2 : Addr} {u0 u1 u2 : Value} (h : W.cell? a0 = some u0 ∧ W.cell? a1 = some u1 ∧ W.cell? a2 = some u2 ∧ Below w.heap.size w W) (hb : Below W.heap.size W W1) : W1.cell? a0 = some u0 ∧ W1.cell? a1 = some u1 ∧ W1.cell? a2 = some u2 ∧ Below w.heap.size w W1 := ⟨ext_cell hb h.1, keep2 h.2 hb⟩
theorem keep4 {w W W1 : World} {a0 a1 a2 a3 : Addr} {u0 u1 u2 u3 : Value} (h : W.cell? a0 = some u0 ∧ W.cell? a1 = some u1 ∧ W.cell? a2 = some u2 ∧ W.cell? a3 = some u3 ∧ Below w.heap.size w W) (hb : Below W.heap.size W W1) : W1.cell? a0 = some u0 ∧ W1.cell? a1 = some u1 ∧ W1.cell? a2 = some u2 ∧ W1.cell? a3 = some u3 ∧ Below w.heap.size w W1 := ⟨ext_cell hb h.1, keep3 h.2 hb⟩
theorem keep5 {w W W1 : World} {a0 a1 a2 a3 a4 : Addr} {u0 u1 u2 u3 u4 : Value} (h : W.cell? a0 = some u0 ∧ W.cell? a1 = some u1 ∧ W.cell? a2 = some u2 ∧ W.cell? a3 = some u3 ∧ W.cell? a4 = some u4 ∧ Below w.heap.size w W) (hb : Below W.heap.size W W1) : W1.cell? a0 = some u0 ∧ W1.cell? a1 = some u1 ∧ W1.cell? a2 = some u2 ∧ W1.cell? a3 = some u3 ∧ W1.cell? a4 = some u4 ∧ Below w.heap.size w W1 := ⟨ext_cell hb h.1, keep4 h.2 hb⟩
theorem keep6 {w W W1 : World} {a0 a1 a2 a3 a4 a5 : Addr} {u0 u1 u2 u3 u4 u5 : Value} (h : W.cell? a0 = some u0 ∧ W.cell? a1 = some u1 ∧ W.cell? a2 = some u2 ∧ W.cell? a3 = some u3 ∧ W.cell? a4 = some u4 ∧ W.cell? a5 = some u5 ∧ Below w.heap.size w W) (hb : Below W.heap.size W W1) : W1.cell? a0 = some u0 ∧ W1.cell? a1 = some u1 ∧ W1.cell? a2 = some u2 ∧ W1.cell? a3 = some u3 ∧ W1.cell? a4 = some u4 ∧ W1.cell? a5 = some u5 ∧ Below w.heap.size w W1 := ⟨ext_cell hb h.1, keep5 h.2 hb⟩
theorem keep7 {w W W1 : World} {a0 a1 a2 a3 a4 a5 a6 : Addr} {u0 u1 u2 u3 u4 u5 u6 : Value} (h : W.cell? a0 = some u0 ∧ W.cell? a1 = some u1 ∧ W.cell? a2 = some u2 ∧ W.cell? a3 = some u3 ∧ W.cell? a4 = some u4 ∧ W.cell? a5 = some u5 ∧ W.cell? a6 = some u6 ∧ Below w.heap.size w W) (hb : Below W.heap.size W W1) : W1.cell? a0 = some u0 ∧ W1.cell? a1 = some u1 ∧ W1.cell? a2 = some u2 ∧ W1.cell? a3 = some u3 ∧ W1.cell? a4 = some u4 ∧ W1.cell? a5 = some u5 ∧ W1.cell? a6 = some u6 ∧ Below w.heap.size w W1 := ⟨ext_cell hb h.1, keep6 h.2 hb⟩
theorem keep8 {w W W1 : World} {a0 a1 a2 a3 a4 a5 a6 a7 : Addr} {u0 u1 u2 u3 u4 u5 u6 u7 : Value} (h : W.cell? a0 = some u0 ∧ W.cell? a1 = some u1 ∧ W.cell? a2 = some u2 ∧ W.cell? a3 = some u3 ∧ W.cell? a4 = some u4 ∧ W.cell? a5 = some u5 ∧ W.cell? a6 = some u6 ∧ W.cell? a7 = some u7 ∧ Below w.heap.size w W) (hb : Below W.heap.size W W1) : W1.cell? a0 = some u0 ∧ W1.cell? a1 = some u1 ∧ W1.cell? a2 = some u2 ∧ W1.cell? a3 = some u3 ∧ W1.cell? a4 = some u4 ∧ W1.cell? a5 = some u5 ∧ W1.cell? a6 = some u6 ∧ W1.cell? a7 = some u7 ∧ Below w.heap.size w W1 := ⟨ext_cell hb h.1, keep7 h.2 hb⟩
theorem keep9 {w W W1 : World} {a0 a1 a2 a3 a4 a5 a6 a7 a8 : Addr} {u0 u1 u2 u3 u4 u5 u6 u7 u8 : Value} (h : W.cell? a0 = some u0 ∧ W.cell? a1 = some u1 ∧ W.cell? a2 = some u2 ∧ W.cell? a3 = some u3 ∧ W.cell? a4 = some u4 ∧ W.cell? a5 = some u5 ∧ W.cell? a6 = some u6 ∧ W.cell? a7 = some u7 ∧ W.cell? a8 = some u8 ∧ Below w.heap.size w W) (hb : Below W.heap.size W W1) : W1.cell? a0 = some u0 ∧ W1.cell? a1 = some u1 ∧ W1.cell? a2 = some u2 ∧ W1.cell? a3 = some u3 ∧ W1.cell? a4 = some u4 ∧ W1.cell? a5 = some u5 ∧ W1.cell? a6 = some u6 ∧ W1.cell? a7 = some u7 ∧ W1.cell? a8 = some u8 ∧ Below w.heap.size w W1 := ⟨ext_cell hb h.1, keep8 h.2 hb⟩

/-- A slice value that holds the elements xs, each of k cells. -/
def SlAt {α : Type} (E : α → List Value) (k : Nat) (w : World) (v : Value) (xs : List α) : Prop :=
  ∃ (A : Option Addr) (c : Nat), v = .slice A xs.length c ∧ xs.length ≤ c ∧ c ≤ 9223372036854775807 ∧
    (0 < xs.length → ∃ b off, A = some ⟨b, off, none⟩ ∧ b < w.heap.size ∧ ∀ j x, xs[j]? = some x → ∀ i u, (E x)[i]? = some u → w.cell? ⟨b, off + j * k + i, none⟩ = some u)

section
variable {α : Type} {E : α → List Value} {k : Nat} {w w1 : World} {v : Value} {xs : List α}
theorem SlAt.ext (h : SlAt E k w v xs) (hb : Below w.heap.size w w1) : SlAt E k w1 v xs := by
  obtain ⟨A, c, e, h1, h2, h3⟩ := h
  refine ⟨A, c, e, h1, h2, fun hp => ?_⟩
  obtain ⟨b, off, e2, hlt, hc⟩ := h3 hp
  exact ⟨b, off, e2, Nat.lt_of_lt_of_le hlt hb.size, fun j x hx i u hu => ext_cell hb (hc j x hx i u hu)⟩
theorem SlAt.drew (h : SlAt E k w v xs) : SlAt E k w.drew v xs := h
theorem SlAt.drewN (h : SlAt E k w v xs) (n : Nat) : SlAt E k (w.drewN n) v xs := h
theorem SlAt.alloc (h : SlAt E k w v xs) (o : Obj) : SlAt E k (w.alloc o) v xs := h.ext (ext_alloc w o)
theorem SlAt.nil (w : World) : SlAt E k w (.slice none 0 0) ([] : List α) := ⟨none, 0, rfl, Nat.le_refl _, by omega, fun h => absurd h (by simp)⟩
end

theorem SlAt.take {α : Type} {E : α → List Value} {k : Nat} {w : World} {A : Option Addr} {n c m : Nat} {xs : List α} (h : SlAt E k w (.slice A n c) xs) (hm : m ≤ n) : SlAt E k w (.slice A m c) (xs.take m) := by
  obtain ⟨A', c', e, h1, h2, h3⟩ := h
  injection e with e1 e2 e3
  subst e1 e2 e3
  have hl : (xs.take m).length = m := by rw [List.length_take]; omega
  refine ⟨A, c, by rw [hl], by omega, h2, fun hp => ?_⟩
  obtain ⟨b, off, e2, hlt, hc⟩ := h3 (by omega)
  refine ⟨b, off, e2, hlt, fun j x hx => hc j x ?_⟩
  rw [List.getElem?_take] at hx
  split at hx
  · exact hx
  · cases hx
theorem SlAt.len {α : Type} {E : α → List Value} {k : Nat} {w : World} {A : Option Addr} {n c : Nat} {xs : List α} (h : SlAt E k w (.slice A n c) xs) : n = xs.length ∧ n ≤ c ∧ c ≤ 9223372036854775807 := by
  obtain ⟨A', c', e, h1, h2, h3⟩ := h
  injection e with e1 e2 e3
  subst e1 e2 e3
  exact ⟨rfl, h1, h2⟩
theorem flat_get {α : Type} {E : α → List Value} {k : Nat} (hE : ∀ x, (E x).length = k) : ∀ (xs : List α) (j : Nat) (x : α), xs[j]? = some x → ∀ i u, (E x)[i]? = some u → (xs.flatMap E)[j * k + i]? = some u
  | [], j, x, h, i, u, hu => by simp at h
  | y :: r, 0, x, h, i, u, hu => by
    simp only [List.getElem?_cons_zero, Option.some.injEq] at h
    subst h
    have hi : i < (E y).length := (List.getElem?_eq_some_iff.1 hu).1
    rw [List.flatMap_cons, List.getElem?_append_left (by omega), Nat.zero_mul, Nat.zero_add, hu]
  | y :: r, j + 1, x, h, i, u, hu => by
    simp only [List.getElem?_cons_succ] at h
    rw [List.flatMap_cons, List.getElem?_append_right (by rw [hE, Nat.succ_mul]; omega), hE, show (j + 1) * k + i - k = j * k + i from by rw [Nat.succ_mul]; omega]
    exact flat_get hE r j x h i u hu
theorem flat_len {α : Type} {E : α → List Value} {k : Nat} (hE : ∀ x, (E x).length = k) : ∀ (xs : List α), (xs.flatMap E).length = xs.length * k
  | [] => by simp
  | y :: r => by rw [List.flatMap_cons, List.length_append, hE, flat_len hE r, List.length_cons, Nat.succ_mul]; omega

/-- a block that holds a row -/
theorem slat_blk {α : Type} {E : α → List Value} {k : Nat} (hE : ∀ x, (E x).length = k) {w : World} {b c : Nat} {cs : Array Value} {T : TypeId} {fr : Nat × Nat} {xs : List α} (hh : w.heap[b]? = some (.cells cs T fr))
    (hcs : ∀ (i : Nat) (u : Value), (xs.flatMap E)[i]? = some u → cs[i]? = some u) (hc : xs.length ≤ c) (hm : c ≤ 9223372036854775807) : SlAt E k w (.slice (some ⟨b, 0, none⟩) xs.length c) xs :=
  ⟨_, c, rfl, hc, hm, fun _ => ⟨b, 0, rfl, (Array.getElem?_eq_some_iff.1 hh).1, fun j x hx i u hu => by
    rw [cell_of_row w b _ cs T fr hh, Nat.zero_add]
    exact hcs _ _ (flat_get hE xs j x hx i u hu)⟩⟩
theorem heap_new {W : World} {o : Obj} {n : Nat} (hn : n = W.heap.size) : (W.alloc o).heap[n]? = some o := by subst hn; exact heap_alloc_new W o
theorem slat_new {α : Type} {E : α → List Value} {k : Nat} (hE : ∀ x, (E x).length = k) {W : World} {n : Nat} {cs : Array Value} {T : TypeId} {xs : List α} (hn : n = W.heap.size)
    (hcs : cs.toList = xs.flatMap E) (hm : xs.length ≤ 9223372036854775807) : SlAt E k (W.alloc (.cells cs T)) (.slice (some ⟨n, 0, none⟩) xs.length xs.length) xs :=
  slat_blk hE (heap_new hn) (fun i u h => by rw [← hcs] at h; simpa using h) (Nat.le_refl _) hm

end Go.Proofs.YtlogjgmfkjjhjaaGreatDoor
namespace Go.Proofs.YtlogjgmfkjjhjaaGreatDoor
open Go.RowKit Go.Maps

def RV (v : Value) : Option (DataW Value × List MemPlace) := some (.held v, [])
/-- block b is a map with string keys of at most n entries; at the key s it holds f s -/
def MapV (K : TypeId) (b n : Nat) (w : World) (f : ByteArray → Option Value) : Prop :=
  ∃ D : DataW Value, w.ownsMap Tryz.prog K RV b n D ∧ IsMap D ∧ ∀ s : ByteArray, ∀ zd, D.atKey (.string s.data.toList) zd = match f s with | some v => .held v | none => zd

section
variable {K T E : TypeId} {b n : Nat} {w w1 : World} {f : ByteArray → Option Value}
theorem MapV.new (K : TypeId) (w : World) : MapV K w.heap.size 0 (w.alloc (.map #[] 0)) (fun _ => none) :=
  ⟨.map [], World.ownsMap_made w _ _ _, isMap_empty, fun s zd => rfl⟩
theorem MapV.lt (h : MapV K b n w f) : b < w.heap.size := by obtain ⟨D, h, _⟩ := h; exact h.lt
theorem MapV.kept {row : Option Nat} (h : MapV K b n w f) (hg : w.grownBy w1 row) (hne : some b ≠ row) : MapV K b n w1 f := by
  obtain ⟨D, h1, h2, h3⟩ := h
  exact ⟨D, h1.kept hg hne, h2, h3⟩
theorem MapV.ext (h : MapV K b n w f) (hb : Below w.heap.size w w1) : MapV K b n w1 f :=
  h.kept (row := none) ⟨hb.os, hb.tape, hb.output, hb.size, fun i hi _ => hb.block i hi⟩ (by simp)
theorem MapV.run (h : MapV K b n w f) (hK : Tryz.prog.underlying K = some .string) (hT : Tryz.prog.underlying T = some (.map K E)) {z : Value} (hz : (zeroValue E).run Tryz.prog w = .ok z w) {s : ByteArray} (hs : s.size ≤ maxLen) :
    (Instr.lookup T (.map (some b)) (.string s) false).run Tryz.prog w = .ok ((f s).getD z) w := by
  obtain ⟨D, h1, h2, h3⟩ := h
  obtain ⟨v, ps, hrun, hv⟩ := h1.lookup (string_keyed hK) hT hz (zd := .held z) (zp := []) rfl (Go.WideMaps.keyOf_string_mk hK hs)
  rw [hrun]
  simp only [RV, Option.some.injEq, Prod.mk.injEq] at hv
  rw [h3 s (.held z)] at hv
  have hv1 := hv.1
  cases hf : f s with
  | none => rw [hf] at hv1; simp at hv1; rw [hv1]; rfl
  | some y => rw [hf] at hv1; simp at hv1; rw [hv1]; rfl
/-- what a store leaves -/
def putF (f : ByteArray → Option Value) (s : ByteArray) (v : Value) : ByteArray → Option Value := fun t => if t = s then some v else f t
theorem MapV.put {D : DataW Value} {s : ByteArray} {v : Value} (h2 : IsMap D) (h3 : ∀ s : ByteArray, ∀ zd, D.atKey (.string s.data.toList) zd = match f s with | some v => .held v | none => zd)
    (h1 : w1.ownsMap Tryz.prog K RV b (n + 1) (D.put (.string s.data.toList) (.held v))) : MapV K b (n + 1) w1 (putF f s v) := by
  refine ⟨_, h1, h2.put _ _, fun t zd => ?_⟩
  unfold putF
  by_cases e : t = s
  · subst e
    rw [if_pos rfl, atKey_put_same h2 (by trivial)]
  · rw [if_neg e, atKey_put_other, h3]
    intro hh
    apply e
    have hd : t.data.toList = s.data.toList := by simpa using hh
    have : t.data = s.data := Array.toList_inj.1 hd
    cases t; cases s; simp_all
end

section
variable {ops : Array Oper} {rest : List Oper} {o : Oper} {a : Act} {Q : Exit → Act → World → Prop}
/-- m[s] = v -/
theorem wpList_mapV {w : World} {K E : TypeId} {b n : Nat} {f : ByteArray → Option Value} (hg : o.guard = none) (m x y : Operand) (T : TypeId) (hop : o.op = Op.mapUpdate T m x y) (hK : Tryz.prog.underlying K = some .string) (hT : Tryz.prog.underlying T = some (.map K E))
    (hm : a.eval m = .map (some b)) (hown : MapV K b n w f) (hn : n < maxLen) (s : ByteArray) (v : Value) (hx : a.eval x = .string s) (hv : a.eval y = v) (hs : s.size ≤ maxLen)
    (h : ∀ w1, MapV K b (n + 1) w1 (putF f s v) → w.grownBy w1 (some b) → wpList Tryz.prog ops Q rest (a.put o.dst undef) w1) : wpList Tryz.prog ops Q (o :: rest) a w := by
  obtain ⟨D, h1, h2, h3⟩ := hown
  refine wpList_mapUpdate_own w hg m x y T hop K E (string_keyed hK) hT RV b n D hm h1 hn (.string s) v _ hx hv (Go.WideMaps.keyOf_string_mk hK hs) (.held v) [] rfl ?_
  intro w1 h4 h5
  exact h w1 (MapV.put h2 h3 h4) h5
end
end Go.Proofs.YtlogjgmfkjjhjaaGreatDoor
namespace Go.Proofs.YtlogjgmfkjjhjaaGreatDoor
open Go.RowKit

def whenV (b : Bool) (e : Int) : Int := if b then e else 0
theorem when_any (b : Bool) (x : Int) (w : World) : Calls Tryz.prog 82 #[.bool b, .int .i64 x] w fun e w' => e = .returned (.int .i64 (whenV b x)) ∧ w = w' := by
  cases b
  · go_enter Tryz.func82, Tryz.ntmps82
    go_wp2
    go_ret
    exact ⟨rfl, rfl⟩
  · go_enter Tryz.func82, Tryz.ntmps82
    go_wp2
    go_ret
    exact ⟨rfl, rfl⟩

def firstV : List Int → Int
  | [] => 0
  | x :: r => if x ≠ 0 then x else firstV r
def encI (x : Int) : List Value := [.int .i64 x]
theorem encI_len (x : Int) : (encI x).length = 1 := rfl
theorem firstV_drop (xs : List Int) : ∀ k, (∀ j, j < k → xs.getD j 0 = 0) → firstV xs = firstV (xs.drop k)
  | 0, _ => rfl
  | k + 1, h => by
    rw [firstV_drop xs k (fun j hj => h j (by omega))]
    by_cases hk : k < xs.length
    · rw [List.drop_eq_getElem_cons hk]
      have : xs[k] = 0 := by have := h k (by omega); simpa [hk] using this
      simp [firstV, this]
    · rw [List.drop_of_length_le (by omega), List.drop_of_length_le (by omega)]
set_option maxHeartbeats 400000 in
theorem first_any (xs : List Int) (v : Value) (w : World) (hs : SlAt encI 1 w v xs) : Calls Tryz.prog 81 #[v] w fun e w' => e = .returned (.int .i64 (firstV xs)) ∧ w = w' := by
  obtain ⟨A, c, rfl, hc, hm, hr⟩ := hs
  have hlen : xs.length ≤ 9223372036854775807 := by omega
  go_enter Tryz.func81, Tryz.ntmps81
  go_wp2
  go_loop [7, 4] (fun i _ => ∃ k : Nat, k ≤ xs.length ∧ i = .int .i64 k ∧ Hid (∀ j, j < k → xs.getD j 0 = 0)) (fun i _ => xs.length - (intOf i).toNat)
  case atStart => exact ⟨0, Nat.zero_le _, rfl, fun j hj => absurd hj (Nat.not_lt_zero _)⟩
  case round =>
    obtain ⟨k, hk, rfl, hz⟩ := hrel
    by_cases hlt : k < xs.length
    · obtain ⟨b, off, rfl, hb, hc⟩ := hr (by omega)
      have hcell : w.cell? ⟨b, off + k, none⟩ = some (.int .i64 (xs[k])) := by
        have := hc k xs[k] (List.getElem?_eq_getElem hlt) 0 _ rfl
        simpa using this
      clear hc hr
      generalize hx : xs[k] = x at hcell
      have HX : Hid (xs[k] = x) := hx
      clear hx
      cases hq : (x != 0)
      · go_wp2
        go_round
        case rel => exact ⟨k + 1, by omega, by go_num, fun j hj => by
          by_cases e : j = k
          · subst e; have := HX.out; simp at hq; simp [hlt, this, hq]
          · exact hz.out j (by omega)⟩
        case measure => simp [intOf]; omega
      · go_wp2
        go_ret
        refine ⟨?_, rfl⟩
        rw [firstV_drop xs k hz.out, List.drop_eq_getElem_cons hlt, HX.out, firstV, if_pos (by simpa using hq)]; rfl
    · go_wp2
      go_ret
      refine ⟨?_, rfl⟩
      rw [firstV_drop xs k hz.out, List.drop_of_length_le (by omega)]; rfl

def withinV (n a b : Int) : Int := if n < a ∨ b < n then 3 else 0
theorem within_any (n a b : Int) (w : World) : Calls Tryz.prog 88 #[.int .i64 n, .int .i64 a, .int .i64 b] w fun e w' => e = .returned (.int .i64 (withinV n a b)) ∧ w = w' := by
  by_cases h1 : n < a
  · go_enter Tryz.func88, Tryz.ntmps88
    go_wp2_with (go_at_call 82; refine (when_any _ _ _).mono ?_; rintro e w' ⟨rfl, rfl⟩)
    go_ret
    exact ⟨by simp [withinV, whenV, h1], rfl⟩
  · by_cases h2 : b < n
    · go_enter Tryz.func88, Tryz.ntmps88
      go_wp2_with (go_at_call 82; refine (when_any _ _ _).mono ?_; rintro e w' ⟨rfl, rfl⟩)
      go_ret
      exact ⟨by simp [withinV, whenV, h2], rfl⟩
    · go_enter Tryz.func88, Tryz.ntmps88
      go_wp2_with (go_at_call 82; refine (when_any _ _ _).mono ?_; rintro e w' ⟨rfl, rfl⟩)
      go_ret
      exact ⟨by simp [withinV, whenV, h1, h2], rfl⟩

def partsV (re im a b : Int) : Int := firstV [withinV re a b, withinV im a b]
set_option maxHeartbeats 1000000 in
theorem parts_any (re im a b : Int) (w : World) : Calls Tryz.prog 103 #[.agg #[.int .i64 re, .int .i64 im], .int .i64 a, .int .i64 b] w fun e w' => e = .returned (.int .i64 (partsV re im a b)) ∧ Below w.heap.size w w' := by
  go_enter Tryz.func103, Tryz.ntmps103
  go_wp2
  go_region_held3 (fun w' => w'.cell? ⟨w.heap.size, 0, none⟩ = some (.int .i64 re) ∧ w'.cell? ⟨w.heap.size, 1, none⟩ = some (.int .i64 im)) (go_keep)
    (first
      | (go_at_call_of 88 (Value.int .i64 re); refine (within_any _ _ _ _).mono ?_; rintro e w' ⟨rfl, rfl⟩)
      | (go_at_call_of 88 (Value.int .i64 im); refine (within_any _ _ _ _).mono ?_; rintro e w' ⟨rfl, rfl⟩)
      | (go_at_call 81; refine (first_any [_, _] _ _ (SlAt.drew (slat_new encI_len (by simp) rfl (by simp)))).mono ?_; rintro e w' ⟨rfl, rfl⟩))
  go_wp2
  go_ret
  exact ⟨rfl, by (repeat (first | exact Below.refl _ _ | assumption | refine Below.drew ?_ | refine Below.alloc ?_ (by simp <;> omega) _ | refine Below.alloc ?_ (by simp) _ | refine Below.setCell ?_ (by simp) _))⟩

theorem nothing_any (w : World) : Calls Tryz.prog 140 #[] w fun e w' => e = .returned (.agg #[.int .i64 0, .int .i64 0]) ∧ Below w.heap.size w w' := by
  go_enter Tryz.func140, Tryz.ntmps140
  go_wp2
  exact bodyPost_ret (v := .agg #[.int .i64 0, .int .i64 0]) (by simp [results, Tryz.results140, go_sem]) rfl ⟨rfl, by (repeat (first | exact Below.refl _ _ | assumption | refine Below.drew ?_ | refine Below.alloc ?_ (by simp <;> omega) _ | refine Below.alloc ?_ (by simp) _ | refine Below.setCell ?_ (by simp) _))⟩

set_option maxHeartbeats 400000 in
theorem plus_any (a b c d : Int) (w : World) (h1 : -9223372036854775808 ≤ a + c) (h2 : a + c ≤ 9223372036854775807) (h3 : -9223372036854775808 ≤ b + d) (h4 : b + d ≤ 9223372036854775807) :
    Calls Tryz.prog 104 #[.agg #[.int .i64 a, .int .i64 b], .agg #[.int .i64 c, .int .i64 d]] w fun e w' => e = .returned (.agg #[.int .i64 (a + c), .int .i64 (b + d)]) ∧ Below w.heap.size w w' := by
  go_enter Tryz.func104, Tryz.ntmps104
  go_wp2
  exact bodyPost_ret (v := .agg #[.int .i64 (a + c), .int .i64 (b + d)]) (by simp [results, Tryz.results104, go_sem]) rfl ⟨rfl, by (repeat (first | exact Below.refl _ _ | assumption | refine Below.drew ?_ | refine Below.alloc ?_ (by simp <;> omega) _ | refine Below.alloc ?_ (by simp) _ | refine Below.setCell ?_ (by simp) _))⟩
theorem conjugate_any (a b : Int) (w : World) (h3 : -9223372036854775807 ≤ b) (h4 : b ≤ 9223372036854775807) :
    Calls Tryz.prog 107 #[.agg #[.int .i64 a, .int .i64 b]] w fun e w' => e = .returned (.agg #[.int .i64 a, .int .i64 (-b)]) ∧ Below w.heap.size w w' := by
  go_enter Tryz.func107, Tryz.ntmps107
  go_wp2
  exact bodyPost_ret (v := .agg #[.int .i64 a, .int .i64 (-b)]) (by simp [results, Tryz.results107, go_sem]) rfl ⟨rfl, by (repeat (first | exact Below.refl _ _ | assumption | refine Below.drew ?_ | refine Below.alloc ?_ (by simp <;> omega) _ | refine Below.alloc ?_ (by simp) _ | refine Below.setCell ?_ (by simp) _))⟩
theorem square_any (a b : Int) (w : World) (h1 : a * a ≤ 1000000000000000000) (h2 : 0 ≤ a * a) (h3 : 0 ≤ b * b) (h4 : b * b ≤ 1000000000000000000) :
    Calls Tryz.prog 108 #[.agg #[.int .i64 a, .int .i64 b]] w fun e w' => e = .returned (.int .i64 (a * a + b * b)) ∧ Below w.heap.size w w' := by
  go_enter Tryz.func108, Tryz.ntmps108
  go_wp2
  go_ret
  exact ⟨rfl, by (repeat (first | exact Below.refl _ _ | assumption | refine Below.drew ?_ | refine Below.alloc ?_ (by simp <;> omega) _ | refine Below.alloc ?_ (by simp) _ | refine Below.setCell ?_ (by simp) _))⟩
end Go.Proofs.YtlogjgmfkjjhjaaGreatDoor
namespace Go.Proofs.YtlogjgmfkjjhjaaGreatDoor
open Go.RowKit

structure Nd where
  name : ByteArray
  parent : ByteArray
  re : Int
  im : Int
  lim : Int
  cre : Int
  cim : Int
instance : Inhabited Nd := ⟨⟨ByteArray.empty, ByteArray.empty, 0, 0, 0, 0, 0⟩⟩
def encN (n : Nd) : List Value := [.string n.name, .string n.parent, .int .i64 n.re, .int .i64 n.im, .int .i64 n.lim, .int .i64 n.cre, .int .i64 n.cim]
theorem encN_len (n : Nd) : (encN n).length = 7 := rfl

/-- the cells of a node -/
theorem nodeCells {w : World} {b o : Nat} {x : Nd} (h : ∀ i u, (encN x)[i]? = some u → w.cell? ⟨b, o + i, none⟩ = some u) :
    w.cell? ⟨b, o, none⟩ = some (.string x.name) ∧ w.cell? ⟨b, o + 1, none⟩ = some (.string x.parent) ∧ w.cell? ⟨b, o + 2, none⟩ = some (.int .i64 x.re) ∧ w.cell? ⟨b, o + 3, none⟩ = some (.int .i64 x.im) ∧
    w.cell? ⟨b, o + 4, none⟩ = some (.int .i64 x.lim) ∧ w.cell? ⟨b, o + 5, none⟩ = some (.int .i64 x.cre) ∧ w.cell? ⟨b, o + 6, none⟩ = some (.int .i64 x.cim) :=
  ⟨h 0 _ rfl, h 1 _ rfl, h 2 _ rfl, h 3 _ rfl, h 4 _ rfl, h 5 _ rfl, h 6 _ rfl⟩

/-- the first index at which p holds, or -1 -/
def idxFrom {α : Type} (p : α → Bool) : Nat → List α → Int
  | _, [] => -1
  | i, x :: r => if p x then (i : Int) else idxFrom p (i + 1) r
def idxI {α : Type} (p : α → Bool) (xs : List α) : Int := idxFrom p 0 xs
theorem idxFrom_miss {α : Type} (p : α → Bool) : ∀ (xs : List α) (i : Nat), (∀ x ∈ xs, p x = false) → idxFrom p i xs = -1
  | [], _, _ => rfl
  | x :: r, i, h => by rw [idxFrom, h x (by simp)]; exact idxFrom_miss p r _ fun y hy => h y (by simp [hy])
theorem idxFrom_hit {α : Type} (p : α → Bool) : ∀ (xs : List α) (i k : Nat) (x : α), xs[k]? = some x → p x = true → (∀ j y, j < k → xs[j]? = some y → p y = false) → idxFrom p i xs = ((i + k : Nat) : Int)
  | [], _, _, _, h, _, _ => by simp at h
  | y :: r, i, 0, x, h, hp, _ => by simp at h; subst h; simp [idxFrom, hp]
  | y :: r, i, k + 1, x, h, hp, hm => by
    rw [idxFrom, hm 0 y (by omega) rfl]
    simp only [List.getElem?_cons_succ] at h
    have := idxFrom_hit p r (i + 1) k x h hp (fun j z hj hz => hm (j + 1) z (by omega) (by simpa using hz))
    simp only [Bool.false_eq_true, if_false, this]
    omega

/-- What is asked of a predicate on elements of several cells. -/
def PredB {α : Type} (g : Nat) (lb : Array Value) (E : α → Value) (p : α → Bool) (xs : List α) (w : World) : Prop :=
  ∀ (W : World) (x : α), x ∈ xs → Below w.heap.size w W → Calls Tryz.prog g (#[E x] ++ lb) W fun e w' => e = .returned (.bool (p x)) ∧ Below W.heap.size W w'

set_option maxHeartbeats 400000 in
theorem find1_any (n : Nd) (s : ByteArray) (a : Addr) (w : World) (hc : w.cell? a = some (.string s)) :
    Calls Tryz.prog 146 #[.agg (encN n).toArray, .pointer (some a)] w fun e w' => e = .returned (.bool (decide (n.name = s))) ∧ Below w.heap.size w w' := by
  have hb := World.block_lt_of_cell? w a hc
  unfold encN
  go_enter Tryz.func146, Tryz.ntmps146
  go_wp2
  go_ret
  exact ⟨by simp [beq_str], by (repeat (first | exact Below.refl _ _ | assumption | refine Below.drew ?_ | refine Below.alloc ?_ (by simp <;> omega) _ | refine Below.alloc ?_ (by simp) _ | refine Below.setCell ?_ (by simp) _))⟩

set_option maxHeartbeats 1000000 in
theorem indexFuncN (p : Nd → Bool) (g : Nat) (lb : Array Value) (eg : ∀ args w, (callFunc g args).run Tryz.prog w = .ok (.enter g args) w) (xs : List Nd) (v : Value) (w : World)
    (hs : SlAt encN 7 w v xs) (hp : PredB g lb (fun x => .agg (encN x).toArray) p xs w) :
    Calls Tryz.prog 145 #[v, .func (.func g) #[] lb] w fun e w' => e = .returned (.int .i64 (idxI p xs)) ∧ Below w.heap.size w w' := by
  obtain ⟨A, c, rfl, hc, hm, hr⟩ := hs
  have hlen : xs.length ≤ 9223372036854775807 := by omega
  go_enter Tryz.func145, Tryz.ntmps145
  go_wp2
  go_loopw [8] (fun i wr => ∃ k : Nat, k ≤ xs.length ∧ i = .int .i64 k ∧ Below w.heap.size w wr ∧ Hid (∀ j y, j < k → xs[j]? = some y → p y = false)) (fun i _ => xs.length - (intOf i).toNat)
  case atStart => exact ⟨0, Nat.zero_le _, rfl, Below.refl _ _, fun j y hj => absurd hj (Nat.not_lt_zero _)⟩
  case round =>
    obtain ⟨k, hk, rfl, hb, hz⟩ := hrel
    by_cases hlt : k < xs.length
    · obtain ⟨b, off, rfl, hbl, hcell⟩ := hr (by omega)
      have hx : xs[k]? = some xs[k] := List.getElem?_eq_getElem hlt
      have hcall := hp wr xs[k] (List.getElem_mem hlt) hb
      generalize xs[k] = x at hx hcall
      obtain ⟨c0, c1, c2, c3, c4, c5, c6⟩ := nodeCells (fun i u hu => ext_cell hb (hcell k x hx i u hu))
      have HX := Lib.hid hx
      clear hcell hr hp hx
      unfold encN at hcall
      cases hq : p x
      · rw [hq] at hcall
        have HQ := Lib.hid hq
        clear hq
        go_wp2_with (go_at_fn g; refine hcall.mono ?_; rintro e w' ⟨rfl, hb'⟩)
        go_roundw
        case rel => exact ⟨k + 1, by omega, by go_num, hb.trans (hb'.mono hb.size), fun j y hj hy => by
          by_cases e : j = k
          · subst e; have := HX.out; rw [hy] at this; cases this; exact HQ.out
          · exact hz.out j y (by omega) hy⟩
        case measure => simp [intOf]; omega
      · rw [hq] at hcall
        have HQ := Lib.hid hq
        clear hq
        go_wp2_with (go_at_fn g; refine hcall.mono ?_; rintro e w' ⟨rfl, hb'⟩)
        go_ret
        refine ⟨?_, hb.trans (hb'.mono hb.size)⟩
        rw [idxI, idxFrom_hit p xs 0 k x HX.out HQ.out hz.out, Nat.zero_add]; rfl
    · obtain rfl : k = xs.length := by omega
      go_wp2
      go_ret
      refine ⟨?_, hb⟩
      rw [idxI, idxFrom_miss p xs 0]
      · rfl
      · intro x hx
        obtain ⟨j, hj, e⟩ := List.getElem_of_mem hx
        exact hz.out j x hj (by rw [List.getElem?_eq_getElem hj, e])

def findI (l : List Nd) (s : ByteArray) : Int := idxI (fun n => decide (n.name = s)) l
set_option maxHeartbeats 400000 in
theorem find_any (l : List Nd) (v : Value) (s : ByteArray) (w : World) (hs : SlAt encN 7 w v l) :
    Calls Tryz.prog 89 #[v, .string s] w fun e w' => e = .returned (.int .i64 (findI l s)) ∧ Below w.heap.size w w' := by
  have hcall := indexFuncN (fun n => decide (n.name = s)) 146 #[.pointer (some ⟨w.heap.size, 0, none⟩)] (enters_of Tryz.func146 (by kernel_rfl) rfl) l v (w.alloc (.cells #[.string s] 9)) (hs.alloc _)
    (fun W x _ hb => find1_any x s _ W (ext_cell hb (by simp)))
  clear hs
  go_enter Tryz.func89, Tryz.ntmps89
  go_wp2_with (go_at_call 145; refine hcall.mono ?_; rintro e w' ⟨rfl, hb'⟩)
  go_ret
  exact ⟨rfl, ext_trans (ext_alloc _ _) hb'⟩
end Go.Proofs.YtlogjgmfkjjhjaaGreatDoor
