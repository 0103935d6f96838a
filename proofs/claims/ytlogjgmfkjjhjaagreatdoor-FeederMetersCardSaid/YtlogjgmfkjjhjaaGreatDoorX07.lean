/-
  The current of a cable: the sum over a branch.
  What the check of nodes lets in: plain facts of a list of nodes whose first error is 0.
  feeder.currents, Currents, Chain, Branch: what they answer. At most 2^20 nodes where CheckNodes lets them in: 16.
  feeder.checkNode, Chain, Branch, Currents.
-/
import Derived.Test.YtlogjgmfkjjhjaaGreatDoorX06
import Derived.Test.YtlogjgmfkjjhjaaGreatDoorX05
set_option linter.unusedSimpArgs false
set_option linter.unusedVariables false
namespace Go.Proofs.YtlogjgmfkjjhjaaGreatDoor
open Go.RowKit

def encG (z : Int × Int) : List Value := [.int .i64 z.1, .int .i64 z.2]
theorem encG_len (z : Int × Int) : (encG z).length = 2 := rfl
theorem encG_one (z : Int × Int) : ∀ v ∈ encG z, v.oneCell' = true := by
  intro v hv
  simp only [encG, List.mem_cons, List.mem_nil_iff, or_false] at hv
  rcases hv with rfl | rfl <;> rfl

theorem other_setCells (b : Nat) : ∀ (vs : List Value) (o : Nat) (w : World) (j : Nat), j ≠ b → (w.setCells b o vs).heap[j]? = w.heap[j]?
  | [], _, _, _, _ => rfl
  | v :: r, o, w, j, h => by rw [World.setCells, other_setCells b r _ _ j h]; exact Below.heap_setCell _ _ _ j h
section
variable {α : Type} {E : α → List Value} {k b off : Nat} {w w1 : World} {ys : List α}
theorem RowC.other (h : RowC E k b off w ys) (hs : w1.heap.size = w.heap.size) (ho : w1.heap[b]? = w.heap[b]?) : RowC E k b off w1 ys :=
  ⟨by rw [hs]; exact h.1, fun i x hx j u hu => by rw [← h.2.1 i x hx j u hu]; simp only [World.cell?, ho], fun j => by rw [← h.2.2 j]; simp only [World.frozen?, ho]⟩
end
section
variable {P : Program} {ops : Array Oper} {rest : List Oper} {o : Oper} {a : Act} {w : World} {Q : Exit → Act → World → Prop}
/-- the store of one element; all other blocks are as they were -/
theorem wpList_store_row2 {α : Type} {E : α → List Value} {k b off : Nat} {ys : List α} (hgd : o.guard = none) (ty : TypeId) (p q : Operand) (ho : o.op = .store ty p q) (hE : ∀ x, (E x).length = k) (h1 : ∀ x, ∀ v ∈ E x, v.oneCell' = true) (hi : (P.info? ty).map (·.size) = some k)
    (i : Nat) (z : α) (hr : RowC E k b off w ys) (hil : i < ys.length) (hp : a.eval p = .pointer (some ⟨b, off + i * k, none⟩)) (cs : Array Value) (hcs : cs = (E z).toArray) (hq : a.eval q = .agg cs)
    (h : ∀ w1, RowC E k b off w1 (ys.set i z) → Below b w w1 → w1.heap.size = w.heap.size → (∀ j, j ≠ b → w1.heap[j]? = w.heap[j]?) → wpList P ops Q rest (a.put o.dst undef) w1) : wpList P ops Q (o :: rest) a w := by
  subst hcs
  refine wpList_store_mid hgd ty p q ho b (off + i * k) (E z).toArray hp hq (by rw [List.size_toArray, hE]; exact hr.there hE hil) (by rw [List.size_toArray, hE]; exact hi) (all_oneCell_toArray (h1 z)) ?_
  exact h _ (hr.set hE hil z) (below_setCells (Nat.le_refl b) _ _ _) (size_setCells _ _ _ _) (other_setCells b _ _ _)
end

theorem RowC.new {α : Type} {E : α → List Value} {k : Nat} (hE : ∀ x, (E x).length = k) (w : World) (t : TypeId) (x : α) : RowC E k w.heap.size 0 (w.alloc (.cells (E x).toArray t)) [x] := by
  refine ⟨by simp, fun i y hy j u hu => ?_, fun j => ?_⟩
  · cases i with
    | zero =>
      obtain rfl : x = y := by simpa using hy
      have := (BoxC.new w t (E x).toArray).cell j u (by simpa using hu)
      simpa using this
    | succ i => simp at hy
  · have h := BoxC.new w t (E x).toArray
    unfold BoxC at h
    simp only [World.frozen?, h]
    simp

theorem RowC.node0 {b : Nat} {w : World} {ys : List Nd} (h : RowC encN 7 b 0 w ys) {k : Nat} {x : Nd} (hx : ys[k]? = some x) :
    w.cell? ⟨b, k * 7, none⟩ = some (.string x.name) ∧ w.cell? ⟨b, k * 7 + 1, none⟩ = some (.string x.parent) ∧ w.cell? ⟨b, k * 7 + 2, none⟩ = some (.int .i64 x.re) ∧ w.cell? ⟨b, k * 7 + 3, none⟩ = some (.int .i64 x.im) ∧ w.cell? ⟨b, k * 7 + 4, none⟩ = some (.int .i64 x.lim) ∧ w.cell? ⟨b, k * 7 + 5, none⟩ = some (.int .i64 x.cre) ∧ w.cell? ⟨b, k * 7 + 6, none⟩ = some (.int .i64 x.cim) := by
  have := nodeCells (fun i u hu => h.2.1 k x hx i u hu)
  simpa only [Nat.zero_add] using this
theorem RowC.g0 {b : Nat} {w : World} {z : Int × Int} (h : RowC encG 2 b 0 w [z]) : w.cell? ⟨b, 0, none⟩ = some (.int .i64 z.1) ∧ w.cell? ⟨b, 1, none⟩ = some (.int .i64 z.2) :=
  ⟨by simpa using h.2.1 0 z rfl 0 _ rfl, by simpa using h.2.1 0 z rfl 1 _ rfl⟩

def sumG : List Nd → Int × Int
  | [] => (0, 0)
  | x :: r => (x.cre + (sumG r).1, x.cim + (sumG r).2)
theorem sumG_append (a b : List Nd) : sumG (a ++ b) = ((sumG a).1 + (sumG b).1, (sumG a).2 + (sumG b).2) := by
  induction a with
  | nil => simp [sumG]
  | cons x r ih => simp [sumG, ih]; constructor <;> omega
theorem sumG_take (xs : List Nd) (k : Nat) (h : k < xs.length) : sumG (xs.take (k + 1)) = ((sumG (xs.take k)).1 + xs[k].cre, (sumG (xs.take k)).2 + xs[k].cim) := by
  rw [List.take_succ_eq_append_getElem h, sumG_append]; simp [sumG]
/-- all currents are at most m -/
def CurLe (m : Int) (l : List Nd) : Prop := ∀ x ∈ l, -m ≤ x.cre ∧ x.cre ≤ m ∧ -m ≤ x.cim ∧ x.cim ≤ m
theorem sumG_le {m : Int} (hm : 0 ≤ m) : ∀ (xs : List Nd), CurLe m xs → -(m * xs.length) ≤ (sumG xs).1 ∧ (sumG xs).1 ≤ m * xs.length ∧ -(m * xs.length) ≤ (sumG xs).2 ∧ (sumG xs).2 ≤ m * xs.length
  | [], _ => by simp [sumG]
  | x :: r, h => by
    obtain ⟨h1, h2, h3, h4⟩ := h x (by simp)
    obtain ⟨g1, g2, g3, g4⟩ := sumG_le hm r (fun y hy => h y (by simp [hy]))
    simp only [sumG, List.length_cons, Int.natCast_add, Int.mul_add]
    simp only [Int.natCast_one, Int.mul_one]
    omega
def currentN (l : List Nd) (x : Nd) : Int × Int := sumG (branchN l x.name)

theorem sizeG : (Tryz.prog.info? 97).map (·.size) = some 2 := by kernel_rfl

set_option maxHeartbeats 4000000 in
theorem currents1_any (lb : Nat) (v : Value) (l : List Nd) (hac : Acyc l) (hn : 0 < l.length) (hl : l.length ≤ 1048576) (hcu : CurLe 1000000 l) (x : Nd) (w : World) (hcl : w.cell? ⟨lb, 0, none⟩ = some v) (hs : SlAt encN 7 w v l) :
    Calls Tryz.prog 138 #[.agg (encN x).toArray, .pointer (some ⟨lb, 0, none⟩)] w fun e w' => e = .returned (.agg (encG (currentN l x)).toArray) ∧ Below w.heap.size w w' := by
  have hlb := World.block_lt_of_cell? _ _ hcl
  have hnm := fun W hW => branch_any v l x.name hac hn hl W (hs.ext hW)
  have hbl : (branchN l x.name).length ≤ l.length := List.length_filter_le _ _
  have hcb : CurLe 1000000 (branchN l x.name) := fun y hy => hcu y (List.mem_filter.1 hy).1
  have hV : currentN l x = sumG (branchN l x.name) := rfl
  rw [hV]
  generalize branchN l x.name = ys at hnm hbl hcb
  clear hV hac hcu
  obtain ⟨A, c, rfl, hc1, hc2, hr⟩ := hs
  clear hr
  have hb3 : Below w.heap.size w (((w.alloc (.cells (encN x).toArray 125)).alloc (.cells (encG (0, 0)).toArray 97)).alloc (.cells (encG (0, 0)).toArray 97)) := by (repeat (first | exact Below.refl _ _ | assumption | refine Below.drew ?_ | refine Below.alloc ?_ (by simp <;> omega) _ | refine Below.alloc ?_ (by simp) _ | refine Below.setCell ?_ (by simp) _))
  have kl := ext_cell hb3 hcl
  have hs2 := RowC.new encG_len ((w.alloc (.cells (encN x).toArray 125)).alloc (.cells (encG (0, 0)).toArray 97)) 97 (0, 0)
  have hs1 := (RowC.new encG_len (w.alloc (.cells (encN x).toArray 125)) 97 (0, 0)).ext (ext_alloc _ (.cells (encG (0, 0)).toArray 97))
  have hz : (((w.alloc (.cells (encN x).toArray 125)).alloc (.cells (encG (0, 0)).toArray 97)).alloc (.cells (encG (0, 0)).toArray 97)).heap.size = w.heap.size + 1 + 1 + 1 := by simp
  have HZ := Lib.hid hz
  simp only [World.size_alloc] at hs1 hs2
  unfold encN at hb3 kl HZ
  unfold encN
  simp only [encG] at hb3 kl HZ
  simp only [encG]
  clear hz
  go_enter Tryz.func138, Tryz.ntmps138
  go_wp2_with (go_at_call 73; refine (hnm _ hb3).mono ?_; rintro e w1 ⟨b, c', rfl, hyc, hyc2, hyb, hrow, hb1⟩; rw [HZ.out] at hyb; have hr2 := hs2.ext hb1; have hr1 := hs1.ext hb1; have hb4 := ext_trans hb3 hb1)
  clear hnm kl hcl
  have hcy := hrow.2.1
  go_loopw [12] (fun i wr => ∃ k : Nat, k ≤ ys.length ∧ i = .int .i64 k ∧ RowC encN 7 b 0 wr ys ∧ RowC encG 2 (w.heap.size + 1 + 1) 0 wr [sumG (ys.take k)] ∧ RowC encG 2 (w.heap.size + 1) 0 wr [(0, 0)] ∧ Below w.heap.size w wr) (fun i _ => ys.length - (intOf i).toNat)
  case atStart => exact ⟨0, Nat.zero_le _, rfl, hrow, hr2, hr1, hb4⟩
  case round =>
    obtain ⟨k, hk, rfl, hrow1, hrs, hre, hbr⟩ := hrel
    clear hb4 hr2 hr1 hrow hs1 hs2 hb3 hb1 hcy
    by_cases hlt : k < ys.length
    · have hx : ys[k]? = some ys[k] := List.getElem?_eq_getElem hlt
      have hst := sumG_take ys k hlt
      obtain ⟨z1, z2, z3, z4⟩ := sumG_le (m := 1000000) (by omega) (ys.take k) (fun y hy => hcb y (List.mem_of_mem_take hy))
      obtain ⟨x1, x2, x3, x4⟩ := hcb ys[k] (List.getElem_mem hlt)
      have htk : ((ys.take k).length : Int) ≤ 1048576 := by simp; omega
      generalize ys[k] = y at hx hst x1 x2 x3 x4
      generalize sumG (ys.take k) = z at hrs hst z1 z2 z3 z4
      obtain ⟨c0, c1, c2, c3, c4, c5, c6⟩ := hrow1.node0 hx
      have hrs1 := hrs.ext (ext_alloc wr (.cells (encN y).toArray 125))
      have hre1 := hre.ext (ext_alloc wr (.cells (encN y).toArray 125))
      have hrow2 := hrow1.ext (ext_alloc wr (.cells (encN y).toArray 125))
      obtain ⟨g0, g1⟩ := hrs1.g0
      have hbs := hbr.size
      have hbb : Below w.heap.size w (wr.alloc (.cells (encN y).toArray 125)) := hbr.alloc hbs _
      have HST := Lib.hid hst
      clear hst hx
      unfold encN at hrs1 hre1 hrow2 g0 g1 hbb
      go_wp2_with (first
        | (go_at_call 104; refine (plus_any z.1 z.2 y.cre y.cim _ (by omega) (by omega) (by omega) (by omega)).mono ?_; rintro e w2 ⟨rfl, hb2⟩; have hrs2 := hrs1.ext hb2; have hre2 := hre1.ext hb2; have hrow3 := hrow2.ext hb2; have hbb2 := ext_trans hbb hb2)
        | (refine wpList_store_row2 rfl 97 _ _ rfl encG_len encG_one sizeG 0 (z.1 + y.cre, z.2 + y.cim) hrs2 (by simp) rfl _ rfl rfl ?_; intro w3 hrs3 hb3 hz3 ho3))
      go_roundw
      case rel => exact ⟨k + 1, by omega, by go_num, hrow3.other hz3 (ho3 b (by omega)), by rw [HST.out]; exact hrs3, hre2.other hz3 (ho3 _ (by omega)), hbb2.trans (hb3.mono (by omega))⟩
      case measure => simp [intOf]; omega
    · obtain rfl : k = ys.length := by omega
      rw [List.take_of_length_le (Nat.le_refl _)] at hrs
      obtain ⟨g0, g1⟩ := hrs.g0
      go_wp2_with (refine wpList_store_row2 rfl 97 _ _ rfl encG_len encG_one sizeG 0 (sumG ys) hre (by simp) rfl _ rfl rfl ?_; intro w3 hrs3 hb3 hz3 ho3)
      obtain ⟨r0, r1⟩ := RowC.g0 hrs3
      exact bodyPost_ret (v := .agg #[.int .i64 (sumG ys).1, .int .i64 (sumG ys).2]) (by simp [results, Tryz.results138, go_sem, r0, r1]) rfl ⟨rfl, hbr.trans (hb3.mono (by omega))⟩
end Go.Proofs.YtlogjgmfkjjhjaaGreatDoor
namespace Go.Proofs.YtlogjgmfkjjhjaaGreatDoor
open Go.RowKit

theorem firstV_zero : ∀ (xs : List Int), firstV xs = 0 ↔ ∀ x ∈ xs, x = 0
  | [] => by simp [firstV]
  | x :: r => by
    by_cases h : x = 0
    · simp [firstV, h, firstV_zero r]
    · simp [firstV, h]
theorem whenV_zero {b : Bool} {e : Int} (he : e ≠ 0) : whenV b e = 0 ↔ b = false := by cases b <;> simp [whenV, he]
theorem withinV_zero {n a b : Int} : withinV n a b = 0 ↔ a ≤ n ∧ n ≤ b := by
  unfold withinV; split <;> omega
theorem partsV_zero {re im a b : Int} : partsV re im a b = 0 ↔ (a ≤ re ∧ re ≤ b) ∧ (a ≤ im ∧ im ≤ b) := by
  simp [partsV, firstV_zero, withinV_zero]

structure NodeOk (x : Nd) : Prop where
  name : isNameB x.name = true
  re0 : 0 ≤ x.re
  re1 : x.re ≤ 1000
  im0 : 0 ≤ x.im
  im1 : x.im ≤ 1000
  lim0 : 0 ≤ x.lim
  lim1 : x.lim ≤ 1000000000
  cre0 : -1000 ≤ x.cre
  cre1 : x.cre ≤ 1000
  cim0 : -1000 ≤ x.cim
  cim1 : x.cim ≤ 1000
theorem nodeErr_zero {before : List Nd} {n : Nd} (h : nodeErr before n = 0) :
    NodeOk n ∧ findI before n.name < 0 ∧ (before.length = 0 → n.parent = ByteArray.empty ∧ n.re = 0 ∧ n.im = 0) ∧ (before.length ≠ 0 → 0 ≤ findI before n.parent ∧ ¬(n.re = 0 ∧ n.im = 0)) := by
  unfold nodeErr at h
  have h1 : checkE1 before n = 0 := by
    split at h
    · rename_i hh; exact absurd h hh
    · rename_i hh; simpa using hh
  have h2 : checkE2 before n = 0 := by rw [if_neg (by simpa using h1)] at h; exact h
  simp only [checkE1, firstV_zero, List.mem_cons, List.mem_nil_iff, or_false, forall_eq_or_imp, forall_eq, whenV_zero (show (8 : Int) ≠ 0 by decide), whenV_zero (show (9 : Int) ≠ 0 by decide), whenV_zero (show (24 : Int) ≠ 0 by decide), whenV_zero (show (10 : Int) ≠ 0 by decide)] at h1
  simp only [checkE2, firstV_zero, List.mem_cons, List.mem_nil_iff, or_false, forall_eq_or_imp, forall_eq, whenV_zero (show (1 : Int) ≠ 0 by decide), whenV_zero (show (6 : Int) ≠ 0 by decide), partsV_zero, withinV_zero] at h2
  obtain ⟨a1, a2, a3, a4⟩ := h1
  obtain ⟨b1, b2, b3, b4, b5⟩ := h2
  refine ⟨⟨by simpa using a1, b1.1.1, b1.1.2, b1.2.1, b1.2.2, b4.1, b4.2, b5.1.1, b5.1.2, b5.2.1, b5.2.2⟩, by simpa using a2, fun h0 => ?_, fun h0 => ?_⟩
  · simp [h0] at a3 b2
    exact ⟨a3, b2.1, b2.2⟩
  · have e0 : (before.length == 0) = false := by simpa using h0
    rw [e0] at a4 b3
    simp at a4 b3
    exact ⟨by omega, fun hh => b3 hh.1 hh.2⟩
theorem checkGo_zero : ∀ (r before : List Nd), checkGo before r = 0 → ∀ k (h : k < r.length), nodeErr (before ++ r.take k) r[k] = 0
  | [], _, _, k, h => by simp at h
  | n :: r, before, h0, k, h => by
    unfold checkGo at h0
    by_cases he : nodeErr before n = 0
    · rw [if_neg (by simpa using he)] at h0
      cases k with
      | zero => simpa using he
      | succ k =>
        have := checkGo_zero r (before ++ [n]) h0 k (by simpa using h)
        simpa using this
    · rw [if_pos (by simpa using he)] at h0
      exact absurd h0 he

/-- findI, by what it says -/
theorem idxFrom_ge {α : Type} (p : α → Bool) : ∀ (xs : List α) (i : Nat), 0 ≤ idxFrom p i xs → ∃ k, idxFrom p i xs = ((i + k : Nat) : Int) ∧ ∃ h : k < xs.length, p xs[k] = true ∧ ∀ j (hj : j < k), p (xs[j]'(by omega)) = false
  | [], _, h => by simp [idxFrom] at h
  | x :: r, i, h => by
    unfold idxFrom at h ⊢
    cases hp : p x with
    | true => exact ⟨0, by simp, by simp, by simp [hp], fun j hj => by omega⟩
    | false =>
      simp only [hp, Bool.false_eq_true, if_false] at h ⊢
      obtain ⟨k, e, hk, h1, h2⟩ := idxFrom_ge p r (i + 1) h
      refine ⟨k + 1, by rw [e]; omega, by simp; omega, by simpa using h1, fun j hj => ?_⟩
      cases j with
      | zero => simpa using hp
      | succ j => simpa using h2 j (by omega)
theorem idxFrom_lt {α : Type} (p : α → Bool) : ∀ (xs : List α) (i : Nat), idxFrom p i xs < 0 → ∀ x ∈ xs, p x = false
  | [], _, _, x, hx => by simp at hx
  | y :: r, i, h, x, hx => by
    unfold idxFrom at h
    cases hp : p y with
    | true => simp [hp] at h; omega
    | false =>
      simp only [hp, Bool.false_eq_true, if_false] at h
      rcases List.mem_cons.1 hx with rfl | hx
      · exact hp
      · exact idxFrom_lt p r (i + 1) h x hx
theorem findI_ge {l : List Nd} {s : ByteArray} (h : 0 ≤ findI l s) : ∃ k : Nat, findI l s = (k : Int) ∧ ∃ h : k < l.length, l[k].name = s ∧ ∀ j (hj : j < k), (l[j]'(by omega)).name ≠ s := by
  obtain ⟨k, e, hk, h1, h2⟩ := idxFrom_ge _ l 0 h
  exact ⟨k, by unfold findI idxI; rw [e]; simp, hk, by simpa using h1, fun j hj => by simpa using h2 j hj⟩
theorem findI_lt {l : List Nd} {s : ByteArray} (h : findI l s < 0) : ∀ x ∈ l, x.name ≠ s := fun x hx => by simpa using idxFrom_lt _ l 0 h x hx
theorem findI_at {l : List Nd} {s : ByteArray} {k : Nat} (hk : k < l.length) (h : l[k].name = s) (hm : ∀ j (hj : j < k), (l[j]'(by omega)).name ≠ s) : findI l s = (k : Int) := by
  unfold findI idxI
  rw [idxFrom_hit _ l 0 k l[k] (List.getElem?_eq_getElem hk) (by simpa using h) (fun j y hj hy => by
    rw [List.getElem?_eq_getElem (by omega)] at hy
    obtain rfl : l[j] = y := by simpa using hy
    simpa using hm j hj)]
  simp
theorem findI_none {l : List Nd} {s : ByteArray} (h : ∀ x ∈ l, x.name ≠ s) : findI l s = -1 := idxFrom_miss _ l 0 fun x hx => by simpa using h x hx

/-- what the check lets in -/
structure Good (l : List Nd) : Prop where
  len0 : 0 < l.length
  len1 : l.length ≤ 16
  each : ∀ k (h : k < l.length), NodeOk l[k]
  uniq : ∀ i j (hj : j < l.length) (hij : i < j), (l[i]'(by omega)).name ≠ l[j].name
  root : (l[0]'len0).parent = ByteArray.empty ∧ (l[0]'len0).re = 0 ∧ (l[0]'len0).im = 0
  rest : ∀ i (hi : i < l.length), 0 < i → (∃ j, ∃ hj : j < i, (l[j]'(by omega)).name = l[i].parent) ∧ ¬(l[i].re = 0 ∧ l[i].im = 0)
theorem isName_ne {s : ByteArray} (h : isNameB s = true) : s ≠ ByteArray.empty := by
  rintro rfl
  simp [isNameB] at h
theorem good_of {l : List Nd} (h : checkNodesV l = 0) : Good l := by
  unfold checkNodesV at h
  have h0 : l.length ≠ 0 := by intro e; rw [if_pos e] at h; cases h
  rw [if_neg h0] at h
  have h1 : ¬ 16 < l.length := by intro e; rw [if_pos e] at h; cases h
  rw [if_neg h1] at h
  have hk := checkGo_zero l [] h
  simp only [List.nil_append] at hk
  refine ⟨by omega, by omega, fun k hk' => (nodeErr_zero (hk k hk')).1, fun i j hj hij => ?_, ?_, fun i hi h0 => ?_⟩
  · have := findI_lt (nodeErr_zero (hk j hj)).2.1 l[i] (List.mem_take_iff_getElem.2 ⟨i, by omega, rfl⟩)
    exact this
  · have := (nodeErr_zero (hk 0 (by omega))).2.2.1 rfl
    exact this
  · have := (nodeErr_zero (hk i hi)).2.2.2 (by rw [List.length_take]; omega)
    refine ⟨?_, this.2⟩
    obtain ⟨k, e, hk2, h2, _⟩ := findI_ge this.1
    have hk3 : k < i := by simp at hk2; omega
    exact ⟨k, hk3, by simpa using h2⟩
theorem Good.acyc {l : List Nd} (h : Good l) : Acyc l := by
  intro i hi
  have hx : l.getD i default = l[i] := by simp [hi]
  rw [hx]
  rcases Nat.eq_zero_or_pos i with rfl | h0
  · have := findI_none (l := l) (s := l[0].parent) (fun x hx => by
      rw [h.root.1]
      obtain ⟨j, hj, rfl⟩ := List.getElem_of_mem hx
      exact isName_ne (h.each j hj).name)
    rw [this]; omega
  · obtain ⟨⟨j, hj, e⟩, _⟩ := h.rest i hi h0
    rcases Int.lt_or_le (findI l l[i].parent) 0 with hlt | hge
    · omega
    · obtain ⟨k, e1, hk, h2, h3⟩ := findI_ge hge
      rw [e1]
      rcases Nat.lt_or_ge j k with hjk | hjk
      · exact absurd e (h3 j hjk)
      · omega
theorem Good.mem {l : List Nd} (h : Good l) {x : Nd} (hx : x ∈ l) : NodeOk x := by
  obtain ⟨j, hj, rfl⟩ := List.getElem_of_mem hx
  exact h.each j hj
end Go.Proofs.YtlogjgmfkjjhjaaGreatDoor
namespace Go.Proofs.YtlogjgmfkjjhjaaGreatDoor
open Go.RowKit

abbrev aggG (z : Int × Int) : Value := .agg #[.int .i64 z.1, .int .i64 z.2]
theorem infoG : (Tryz.prog.info? 97).map (fun i => (i.zero, i.size, i.bytes)) = some (some (.agg #[.int .i64 0, .int .i64 0]), 2, 16) := by kernel_rfl
set_option maxHeartbeats 2000000 in
theorem mappedNG {lb : Array Value} (f : Nd → Int × Int) (g : Nat) (eg : ∀ args w, (callFunc g args).run Tryz.prog w = .ok (.enter g args) w) (xs : List Nd) (v : Value) (w : World)
    (hs : SlAt encN 7 w v xs) (hn : xs.length ≤ 1048576) (hp : FnB g lb (fun x => .agg (encN x).toArray) (fun z : Int × Int => .agg #[.int .i64 z.1, .int .i64 z.2]) f xs w) :
    Calls Tryz.prog 137 #[v, .func (.func g) #[] lb] w (RetSl encG 2 97 (xs.map f) w) := by
  obtain ⟨A, c, rfl, hc, hm, hr⟩ := hs
  have hlen : xs.length ≤ 9223372036854775807 := by omega
  go_enter Tryz.func137, Tryz.ntmps137
  go_wp2
  go_loopw [10, 5] (fun i o wr => ∃ k : Nat, k ≤ xs.length ∧ i = .int .i64 k ∧ Below w.heap.size w wr ∧ Own encG 2 w.heap.size 97 wr o ((xs.take k).map f) ∧ Hid ((xs.take k).map f = [] → o = .slice none 0 0)) (fun i _ _ => xs.length - (intOf i).toNat)
  case atStart => exact ⟨0, Nat.zero_le _, rfl, Below.refl _ _, Own.nil _, fun _ => rfl⟩
  case round =>
    obtain ⟨k, hk, rfl, hb, ho, hnil⟩ := hrel
    by_cases hlt : k < xs.length
    · obtain ⟨b, off, rfl, hbl, hcell⟩ := hr (by omega)
      have hx : xs[k]? = some xs[k] := List.getElem?_eq_getElem hlt
      have hcall := fun W hW => hp W xs[k] (List.getElem_mem hlt) hW
      have hts := map_take_succ f xs k hlt
      generalize xs[k] = x at hx hcall hts
      obtain ⟨c0, c1, c2, c3, c4, c5, c6⟩ := nodeCells (fun i u hu => ext_cell hb (hcell k x hx i u hu))
      have hlt2 : ((xs.take k).map f).length = k := by simp; omega
      have HTS := Lib.hid hts
      have HL := Lib.hid hlt2
      clear hcell hr hp hx hts hlt2
      generalize (xs.take k).map f = ys at ho hnil HTS HL
      generalize f x = y at hcall HTS
      unfold encN at hcall
      have hsz := hb.size
      go_wp2_with (first
        | (go_at_fn g; refine (hcall _ (hb.alloc hsz _)).mono ?_; rintro e w1 ⟨rfl, hb1⟩; have hbw := ext_trans (hb.alloc hsz _) hb1; have ho1 := (ho.alloc (.cells #[.string x.name, .string x.parent, .int .i64 x.re, .int .i64 x.im, .int .i64 x.lim, .int .i64 x.cre, .int .i64 x.cim] 125)).ext hb1)
        | (at_builtin; refine own_append (w0 := w) rfl _ _ 31 (.agg #[.int .i64 0, .int .i64 0]) 16 rfl Tryz.underlying31 infoG rfl (by decide) (by decide) encG_len _ ys y _ rfl rfl rfl (by simp [encG, Value.oneCell']) ho1 hbw hbw.size (by have := HL.out; omega) ?_; intro v1 w2 hown hbv hgv hnn))
      go_roundw
      case rel => exact ⟨k + 1, by omega, by go_num, hbv, by rw [HTS.out]; exact hown, fun h => by rw [HTS.out] at h; simp at h⟩
      case measure => simp [intOf]; omega
    · obtain rfl : k = xs.length := by omega
      rw [List.take_of_length_le (Nat.le_refl _)] at ho hnil
      go_wp2
      go_ret
      exact ⟨_, rfl, ho, hb, hnil.out⟩
theorem Good.cur {l : List Nd} (h : Good l) : CurLe 1000000 l := fun x hx => by
  have := h.mem hx
  exact ⟨by have := this.cre0; omega, by have := this.cre1; omega, by have := this.cim0; omega, by have := this.cim1; omega⟩
theorem Good.len {l : List Nd} (h : Good l) : l.length ≤ 1048576 := by have := h.len1; omega

/-- the currents of all cables -/
def currentsN (l : List Nd) : List (Int × Int) := l.map (currentN l)

set_option maxHeartbeats 2000000 in
theorem currents_any (v : Value) (l : List Nd) (hac : Acyc l) (hn : 0 < l.length) (hl : l.length ≤ 1048576) (hcu : CurLe 1000000 l) (w : World) (hs : SlAt encN 7 w v l) :
    Calls Tryz.prog 75 #[v] w (RetSl encG 2 97 (currentsN l) w) := by
  have eg := enters_of Tryz.func138 (by kernel_rfl) rfl
  have hsw := hs
  obtain ⟨A, c, rfl, hc1, hc2, hr⟩ := hs
  clear hr
  have b1 := Boxed.new w 29 (.slice A l.length c)
  have hb1 := ext_alloc w (.cells #[.slice A l.length c] 29)
  have hfn : FnB 138 #[.pointer (some ⟨w.heap.size, 0, none⟩)] (fun x => .agg (encN x).toArray) (fun z : Int × Int => .agg #[.int .i64 z.1, .int .i64 z.2]) (currentN l) l (w.alloc (.cells #[.slice A l.length c] 29)) :=
    fun W x hx hW => currents1_any w.heap.size _ l hac hn hl hcu x W (ext_cell hW b1.cell) (hsw.ext (ext_trans hb1 hW))
  have hm := mappedNG (currentN l) _ eg l _ _ (hsw.ext hb1) hl hfn
  clear hfn
  go_enter Tryz.func75, Tryz.ntmps75
  go_wp2_with (go_at_call 137; refine hm.mono ?_; rintro e w2 ⟨v2, rfl, ho2, hb2, hn2⟩)
  go_ret
  exact ⟨_, rfl, ho2.mono hb1.size, ext_trans hb1 hb2, hn2⟩
end Go.Proofs.YtlogjgmfkjjhjaaGreatDoor
namespace Go.Proofs.YtlogjgmfkjjhjaaGreatDoor
open Go.RowKit

/-- names that Go can hold -/
def Names (l : List Nd) : Prop := ∀ n ∈ l, n.name.size ≤ 9223372036854775807

def checkNodeV (l : List Nd) (s : ByteArray) : Int := firstV [checkNodesV l, whenV (decide (findI l s < 0)) 10]
set_option maxHeartbeats 2000000 in
theorem checkNode_any (v : Value) (l : List Nd) (s : ByteArray) (w : World) (hs : SlAt encN 7 w v l) (hok : Names l) :
    Calls Tryz.prog 70 #[v, .string s] w fun e w' => e = .returned (.int .i64 (checkNodeV l s)) ∧ Below w.heap.size w w' := by
  have hsw := hs
  obtain ⟨A, c, rfl, hc1, hc2, hr⟩ := hs
  clear hr
  have hc := fun W hW => checkNodes_any l _ W (hsw.ext hW) hok
  have hf := fun W hW => find_any l _ s W (hsw.ext hW)
  have hV : checkNodeV l s = firstV [checkNodesV l, whenV (decide (findI l s < 0)) 10] := rfl
  rw [hV]
  clear hV
  generalize checkNodesV l = c1 at hc ⊢
  generalize findI l s = i1 at hf ⊢
  go_enter Tryz.func70, Tryz.ntmps70
  cases hq : decide (i1 < 0)
  all_goals
    go_wp2_with (first
      | (go_at_call 21; refine (hc _ (Below.refl _ _)).mono ?_; rintro e w1 ⟨rfl, hb1⟩)
      | (go_at_call 89; refine (hf _ hb1).mono ?_; rintro e w2 ⟨rfl, hb2⟩; have hb3 := ext_trans hb1 hb2; have hsz := hb3.size)
      | (go_at_call 82; refine (when_any _ _ _).mono ?_; rintro e w3 ⟨rfl, rfl⟩)
      | (go_at_call 81; refine (first_any [_, _] _ _ (slat_new encI_len (by simp) rfl (by simp))).mono ?_; rintro e w3 ⟨rfl, rfl⟩))
    go_ret
    exact ⟨rfl, hb3.alloc hsz _⟩

/-- a list and an error -/
def Ret2 {α : Type} (E : α → List Value) (k : Nat) (e : TypeId) (r : List α × Int) (w : World) (e' : Ending) (w' : World) : Prop :=
  ∃ v, e' = .returned (.tuple #[v, .int .i64 r.2]) ∧ Own E k w.heap.size e w' v r.1 ∧ Below w.heap.size w w' ∧ (r.1 = [] → v = .slice none 0 0)

def chainR (l : List Nd) (s : ByteArray) : List ByteArray × Int := if checkNodeV l s ≠ 0 then ([], checkNodeV l s) else (namesN l s, 0)
theorem checkNodeV_zero {l : List Nd} {s : ByteArray} (h : checkNodeV l s = 0) : Good l ∧ 0 ≤ findI l s := by
  simp only [checkNodeV, firstV_zero, List.mem_cons, List.mem_nil_iff, or_false, forall_eq_or_imp, forall_eq, whenV_zero (show (10 : Int) ≠ 0 by decide)] at h
  exact ⟨good_of h.1, by simpa using h.2⟩

set_option maxHeartbeats 2000000 in
theorem Chain_any (v : Value) (l : List Nd) (s : ByteArray) (w : World) (hs : SlAt encN 7 w v l) (hok : Names l) :
    Calls Tryz.prog 9 #[v, .string s] w (Ret2 encS 1 9 (chainR l s) w) := by
  have hsw := hs
  obtain ⟨A, c, rfl, hc1, hc2, hr⟩ := hs
  clear hr
  have hc := checkNode_any _ l s w hsw hok
  have hz : checkNodeV l s = 0 → _ := checkNodeV_zero
  have hV : chainR l s = if checkNodeV l s ≠ 0 then ([], checkNodeV l s) else (namesN l s, 0) := rfl
  rw [hV]
  clear hV
  generalize checkNodeV l s = e1 at hc hz ⊢
  go_enter Tryz.func9, Tryz.ntmps9
  cases hq : (e1 != 0)
  · obtain rfl : e1 = 0 := by simpa using hq
    obtain ⟨hg, _⟩ := hz rfl
    have hn := fun W hW => names_any _ l s hg.acyc hg.len W (hsw.ext hW)
    clear hz hg
    go_wp2_with (first
      | (go_at_call 70; refine hc.mono ?_; rintro e w1 ⟨rfl, hb1⟩)
      | (go_at_call 71; refine (hn _ hb1).mono ?_; rintro e w2 ⟨v2, rfl, ho2, hb2, hn2⟩))
    go_ret2
    exact ⟨_, rfl, ho2.mono hb1.size, ext_trans hb1 hb2, hn2⟩
  · have he : e1 ≠ 0 := by simpa using hq
    rw [if_pos he]
    clear hz he
    go_wp2_with (go_at_call 70; refine hc.mono ?_; rintro e w1 ⟨rfl, hb1⟩)
    go_ret2
    exact ⟨_, rfl, Own.nil _, hb1, fun _ => rfl⟩

def branchR (l : List Nd) (s : ByteArray) : List ByteArray × Int := if checkNodeV l s ≠ 0 then ([], checkNodeV l s) else ((branchN l s).map Nd.name, 0)
set_option maxHeartbeats 2000000 in
theorem Branch_any (v : Value) (l : List Nd) (s : ByteArray) (w : World) (hs : SlAt encN 7 w v l) (hok : Names l) :
    Calls Tryz.prog 11 #[v, .string s] w (Ret2 encS 1 9 (branchR l s) w) := by
  have hsw := hs
  obtain ⟨A, c, rfl, hc1, hc2, hr⟩ := hs
  clear hr
  have hc := checkNode_any _ l s w hsw hok
  have hz : checkNodeV l s = 0 → _ := checkNodeV_zero
  have el := enters_of Tryz.func74 (by kernel_rfl) rfl
  have hV : branchR l s = if checkNodeV l s ≠ 0 then ([], checkNodeV l s) else ((branchN l s).map Nd.name, 0) := rfl
  rw [hV]
  clear hV
  generalize checkNodeV l s = e1 at hc hz ⊢
  go_enter Tryz.func11, Tryz.ntmps11
  cases hq : (e1 != 0)
  · obtain rfl : e1 = 0 := by simpa using hq
    obtain ⟨hg, _⟩ := hz rfl
    have hn := fun W hW => branch_any _ l s hg.acyc hg.len0 hg.len W (hsw.ext hW)
    clear hz hg
    go_wp2_with (first
      | (go_at_call 70; refine hc.mono ?_; rintro e w1 ⟨rfl, hb1⟩)
      | (go_at_call 73; refine (hn _ hb1).mono ?_; rintro e w2 ⟨b, c', rfl, hbc, hbc2, hbb, hrow, hb2⟩; have hb3 := ext_trans hb1 hb2)
      | (go_at_call 72; refine (mappedNS Nd.name _ el (branchN l s) _ _ (hrow.slat hbc (by omega)) (by omega) (label_fn _ _)).mono ?_; rintro e w3 ⟨v3, rfl, ho3, hb5, hn3⟩))
    go_ret2
    exact ⟨_, rfl, ho3.mono hb3.size, ext_trans hb3 hb5, hn3⟩
  · have he : e1 ≠ 0 := by simpa using hq
    rw [if_pos he]
    clear hz he
    go_wp2_with (go_at_call 70; refine hc.mono ?_; rintro e w1 ⟨rfl, hb1⟩)
    go_ret2
    exact ⟨_, rfl, Own.nil _, hb1, fun _ => rfl⟩

def currentsR (l : List Nd) : List (Int × Int) × Int := if checkNodesV l ≠ 0 then ([], checkNodesV l) else (currentsN l, 0)
set_option maxHeartbeats 2000000 in
theorem Currents_any (v : Value) (l : List Nd) (w : World) (hs : SlAt encN 7 w v l) (hok : Names l) :
    Calls Tryz.prog 12 #[v] w (Ret2 encG 2 97 (currentsR l) w) := by
  have hsw := hs
  obtain ⟨A, c, rfl, hc1, hc2, hr⟩ := hs
  clear hr
  have hc := checkNodes_any l _ w hsw hok
  have hz : checkNodesV l = 0 → _ := good_of
  have hV : currentsR l = if checkNodesV l ≠ 0 then ([], checkNodesV l) else (currentsN l, 0) := rfl
  rw [hV]
  clear hV
  generalize checkNodesV l = e1 at hc hz ⊢
  go_enter Tryz.func12, Tryz.ntmps12
  cases hq : (e1 != 0)
  · obtain rfl : e1 = 0 := by simpa using hq
    have hg := hz rfl
    have hn := fun W hW => currents_any _ l hg.acyc hg.len0 hg.len hg.cur W (hsw.ext hW)
    clear hz hg
    go_wp2_with (first
      | (go_at_call 21; refine hc.mono ?_; rintro e w1 ⟨rfl, hb1⟩)
      | (go_at_call 75; refine (hn _ hb1).mono ?_; rintro e w2 ⟨v2, rfl, ho2, hb2, hn2⟩))
    go_ret2
    exact ⟨_, rfl, ho2.mono hb1.size, ext_trans hb1 hb2, hn2⟩
  · have he : e1 ≠ 0 := by simpa using hq
    rw [if_pos he]
    clear hz he
    go_wp2_with (go_at_call 21; refine hc.mono ?_; rintro e w1 ⟨rfl, hb1⟩)
    go_ret2
    exact ⟨_, rfl, Own.nil _, hb1, fun _ => rfl⟩
end Go.Proofs.YtlogjgmfkjjhjaaGreatDoor
