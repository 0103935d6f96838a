/-
  The reference's Short; the law's nodes.
  The plain law of FeederTrees: chains, branches and currents by nodes and by indices are the same.
-/
import Derived.Test.YtlogjgmfkjjhjaaGreatDoorX37
set_option linter.unusedSimpArgs false
set_option linter.unusedVariables false
namespace Go.Proofs.YtlogjgmfkjjhjaaGreatDoor
open Go.RowKit

def shortN (n : Nd) : Bool := decide (n.name.size ≤ 40) && decide (n.parent.size ≤ 40)
def shortB (l : List Nd) : Bool := l.all shortN && (decide (l.length ≤ 7) || decide (l.length = 17))
set_option maxHeartbeats 2000000 in
theorem rShort_any (l : List Nd) (v : Value) (w : World) (hs : SlAt encN 7 w v l) :
    Calls Tryz.prog 8 #[v] w fun e w' => e = .returned (.bool (shortB l)) ∧ w = w' := by
  obtain ⟨A, c, rfl, hc, hm, hr⟩ := hs
  have hlen : l.length ≤ 9223372036854775807 := by omega
  generalize hres : shortB l = res
  have HRES := Lib.hid hres
  clear hres
  go_enter Tryz.func8, Tryz.ntmps8
  go_wp2
  go_loop [3] (fun i => ∃ k : Nat, k ≤ l.length ∧ i = .int .i64 k ∧ Hid (∀ j y, j < k → l[j]? = some y → shortN y = true)) (fun i => l.length - (intOf i).toNat)
  case atStart => exact ⟨0, Nat.zero_le _, rfl, fun j y hj => absurd hj (Nat.not_lt_zero _)⟩
  case round =>
    obtain ⟨k, hk, rfl, hz⟩ := hrel
    by_cases hlt : k < l.length
    · obtain ⟨b, off, rfl, hbl, hcell⟩ := hr (by omega)
      have hx : l[k]? = some l[k] := List.getElem?_eq_getElem hlt
      have c0 := hcell k _ hx 0 _ rfl
      have c1 := hcell k _ hx 1 _ rfl
      rw [Nat.add_zero] at c0
      have hbad : shortN l[k] = false → res = false := fun h => by
        rw [← HRES.out]
        unfold shortB
        have : l.all shortN = false := by
          rw [List.all_eq_false]
          exact ⟨l[k], List.getElem_mem hlt, by rw [h]; simp⟩
        rw [this]; rfl
      generalize l[k] = x at hx c0 c1 hbad
      have HX := Lib.hid hx
      have HBAD := Lib.hid hbad
      clear hcell hr hx hbad
      by_cases h1 : 40 < x.name.size
      · have d1 : decide ((40 : Int) < (x.name.size : Int)) = true := by simp; omega
        have HB := Lib.hid (HBAD.out (by unfold shortN; simp; omega))
        clear h1
        go_wp2
        go_ret
        exact ⟨by rw [HB.out]; rfl, rfl⟩
      · have d1 : decide ((40 : Int) < (x.name.size : Int)) = false := by simp; omega
        by_cases h2 : 40 < x.parent.size
        · have d2 : decide ((40 : Int) < (x.parent.size : Int)) = true := by simp; omega
          have HB := Lib.hid (HBAD.out (by unfold shortN; simp; omega))
          clear h1 h2
          go_wp2
          go_ret
          exact ⟨by rw [HB.out]; rfl, rfl⟩
        · have d2 : decide ((40 : Int) < (x.parent.size : Int)) = false := by simp; omega
          have HG : Hid (shortN x = true) := Lib.hid (by unfold shortN; simp; omega)
          clear h1 h2
          go_wp2
          go_round
          case rel => exact ⟨k + 1, by omega, by go_num, fun j y hj hy => by
            by_cases e : j = k
            · subst e; have := HX.out; rw [hy] at this; cases this; exact HG.out
            · exact hz.out j y (by omega) hy⟩
          case measure => simp [intOf]; omega
    · obtain rfl : k = l.length := by omega
      have hall : l.all shortN = true := by
        rw [List.all_eq_true]
        intro x hx
        obtain ⟨j, hj, e⟩ := List.getElem_of_mem hx
        exact hz.out j x hj (by rw [List.getElem?_eq_getElem hj, e])
      have hR : res = (decide (l.length ≤ 7) || decide (l.length = 17)) := by rw [← HRES.out]; unfold shortB; rw [hall]; rfl
      have HR := Lib.hid hR
      clear hall hR hr
      by_cases h7 : l.length ≤ 7
      · have d7 : decide ((l.length : Int) ≤ 7) = true := by simp; omega
        have HB : Hid (res = true) := Lib.hid (by rw [HR.out]; simp [h7])
        clear h7
        go_wp2
        go_ret
        exact ⟨by rw [HB.out]; rfl, rfl⟩
      · have d7 : decide ((l.length : Int) ≤ 7) = false := by simp; omega
        by_cases h17 : l.length = 17
        · have d17 : ((l.length : Int) == 17) = true := by simp; omega
          have HB : Hid (res = true) := Lib.hid (by rw [HR.out]; simp [h17])
          clear h7 h17
          go_wp2
          go_ret
          exact ⟨by rw [HB.out]; rfl, rfl⟩
        · have d17 : ((l.length : Int) == 17) = false := by simp; omega
          have HB : Hid (res = false) := Lib.hid (by rw [HR.out]; simp [h17, h7])
          clear h7 h17
          go_wp2
          go_ret
          exact ⟨by rw [HB.out]; rfl, rfl⟩

set_option maxHeartbeats 2000000 in
theorem nodes_any (l : List Nd) (v : Value) (hl : l.length ≤ 1048576) (w : World) (hs : SlAt encN 7 w v l) :
    Calls Tryz.prog 10 #[v] w (RetSl encN 7 125 l w) := by
  obtain ⟨A, c, rfl, hc, hm, hr⟩ := hs
  go_enter Tryz.func10, Tryz.ntmps10
  go_wp2
  go_loopw [8, 3] (fun i o wr => ∃ k : Nat, k ≤ l.length ∧ i = .int .i64 k ∧ Below w.heap.size w wr ∧ Own encN 7 w.heap.size 125 wr o (l.take k) ∧ Hid (l.take k = [] → o = .slice none 0 0)) (fun i _ _ => l.length - (intOf i).toNat)
  case atStart => exact ⟨0, Nat.zero_le _, rfl, Below.refl _ _, Own.nil _, fun _ => rfl⟩
  case round =>
    obtain ⟨k, hk, rfl, hb, ho, hnil⟩ := hrel
    by_cases hlt : k < l.length
    · obtain ⟨b, off, rfl, hbl, hcell⟩ := hr (by omega)
      have hx : l[k]? = some l[k] := List.getElem?_eq_getElem hlt
      have hts : l.take (k + 1) = l.take k ++ [l[k]] := List.take_succ_eq_append_getElem hlt
      generalize l[k] = x at hx hts
      obtain ⟨c0, c1, c2, c3, c4, c5, c6⟩ := nodeCells (fun i u hu => ext_cell hb (hcell k x hx i u hu))
      have hlt2 : (l.take k).length = k := by simp; omega
      generalize l.take k = ys at ho hnil hts hlt2
      have HTS := Lib.hid hts
      have HL := Lib.hid hlt2
      clear hcell hr hx hts hlt2
      have hbs := hb.size
      have hbX : Below w.heap.size w (wr.alloc (.cells (encN x).toArray 126)) := hb.alloc hbs _
      have hoX := ho.ext (ext_alloc wr (.cells (encN x).toArray 126))
      rw [show (encN x).toArray = #[.string x.name, .string x.parent, .int .i64 x.re, .int .i64 x.im, .int .i64 x.lim, .int .i64 x.cre, .int .i64 x.cim] from rfl] at hbX hoX
      have hbXs := hbX.size
      have hyl : ys.length ≤ 1048576 := by have := HL.out; omega
      go_wp2_with (at_builtin; refine own_append (w0 := w) rfl _ _ 29 _ 72 rfl Tryz.underlying29 infoN rfl (by decide) (by decide) encN_len _ ys x _ rfl rfl (by rw [World.size_alloc]; rfl) (by simp [encN, Value.oneCell']) hoX hbX hbXs (by omega) ?_; intro v1 w5 hown hbv hgv hnn)
      go_roundw
      case rel => exact ⟨k + 1, by omega, by go_num, hbv, by rw [HTS.out]; exact hown, fun h => by rw [HTS.out] at h; simp at h⟩
      case measure => simp [intOf]; omega
    · obtain rfl : k = l.length := by omega
      rw [List.take_of_length_le (Nat.le_refl _)] at ho hnil
      go_wp2
      go_ret
      exact ⟨_, rfl, ho, hb, hnil.out⟩
end Go.Proofs.YtlogjgmfkjjhjaaGreatDoor
namespace Go.Proofs.YtlogjgmfkjjhjaaGreatDoor
open Go.RowKit

theorem walkN_I (l : List Nd) : ∀ (f : Nat) (i : Int), walkN l f i = nodesAt l (walkI l f i)
  | 0, _ => rfl
  | f + 1, i => by
    unfold walkN walkI
    split
    · rw [walkN_I l f]; rfl
    · rfl
theorem Good.findI_self {l : List Nd} (h : Good l) {k : Nat} (hk : k < l.length) : findI l l[k].name = (k : Int) :=
  findI_at hk rfl fun j hj => h.uniq j k hk hj
theorem names_I (l : List Nd) (s : ByteArray) : namesN l s = (chainI l (findI l s)).map (nameAt l) := by
  unfold namesN chainN chainI
  rw [walkN_I]
  simp [nodesAt, nameAt]
theorem findI_iff {l : List Nd} (h : Good l) {s : ByteArray} (hs : 0 ≤ findI l s) {j : Int} (hj : 0 ≤ j ∧ j < l.length) : (s = nameAt l j) ↔ findI l s = j := by
  obtain ⟨j, rfl⟩ := Int.eq_ofNat_of_zero_le hj.1
  have hjl : j < l.length := by omega
  have hn : nameAt l (j : Int) = l[j].name := by simp [nameAt, hjl]
  constructor
  · rintro rfl
    rw [hn]
    exact h.findI_self hjl
  · intro e
    obtain ⟨k, e1, hk, h2, _⟩ := findI_ge hs
    have : k = j := by omega
    subst this
    rw [hn, h2]
theorem any_congr' {α : Type} {p q : α → Bool} {xs : List α} (h : ∀ x ∈ xs, p x = q x) : xs.any p = xs.any q := by
  induction xs with
  | nil => rfl
  | cons a r ih => rw [List.any_cons, List.any_cons, h a (by simp), ih fun x hx => h x (by simp [hx])]
theorem inChain_names {l : List Nd} (h : Good l) {s : ByteArray} (hs : 0 ≤ findI l s) {i : Nat} (hi : i < l.length) : hasS (namesN l l[i].name) s = inChain l (findI l s) i := by
  rw [names_I, h.findI_self hi]
  unfold hasS inChain
  rw [List.any_map]
  refine any_congr' fun j hj => ?_
  have := walkI_mem l _ _ (by omega) j hj
  simp only [Function.comp]
  rw [decide_eq_decide]
  exact findI_iff h hs this
theorem filter_pick {p : Nd → Bool} {q : Nat → Bool} : ∀ (l : List Nd) (k : Nat), k ≤ l.length → (∀ i (hi : i < l.length), i < k → p l[i] = q i) → (l.take k).filter p = nodesAt l (pickI q k)
  | l, 0, _, _ => rfl
  | l, k + 1, hk, h => by
    have hkl : k < l.length := by omega
    rw [List.take_succ_eq_append_getElem hkl, List.filter_append, filter_pick l k (by omega) (fun i hi hik => h i hi (by omega)), pickI_succ]
    unfold nodesAt
    rw [List.map_append]
    congr 1
    have := h k hkl (by omega)
    cases hq : q k
    · rw [hq] at this; simp [this]
    · rw [hq] at this; simp [this, hkl]
theorem branch_I {l : List Nd} (h : Good l) {s : ByteArray} (hs : 0 ≤ findI l s) : branchN l s = nodesAt l (branchI l (findI l s)) := by
  unfold branchN branchI
  have := filter_pick (p := fun n => hasS (namesN l n.name) s) (q := inChain l (findI l s)) l l.length (Nat.le_refl _) (fun i hi _ => inChain_names h hs hi)
  rw [List.take_of_length_le (Nat.le_refl _)] at this
  exact this
theorem branchNames_I {l : List Nd} (h : Good l) {s : ByteArray} (hs : 0 ≤ findI l s) : (branchN l s).map Nd.name = (branchI l (findI l s)).map (nameAt l) := by
  rw [branch_I h hs]
  simp [nodesAt, nameAt]
theorem currents_I {l : List Nd} (h : Good l) : currentsN l = (List.range l.length).map (curI l) := by
  unfold currentsN
  apply List.ext_getElem
  · simp
  · intro i h1 h2
    have hi : i < l.length := by simpa using h1
    simp only [List.getElem_map, List.getElem_range]
    unfold currentN curI
    have hf := h.findI_self hi
    rw [branch_I h (by rw [hf]; omega), hf]
end Go.Proofs.YtlogjgmfkjjhjaaGreatDoor
