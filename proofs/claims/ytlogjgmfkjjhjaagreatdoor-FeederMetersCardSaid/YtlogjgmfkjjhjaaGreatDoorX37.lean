/-
  The reference's Chain, Branch, Names.
  The reference's Currents and Short; the law's nodes.
-/
import Derived.Test.YtlogjgmfkjjhjaaGreatDoorX36
import Derived.Test.YtlogjgmfkjjhjaaGreatDoorX10
import Derived.Test.YtlogjgmfkjjhjaaGreatDoorX07
set_option linter.unusedSimpArgs false
set_option linter.unusedVariables false
namespace Go.Proofs.YtlogjgmfkjjhjaaGreatDoor
open Go.RowKit

/-- the indices of a chain -/
def walkI (l : List Nd) : Nat → Int → List Int
  | 0, _ => []
  | f + 1, i => if 0 ≤ i then i :: walkI l f (findI l (l.getD i.toNat default).parent) else []
def chainI (l : List Nd) (i : Int) : List Int := walkI l l.length i
theorem walkI_neg (l : List Nd) (f : Nat) (i : Int) (h : i < 0) : walkI l f i = [] := by
  cases f
  · rfl
  · rw [walkI, if_neg (by omega)]
theorem walkI_len (l : List Nd) : ∀ (f : Nat) (i : Int), (walkI l f i).length ≤ f
  | 0, _ => by simp [walkI]
  | f + 1, i => by
    unfold walkI
    split
    · have := walkI_len l f (findI l (l.getD i.toNat default).parent)
      simp only [List.length_cons]; omega
    · simp
theorem walkI_mem (l : List Nd) : ∀ (f : Nat) (i : Int), i < l.length → ∀ j ∈ walkI l f i, 0 ≤ j ∧ j < l.length
  | 0, _, _, j, hj => by simp [walkI] at hj
  | f + 1, i, hi, j, hj => by
    unfold walkI at hj
    split at hj
    · rcases List.mem_cons.1 hj with rfl | hj
      · omega
      · exact walkI_mem l f _ (findI_range l _).2 j hj
    · simp at hj
theorem Good.par {l : List Nd} (h : Good l) {k : Nat} (hk : k < l.length) : (l[k].parent.toList.isEmpty = true ∧ findI l l[k].parent = -1) ∨ (l[k].parent.toList.isEmpty = false ∧ 0 ≤ findI l l[k].parent ∧ findI l l[k].parent < (k : Int)) := by
  have ha := h.acyc k hk
  rw [show l.getD k default = l[k] from by simp [hk]] at ha
  rcases Int.lt_or_le (findI l l[k].parent) 0 with h0 | h0
  · left
    have h1 := (findI_range l l[k].parent).1
    refine ⟨?_, by omega⟩
    rcases Nat.eq_zero_or_pos k with rfl | hp
    · rw [isEmpty_str, h.root.1]; simp
    · obtain ⟨⟨j, hj, e⟩, _⟩ := h.rest k hk hp
      exact absurd e (findI_lt h0 _ (List.getElem_mem _))
  · right
    refine ⟨?_, h0, ha⟩
    obtain ⟨j, e, hj, h2, _⟩ := findI_ge h0
    rw [isEmpty_str]
    simp only [decide_eq_false_iff_not]
    intro e2
    rw [e2] at h2
    exact isName_ne (h.each j hj).name h2

theorem infoInt2 : (Tryz.prog.info? 3).map (fun i => (i.zero, i.size, i.bytes)) = some (some (.int .i64 0), 1, 8) := by kernel_rfl
theorem own_newI (w : World) (x : Int) : Own encI 1 w.heap.size 3 (w.alloc (.cells #[.int .i64 x] 3)) (.slice (some ⟨w.heap.size, 0, none⟩) 1 1) [x] :=
  ⟨by simp [encI], .inr ⟨w.heap.size, 1, _, rfl, Nat.le_refl _, heap_alloc_new w _, Nat.le_refl _, by unfold maxLen; omega, by simp, by simp [encI]⟩⟩

set_option maxHeartbeats 2000000 in
theorem rChain_any (l : List Nd) (v : Value) (i : Nat) (hg : Good l) (hi : i < l.length) (w : World) (hs : SlAt encN 7 w v l) :
    Calls Tryz.prog 18 #[v, .int .i64 (i : Int)] w (RetSl encI 1 3 (chainI l i) w) := by
  have hs0 := hs
  obtain ⟨A, c, rfl, hc, hm, hr⟩ := hs
  have h16 := hg.len1
  have hC : chainI l i = [] ++ walkI l l.length i := rfl
  have HC0 := Lib.hid hC
  generalize hres : chainI l i = res at hC HC0 ⊢
  clear hres hC
  have ho0 := own_newI w i
  have hB0 : Below w.heap.size w (w.alloc (.cells #[.int .i64 (i : Int)] 3)) := ext_alloc _ _
  obtain ⟨b, off, rfl, hbl, hcell⟩ := hr (by omega)
  clear hr
  go_enter Tryz.func18, Tryz.ntmps18
  go_wp2
  go_loopw [1, 5] (fun q o wr => ∃ (pre : List Int) (k f : Nat), q = .int .i64 (k : Int) ∧ k < l.length ∧ k < f ∧ Hid (pre.length + f = l.length) ∧ Hid (res = pre ++ walkI l f k) ∧ Below w.heap.size w wr ∧ Own encI 1 w.heap.size 3 wr o (pre ++ [(k : Int)])) (fun q _ _ => (intOf q).toNat)
  case atStart => exact ⟨[], i, l.length, rfl, hi, hi, by simp; exact Lib.hid trivial, HC0, hB0, ho0⟩
  case round =>
    obtain ⟨pre, k, f, rfl, hk, hkf, HPF, HC, hb, ho⟩ := hrel
    clear hB0 ho0 HC0
    obtain ⟨f, rfl⟩ : ∃ m, f = m + 1 := ⟨f - 1, by omega⟩
    have hx : l[k]? = some l[k] := List.getElem?_eq_getElem hk
    have c1 := ext_cell hb (hcell k _ hx 1 _ rfl)
    have hpar := hg.par hk
    have hfind := fun (W : World) (hW : Below w.heap.size w W) => rFind_any l _ l[k].parent W (hs0.ext hW)
    have hstep : walkI l (f + 1) (k : Int) = (k : Int) :: walkI l f (findI l l[k].parent) := by
      rw [walkI, if_pos (by omega)]
      congr 2
      simp [hk]
    generalize l[k].parent = p at c1 hpar hfind hstep
    have hst : res = (pre ++ [(k : Int)]) ++ walkI l f (findI l p) := by rw [HC.out, hstep]; simp
    have HST := Lib.hid hst
    clear hx hstep hst HC
    rcases hpar with ⟨he, hfi⟩ | ⟨he, hf0, hf1⟩
    · have hst : res = pre ++ [(k : Int)] := by rw [HST.out, walkI_neg l f _ (by omega)]; simp
      have HS := Lib.hid hst
      clear hst HST hfi hfind
      go_wp2
      go_ret
      exact ⟨_, rfl, by rw [HS.out]; exact ho, hb, fun h => by rw [HS.out] at h; simp at h⟩
    · generalize hj : findI l p = j at hf0 hf1 HST hfind
      have HJ := Lib.hid hj
      clear hj
      obtain ⟨j, rfl⟩ := Int.eq_ofNat_of_zero_le hf0
      have hbs := hb.size
      have hpl : pre.length ≤ 16 := by have := HPF.out; omega
      go_wp2_with (first
        | (go_at_call 16; refine (hfind _ hb).mono ?_; rintro e w1 ⟨rfl, rfl⟩)
        | (at_builtin; refine own_append (w0 := w) rfl _ _ 38 (.int .i64 0) 8 rfl Tryz.underlying38 infoInt2 rfl (by decide) (by decide) encI_len _ (pre ++ [(k : Int)]) (j : Int) _ rfl rfl rfl (by simp [encI, Value.oneCell']) ho hb hbs (by simp; omega) ?_; intro v1 w5 hown hbv hgv hnn))
      exact ⟨⟨pre ++ [(k : Int)], j, f, rfl, by omega, by omega, Lib.hid (by have := HPF.out; simp; omega), HST, hbv, hown⟩, by simp [intOf]; omega⟩

/-- the indices at which p holds -/
def pickI (p : Nat → Bool) (n : Nat) : List Int := (List.range n).flatMap fun i => if p i then [(i : Int)] else []
theorem pickI_succ (p : Nat → Bool) (n : Nat) : pickI p (n + 1) = pickI p n ++ (if p n then [(n : Int)] else []) := by simp [pickI, List.range_succ]
theorem pickI_len (p : Nat → Bool) (n : Nat) : (pickI p n).length ≤ n := by
  induction n with
  | zero => simp [pickI]
  | succ n ih => rw [pickI_succ, List.length_append]; split <;> simp <;> omega
theorem pickI_mem (p : Nat → Bool) (n : Nat) {j : Int} (h : j ∈ pickI p n) : ∃ k : Nat, j = (k : Int) ∧ k < n ∧ p k = true := by
  unfold pickI at h
  obtain ⟨k, hk, hj⟩ := List.mem_flatMap.1 h
  rw [List.mem_range] at hk
  split at hj
  · rename_i hp
    simp only [List.mem_singleton] at hj
    exact ⟨k, hj, hk, hp⟩
  · simp at hj
def inChain (l : List Nd) (k : Int) (i : Nat) : Bool := (chainI l i).any fun x => decide (k = x)
def branchI (l : List Nd) (k : Int) : List Int := pickI (inChain l k) l.length

set_option maxHeartbeats 2000000 in
theorem rBranch_any (l : List Nd) (v : Value) (q : Int) (hg : Good l) (w : World) (hs : SlAt encN 7 w v l) :
    Calls Tryz.prog 19 #[v, .int .i64 q] w (RetSl encI 1 3 (branchI l q) w) := by
  have hs0 := hs
  obtain ⟨A, c, rfl, hc, hm, hr⟩ := hs
  have h16 := hg.len1
  clear hr
  have hchain := fun (k : Nat) (hk : k < l.length) (W : World) (hW : Below w.heap.size w W) => rChain_any l _ k hg hk W (hs0.ext hW)
  have hres : branchI l q = pickI (inChain l q) l.length := rfl
  have HRES := Lib.hid hres
  clear hres
  go_enter Tryz.func19, Tryz.ntmps19
  go_wp2
  go_loopw [6, 5] (fun i o wr => ∃ k : Nat, k ≤ l.length ∧ i = .int .i64 k ∧ Below w.heap.size w wr ∧ Own encI 1 w.heap.size 3 wr o (pickI (inChain l q) k) ∧ Hid (pickI (inChain l q) k = [] → o = .slice none 0 0)) (fun i _ _ => l.length - (intOf i).toNat)
  case atStart => exact ⟨0, Nat.zero_le _, rfl, Below.refl _ _, Own.nil _, fun _ => rfl⟩
  case round =>
    obtain ⟨k, hk, rfl, hb, ho, hnil⟩ := hrel
    by_cases hlt : k < l.length
    · have hch := hchain k hlt _ hb
      have hst := pickI_succ (inChain l q) k
      have hpl := pickI_len (inChain l q) k
      have hic : inChain l q k = (chainI l k).any fun x => decide (q = x) := rfl
      generalize chainI l k = ch at hch hic
      generalize pickI (inChain l q) k = ys at ho hnil hst hpl
      generalize inChain l q k = pk at hst hic
      have HST := Lib.hid hst
      have hany := fun (v : Value) (W : World) (h : SlAt encI 1 W v ch) => hasInt_any ch v q W h
      rw [← hic] at hany
      clear hst hic hchain
      cases pk
      · go_wp2_with (first
          | (go_at_call 18; refine hch.mono ?_; rintro e w1 ⟨v1, rfl, ho1, hb1, hn1⟩; have hsl := ho1.slat encI_len; have ho2 := ho.ext hb1)
          | (go_at_call 79; refine (hany _ _ hsl).mono ?_; rintro e w2 ⟨rfl, rfl⟩))
        go_roundw
        case rel => exact ⟨k + 1, by omega, by go_num, ext_trans hb hb1, by rw [HST.out]; simpa using ho2, fun h => by rw [HST.out] at h; exact hnil.out (by simpa using h)⟩
        case measure => simp [intOf]; omega
      · go_wp2_with (first
          | (go_at_call 18; refine hch.mono ?_; rintro e w1 ⟨v1, rfl, ho1, hb1, hn1⟩; have hsl := ho1.slat encI_len; have ho2 := ho.ext hb1; have hbT := ext_trans hb hb1; have hbTs := hbT.size)
          | (go_at_call 79; refine (hany _ _ hsl).mono ?_; rintro e w2 ⟨rfl, rfl⟩)
          | (at_builtin; refine own_append (w0 := w) rfl _ _ 38 (.int .i64 0) 8 rfl Tryz.underlying38 infoInt2 rfl (by decide) (by decide) encI_len _ ys (k : Int) _ rfl rfl rfl (by simp [encI, Value.oneCell']) ho2 hbT hbTs (by omega) ?_; intro v1 w5 hown hbv hgv hnn))
        go_roundw
        case rel => exact ⟨k + 1, by omega, by go_num, hbv, by rw [HST.out]; exact hown, fun h => by rw [HST.out] at h; simp at h⟩
        case measure => simp [intOf]; omega
    · obtain rfl : k = l.length := by omega
      go_wp2
      go_ret
      exact ⟨_, rfl, by rw [HRES.out]; exact ho, hb, by rw [HRES.out]; exact hnil.out⟩

/-- the names of nodes -/
def nameAt (l : List Nd) (j : Int) : ByteArray := (l.getD j.toNat default).name
set_option maxHeartbeats 2000000 in
theorem rNames_any (l : List Nd) (v vi : Value) (xs : List Int) (hin : ∀ j ∈ xs, 0 ≤ j ∧ j < l.length) (hx16 : xs.length ≤ 1048576) (w : World) (hs : SlAt encN 7 w v l) (hi : SlAt encI 1 w vi xs) :
    Calls Tryz.prog 17 #[v, vi] w (RetSl encS 1 9 (xs.map (nameAt l)) w) := by
  obtain ⟨A, c, rfl, hc, hm, hr⟩ := hs
  obtain ⟨A', c', rfl, hc', hm', hr'⟩ := hi
  have hlen : l.length ≤ 9223372036854775807 := by omega
  generalize hres : xs.map (nameAt l) = res
  have HRES := Lib.hid hres
  clear hres
  go_enter Tryz.func17, Tryz.ntmps17
  go_wp2
  go_loopw [6, 5] (fun i o wr => ∃ k : Nat, k ≤ xs.length ∧ i = .int .i64 k ∧ Below w.heap.size w wr ∧ Own encS 1 w.heap.size 9 wr o ((xs.take k).map (nameAt l)) ∧ Hid ((xs.take k).map (nameAt l) = [] → o = .slice none 0 0)) (fun i _ _ => xs.length - (intOf i).toNat)
  case atStart => exact ⟨0, Nat.zero_le _, rfl, Below.refl _ _, Own.nil _, fun _ => rfl⟩
  case round =>
    obtain ⟨k, hk, rfl, hb, ho, hnil⟩ := hrel
    by_cases hlt : k < xs.length
    · obtain ⟨b2, o2, rfl, hbl2, hcell2⟩ := hr' (by omega)
      have hx : xs[k]? = some xs[k] := List.getElem?_eq_getElem hlt
      have hts := map_take_succ (nameAt l) xs k hlt
      obtain ⟨h0, h1⟩ := hin xs[k] (List.getElem_mem hlt)
      have x0 := ext_cell hb (hcell2 k _ hx 0 _ rfl)
      rw [Nat.add_zero, Nat.mul_one] at x0
      generalize xs[k] = j at hx hts h0 h1 x0
      obtain ⟨j, rfl⟩ := Int.eq_ofNat_of_zero_le h0
      have hjl : j < l.length := by omega
      obtain ⟨b, off, rfl, hbl, hcell⟩ := hr (by omega)
      have hy : l[j]? = some l[j] := List.getElem?_eq_getElem hjl
      have c0 := ext_cell hb (hcell j _ hy 0 _ rfl)
      rw [Nat.add_zero] at c0
      have hnm : nameAt l (j : Int) = l[j].name := by simp [nameAt, hjl]
      rw [hnm] at hts
      generalize l[j].name = nm at c0 hts
      have hlt2 : ((xs.take k).map (nameAt l)).length = k := by simp; omega
      have HTS := Lib.hid hts
      have HL := Lib.hid hlt2
      clear hcell hcell2 hr hr' hx hy hts hlt2 hnm hin
      generalize (xs.take k).map (nameAt l) = ys at ho hnil HTS HL
      have hbs := hb.size
      have hyl : ys.length ≤ 1048576 := by have := HL.out; omega
      go_wp2_with (at_builtin; refine own_append (w0 := w) rfl _ _ 25 (.string ByteArray.empty) 16 rfl Tryz.underlying25 infoS rfl (by decide) (by decide) encS_len _ ys nm _ rfl rfl rfl (by simp [encS, Value.oneCell']) ho hb hbs (by omega) ?_; intro v1 w5 hown hbv hgv hnn)
      go_roundw
      case rel => exact ⟨k + 1, by omega, by go_num, hbv, by rw [HTS.out]; exact hown, fun h => by rw [HTS.out] at h; simp at h⟩
      case measure => simp [intOf]; omega
    · obtain rfl : k = xs.length := by omega
      rw [List.take_of_length_le (Nat.le_refl _)] at ho hnil
      go_wp2
      go_ret
      exact ⟨_, rfl, by rw [← HRES.out]; exact ho, hb, by rw [← HRES.out]; exact hnil.out⟩
end Go.Proofs.YtlogjgmfkjjhjaaGreatDoor
namespace Go.Proofs.YtlogjgmfkjjhjaaGreatDoor
open Go.RowKit

def nodesAt (l : List Nd) (xs : List Int) : List Nd := xs.map fun j => l.getD j.toNat default
theorem branchI_mem {l : List Nd} {q : Int} : ∀ j ∈ branchI l q, 0 ≤ j ∧ j < l.length := fun j hj => by
  obtain ⟨k, rfl, hk, _⟩ := pickI_mem _ _ hj
  omega
def curI (l : List Nd) (i : Nat) : Int × Int := sumG (nodesAt l (branchI l i))
theorem nodesAt_take (l : List Nd) (xs : List Int) (k : Nat) : nodesAt l (xs.take k) = (nodesAt l xs).take k := by simp [nodesAt]

set_option maxHeartbeats 8000000 in
theorem rCurrents_any (l : List Nd) (v : Value) (hg : Good l) (w : World) (hs : SlAt encN 7 w v l) :
    Calls Tryz.prog 20 #[v] w (RetSl encG 2 97 ((List.range l.length).map (curI l)) w) := by
  have hs0 := hs
  obtain ⟨A, c, rfl, hc, hm, hr⟩ := hs
  have h16 := hg.len1
  have hbranch := fun (k : Nat) (W : World) (hW : Below w.heap.size w W) => rBranch_any l _ k hg W (hs0.ext hW)
  generalize hres : (List.range l.length).map (curI l) = res
  have HRES := Lib.hid hres
  have hcurL := hg.curL
  clear hres hg
  go_enter Tryz.func20, Tryz.ntmps20
  go_wp2
  go_loopw [4, 3] (fun i o wr => ∃ k : Nat, k ≤ l.length ∧ i = .int .i64 k ∧ Below w.heap.size w wr ∧ Own encG 2 w.heap.size 97 wr o ((List.range k).map (curI l)) ∧ Hid ((List.range k).map (curI l) = [] → o = .slice none 0 0)) (fun i _ _ => l.length - (intOf i).toNat)
  case atStart => exact ⟨0, Nat.zero_le _, rfl, Below.refl _ _, Own.nil _, fun _ => rfl⟩
  case round =>
    obtain ⟨k, hk, rfl, hb, ho, hnil⟩ := hrel
    by_cases hlt : k < l.length
    · rename World => wo
      have hbs := hb.size
      have hbX : Below w.heap.size w (wo.alloc (.cells (encG (0, 0)).toArray 97)) := hb.alloc hbs _
      have hrow := RowC.new encG_len wo 97 (0, 0)
      have hoX := ho.ext (ext_alloc wo (.cells (encG (0, 0)).toArray 97))
      have hbr := hbranch k _ hbX
      have hst := range_map_succ (curI l) k
      have hck : curI l k = sumG (nodesAt l (branchI l k)) := rfl
      have hbm : ∀ j ∈ branchI l k, 0 ≤ j ∧ j < l.length := branchI_mem
      have hbl : (branchI l k).length ≤ 16 := Nat.le_trans (pickI_len _ _) h16
      have hyl : ((List.range k).map (curI l)).length = k := by simp
      generalize branchI l k = xs at hbr hck hbm hbl
      generalize (List.range k).map (curI l) = ys at ho hoX hnil hst hyl
      rw [hck] at hst
      have HST := Lib.hid hst
      have HYL := Lib.hid hyl
      have hsz : (wo.alloc (.cells (encG (0, 0)).toArray 97)).heap.size = wo.heap.size + 1 := World.size_alloc _ _
      clear hst hck hbranch hyl
      rw [show (encG (0, 0)).toArray = #[Value.int .i64 0, Value.int .i64 0] from rfl] at hbX hrow hoX hbr hsz
      go_wp2_with (go_at_call 19; refine hbr.mono ?_; rintro e w1 ⟨v1, rfl, ho1, hb1, hn1⟩; have hsl := ho1.slat encI_len; obtain ⟨A1, c1, rfl⟩ := ho1.slice; have hbase := ho1.base_le; have ho2 := hoX.ext hb1; have hrow1 := hrow.ext hb1; have hbT := ext_trans hbX hb1)
      clear hbr hrow hoX ho1 hn1 hbX
      obtain ⟨A', c', e', hc1', hc2', hr'⟩ := hsl
      cases e'
      have hbT0 := hb1.size
      rw [hsz] at hbT0
      clear hb1 hsz
      go_loopw [7] (fun i wr => ∃ m : Nat, m ≤ xs.length ∧ i = .int .i64 m ∧ RowC encG 2 wo.heap.size 0 wr [sumG ((nodesAt l xs).take m)] ∧ Below wo.heap.size w1 wr ∧ (∀ j, j ≠ wo.heap.size → j < w1.heap.size → wr.heap[j]? = w1.heap[j]?)) (fun i _ => xs.length - (intOf i).toNat)
      case atStart => exact ⟨0, Nat.zero_le _, rfl, hrow1, Below.refl _ _, fun _ _ _ => rfl⟩
      case round =>
        obtain ⟨m, hm, rfl, hrw, hbw, hoth⟩ := hrel
        by_cases hlt2 : m < xs.length
        · obtain ⟨b2, o2, rfl, hbl2, hcell2⟩ := hr' (by omega)
          have hx : xs[m]? = some xs[m] := List.getElem?_eq_getElem hlt2
          obtain ⟨h0, h1⟩ := hbm xs[m] (List.getElem_mem hlt2)
          have x0 := hcell2 m _ hx 0 _ rfl
          rw [Nat.add_zero, Nat.mul_one] at x0
          have hny : (nodesAt l xs)[m]'(by simpa [nodesAt] using hlt2) = l.getD xs[m].toNat default := by simp [nodesAt]
          have hst2 := sumG_take (nodesAt l xs) m (by simpa [nodesAt] using hlt2)
          rw [hny] at hst2
          have hml : ((nodesAt l xs).take m).length ≤ 16 := by simp [nodesAt]; omega
          have hcl : CurLe 1000 ((nodesAt l xs).take m) := fun y hy => by
            obtain ⟨j, hj, rfl⟩ := List.mem_map.1 (List.mem_of_mem_take hy)
            have := hbm j hj
            have hjl : j.toNat < l.length := by omega
            rw [List.getD_eq_getElem?_getD, List.getElem?_eq_getElem hjl]
            exact hcurL _ (List.getElem_mem hjl)
          obtain ⟨z1, z2, z3, z4⟩ := sumG_le (m := 1000) (by omega) _ hcl
          generalize xs[m] = j at hx h0 h1 x0 hst2
          obtain ⟨j, rfl⟩ := Int.eq_ofNat_of_zero_le h0
          have hjl : j < l.length := by omega
          obtain ⟨b, off, rfl, hbl0, hcell⟩ := hr (by omega)
          have hy : l[j]? = some l[j] := List.getElem?_eq_getElem hjl
          rw [show l.getD ((j : Int)).toNat default = l[j] from by simp [hjl]] at hst2
          have c5 := hcell j _ hy 5 _ rfl
          have c6 := hcell j _ hy 6 _ rfl
          obtain ⟨y1, y2, y3, y4⟩ := hcurL l[j] (List.getElem_mem hjl)
          generalize l[j] = y at hy hst2 c5 c6 y1 y2 y3 y4
          generalize sumG ((nodesAt l xs).take m) = z at hrw hst2 z1 z2 z3 z4
          have hb2e : wo.heap.size + 1 ≤ b2 := by
            have := hbase b2 rfl
            rw [World.size_alloc] at this
            exact this
          have hne2 : b2 ≠ wo.heap.size := by omega
          have hne : b ≠ wo.heap.size := by omega
          have x0r : wr.cell? ⟨b2, o2 + m, none⟩ = some (.int .i64 (j : Int)) := (World.cell?_of_block (hoth b2 hne2 hbl2)).trans x0
          have hb5 : b < w1.heap.size := by omega
          have c5r : wr.cell? ⟨b, off + j * 7 + 5, none⟩ = some (.int .i64 y.cre) := (World.cell?_of_block (hoth b hne hb5)).trans (ext_cell hbT c5)
          have c6r : wr.cell? ⟨b, off + j * 7 + 6, none⟩ = some (.int .i64 y.cim) := (World.cell?_of_block (hoth b hne hb5)).trans (ext_cell hbT c6)
          have hbR : Below w.heap.size w wr := hbT.trans (hbw.mono hbs)
          have HST2 := Lib.hid hst2
          obtain ⟨g0, g1⟩ := hrw.g0
          have hrwd : RowC encG 2 wo.heap.size 0 wr.drew [z] := hrw
          have g0d : wr.drew.cell? ⟨wo.heap.size, 0, none⟩ = some (.int .i64 z.1) := g0
          have g1d : wr.drew.cell? ⟨wo.heap.size, 1, none⟩ = some (.int .i64 z.2) := g1
          have hbwd : Below wo.heap.size w1 wr.drew := hbw.drew
          have hothd : ∀ j, j ≠ wo.heap.size → j < w1.heap.size → wr.drew.heap[j]? = w1.heap[j]? := hoth
          have hwrs := hbw.size
          have hwo : wo.heap.size ≤ wr.heap.size := by omega
          have HOTHD := Lib.hid hothd
          have C5 := Lib.hid c5r
          clear hoth hothd
          clear hst2 hx hy hcell hcell2 hr hr' hcl hny hbm x0 c5 c6 hbase h0 h1
          go_wp2
          refine wp_region_plan (fun w' => w'.cell? ⟨b2, o2 + m, none⟩ = some (.int .i64 (j : Int)) ∧ w'.cell? ⟨b, off + j * 7 + 5, none⟩ = some (.int .i64 y.cre) ∧ w'.cell? ⟨b, off + j * 7 + 6, none⟩ = some (.int .i64 y.cim) ∧ Below w.heap.size w w') [0, 9, 10] [1, 2, 3, 4, 5, 6, 7, 8, 0, 9, 10] (by kernel_rfl) (by kernel_rfl) (by ((first | assumption | exact keep3 (by assumption) (by assumption) | exact keep3 (by assumption) (ext_alloc _ _) | exact keep3 (by assumption) (ext_drew _) | exact keep3 ⟨by assumption, by assumption, by assumption, by assumption⟩ (ext_drew _) | go_keep))) (fun hSw => ?_)
          repeat (first
            | (refine wpPlan_pas rfl rfl (fun K hK => ?_)
               apply Exists.intro
               refine ⟨?_, ?_⟩
               · first | exact pasOk_no rfl | (apply pasOk_yes rfl; intro wS hS; obtain ⟨s0, s1, s2, s3⟩ := hS; go_simp; first | done | exact rfl | ((try simp only [↓IntWalk.iteOmega]); (try go_bits); (try go_simp); first | done | exact rfl))
               go_simp
               refine hK _ ?_
               clear hK K)
            | (refine wpPlan_no rfl rfl rfl (by assumption) (fun K hK => ?_)
               go_simp
               refine hK _ ?_
               clear hK K)
            | (refine wpPlan_act rfl rfl rfl (fun K hK => ?_)
               go_wp2_with (first | (go_at_call 80; refine (rPlus_any z.1 z.2 y.cre y.cim _ (by omega) (by omega) (by omega) (by omega)).mono ?_; rintro e w2 ⟨rfl, hb2⟩; have hrw2 := hrwd.ext hb2; have hbw2 := hbwd.trans (hb2.mono hwo); have hoth2 : Hid (∀ j, j ≠ wo.heap.size → j < w1.heap.size → w2.heap[j]? = w1.heap[j]?) := fun j hj hl => (hb2.block j (Nat.lt_of_lt_of_le hl hwrs)).trans (HOTHD.out j hj hl)) | (refine wpList_store_row2 rfl 97 _ _ rfl encG_len encG_one sizeG 0 (z.1 + y.cre, z.2 + y.cim) hrw2 (by simp) rfl _ rfl rfl ?_; intro w3 hrs3 hb3 hz3 ho3; have hS9 : _ ∧ _ ∧ _ ∧ _ := ⟨(World.cell?_of_block (ho3 b2 hne2)).trans hSw.1, (World.cell?_of_block (ho3 b hne)).trans hSw.2.1, (World.cell?_of_block (ho3 b hne)).trans hSw.2.2.1, hSw.2.2.2.trans (hb3.mono hbs)⟩))
               refine OnlyK.go (hK _ _ (by ((first | assumption | exact keep3 (by assumption) (by assumption) | exact keep3 (by assumption) (ext_alloc _ _) | exact keep3 (by assumption) (ext_drew _) | exact keep3 ⟨by assumption, by assumption, by assumption, by assumption⟩ (ext_drew _) | go_keep))) (fun hSw => ?_))
               clear hK K))
          refine wpPlan_nil ?_
          have HO3 := Lib.hid ho3
          clear hS9 hSw ho3
          go_wp2
          go_roundw
          case rel => exact ⟨m + 1, by omega, by go_num, by rw [HST2.out]; exact hrs3, hbw2.trans hb3, fun j hj hl => (HO3.out j hj).trans (hoth2.out j hj hl)⟩
          case measure => simp [intOf]; omega
        · obtain rfl : m = xs.length := by omega
          rw [List.take_of_length_le (by simp [nodesAt])] at hrw
          have hg12 : w1.grownBy wr (some wo.heap.size) := ⟨hbw.os, hbw.tape, hbw.output, hbw.size, fun i hi hne => hoth i (fun e => hne (by rw [e])) hi⟩
          have ho3 := ho2.kept hg12 (.inr fun e => ho.ne (.inr (Nat.le_refl _)) e.symm)
          have hbR : Below w.heap.size w wr := hbT.trans (hbw.mono hbs)
          have hbRs := hbR.size
          obtain ⟨g0, g1⟩ := hrw.g0
          generalize hz : sumG (nodesAt l xs) = z at hrw g0 g1 HST
          clear hz hg12 hoth
          have hyl2 : ys.length ≤ 16 := by have := HYL.out; omega
          go_wp2_with (at_builtin; refine own_append (w0 := w) rfl _ _ 31 (.agg #[.int .i64 0, .int .i64 0]) 16 rfl Tryz.underlying31 infoG rfl (by decide) (by decide) encG_len _ ys z _ rfl rfl rfl (by simp [encG, Value.oneCell']) ho3 hbR hbRs (by omega) ?_; intro v1 w5 hown hbv hgv hnn)
          go_roundw
          case rel => exact ⟨k + 1, by omega, by go_num, hbv, by rw [HST.out]; exact hown, fun h => by rw [HST.out] at h; simp at h⟩
          case measure => simp [intOf]; omega
    · obtain rfl : k = l.length := by omega
      go_wp2
      go_ret
      exact ⟨_, rfl, by rw [← HRES.out]; exact ho, hb, by rw [← HRES.out]; exact hnil.out⟩
end Go.Proofs.YtlogjgmfkjjhjaaGreatDoor
