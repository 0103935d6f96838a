/-
  feeder.Print.
  feeder.number.
-/
import Derived.Test.YtlogjgmfkjjhjaaGreatDoorX20
import Derived.Lib.ItoaLen
import Derived.Test.YtlogjgmfkjjhjaaGreatDoorX11
set_option linter.unusedSimpArgs false
set_option linter.unusedVariables false
namespace Go.Proofs.YtlogjgmfkjjhjaaGreatDoor
open Go.RowKit

theorem builder_ext {T e : TypeId} {B b : Nat} {bs : List Value} {w w1 : World} (h : Lib.IsBuilder T e B b bs w) (hb : Below w.heap.size w w1) : Lib.IsBuilder T e B b bs w1 := by
  have go : ∀ p, Lib.BuilderAt T e B b p bs w → Lib.BuilderAt T e B b p bs w1 := fun p ⟨hB, v, hh, ho, hne⟩ =>
    ⟨hB, v, (hb.block b (Array.getElem?_eq_some_iff.1 hh).1).trans hh, World.ownsRow.kept ho (row := none) ⟨hb.os, hb.tape, hb.output, hb.size, fun i hi _ => hb.block i hi⟩ (by cases v.ownBlock <;> simp), hne⟩
  rcases h with h | h
  · exact .inl (go _ h)
  · exact .inr (go _ h)
/-- WriteString: the library's contract, laid with strings.Join's own -/
theorem writeString_any (B b : Nat) (bs : List Value) (s : ByteArray) (w : World) (h : Lib.IsBuilder 198 5 B b bs w) (hlen : bs.length + s.size ≤ 140737488355328) (hBw : B ≤ w.heap.size) :
    Calls Tryz.prog 125 #[.pointer (some ⟨b, 0, none⟩), .string s] w fun e w' => e = .returned (.tuple #[.int .i64 s.size, .nilIface]) ∧ (Lib.BuilderAt 198 5 B b (.pointer (some ⟨b, 0, none⟩)) (bs ++ Lib.strCells s) w' ∧ Below B w w') :=
  Any.Builder_WriteString { Tryz.lays156 with } Tryz.Builder_Extra_156 B b bs s w h hlen hBw
theorem Good.name24 {l : List Nd} (h : Good l) : ∀ n ∈ l, n.name.size ≤ 24 := fun n hn => by
  have := (h.mem hn).name
  unfold isNameB at this
  simp only [Bool.and_eq_true, decide_eq_true_eq] at this
  exact this.2
theorem Good.parent24 {l : List Nd} (h : Good l) : ∀ n ∈ l, n.parent.size ≤ 24 := fun n hn => by
  obtain ⟨j, hj, rfl⟩ := List.getElem_of_mem hn
  rcases Nat.eq_zero_or_pos j with rfl | h0
  · rw [h.root.1]; decide
  · obtain ⟨⟨i, hi, e⟩, _⟩ := h.rest j hj h0
    rw [← e]
    exact h.name24 _ (List.getElem_mem _)

def dashB : ByteArray := ⟨#[45]⟩
def parB (n : Nd) : ByteArray := if n.parent.toList.isEmpty then dashB else n.parent
def intsN (n : Nd) : List Int := [n.re, n.im, n.lim, n.cre, n.cim]
def partsB (n : Nd) : List ByteArray := [⟨#[110, 111, 100, 101]⟩, n.name, parB n] ++ (intsN n).map itoaB
def lineL (n : Nd) : List UInt8 := Lib.join ((partsB n).map (·.data.toList)) [32]
def printGo (l : List Nd) : List UInt8 := l.flatMap fun n => lineL n ++ [10]
def printN (l : List Nd) : ByteArray := ⟨(printGo l).toArray⟩
def printR (l : List Nd) : ByteArray × Int := if checkNodesV l ≠ 0 then (ByteArray.empty, checkNodesV l) else (printN l, 0)
theorem itoaB_len (n : Int) (h0 : -9223372036854775808 ≤ n) (h1 : n ≤ 9223372036854775807) : (itoaB n).data.toList.length ≤ 21 := by
  have := Lib.itoa_length_le n h0 h1
  simpa [itoaB] using this
theorem lineL_len (n : Nd) (hn : n.name.size ≤ 24) (hp : n.parent.size ≤ 24) (hok : NodeOk n) : (lineL n).length ≤ 200 := by
  have a1 := itoaB_len n.re (by have := hok.re0; omega) (by have := hok.re1; omega)
  have a2 := itoaB_len n.im (by have := hok.im0; omega) (by have := hok.im1; omega)
  have a3 := itoaB_len n.lim (by have := hok.lim0; omega) (by have := hok.lim1; omega)
  have a4 := itoaB_len n.cre (by have := hok.cre0; omega) (by have := hok.cre1; omega)
  have a5 := itoaB_len n.cim (by have := hok.cim0; omega) (by have := hok.cim1; omega)
  have h1 : n.name.data.toList.length ≤ 24 := by simpa using hn
  have h2 : (parB n).data.toList.length ≤ 24 := by
    unfold parB
    split
    · decide
    · simpa using hp
  unfold lineL partsB intsN Lib.join
  simp only [List.map_cons, List.map_nil, List.cons_append, List.nil_append, List.intercalate, List.intersperse, List.flatten_cons, List.flatten_nil, List.length_append, List.length_cons, List.length_nil]
  generalize (itoaB n.re).data.toList.length = q1 at *
  generalize (itoaB n.im).data.toList.length = q2 at *
  generalize (itoaB n.lim).data.toList.length = q3 at *
  generalize (itoaB n.cre).data.toList.length = q4 at *
  generalize (itoaB n.cim).data.toList.length = q5 at *
  generalize n.name.data.toList.length = q6 at *
  generalize (parB n).data.toList.length = q7 at *
  omega

def partsP (x : Nd) (p : ByteArray) : List ByteArray := [⟨#[110, 111, 100, 101]⟩, x.name, p] ++ (intsN x).map itoaB
theorem own_lit (w : World) (xs : List ByteArray) (hm : xs.length ≤ 1048576) : (w.alloc (.cells (xs.map Value.string).toArray 9)).ownsRow w.heap.size 9 1 (.slice (some ⟨w.heap.size, 0, none⟩) xs.length xs.length) xs.length (xs.flatMap encS) := by
  have e : xs.flatMap encS = xs.map Value.string := by
    clear hm
    induction xs with
    | nil => rfl
    | cons a r ih => rw [List.flatMap_cons, ih]; rfl
  refine ⟨by rw [e]; simp, .inr ⟨w.heap.size, xs.length, _, rfl, Nat.le_refl _, heap_alloc_new w _, Nat.le_refl _, by unfold maxLen; omega, by simp, ?_⟩⟩
  rw [e]
  simp [List.take_of_length_le]
theorem partsB_eq (n : Nd) : partsB n = partsP n (parB n) := rfl
theorem own8 {base : Nat} {w : World} {v : Value} {x : Nd} {p : ByteArray} (h : w.ownsRow base 9 1 v (3 + ((intsN x).map itoaB).length) ([⟨#[110, 111, 100, 101]⟩, x.name, p].flatMap encS ++ ((intsN x).map itoaB).flatMap encS)) : Own encS 1 base 9 w v (partsP x p) := by
  unfold Own partsP
  rw [List.length_append, List.flatMap_append]
  exact h
theorem jn_size (L : List UInt8) : ((⟨L.toArray⟩ : ByteArray) ++ ⟨#[10]⟩).size = L.length + 1 := by simp [ByteArray.size_append]; rfl
theorem jn_list (L : List UInt8) : ((⟨L.toArray⟩ : ByteArray) ++ ⟨#[10]⟩).data.toList = L ++ [10] := by simp
theorem ba_append_toList (a b : ByteArray) : (a ++ b).data.toList = a.data.toList ++ b.data.toList := by simp


set_option maxHeartbeats 8000000 in
theorem Print_any (v : Value) (l : List Nd) (w : World) (hs : SlAt encN 7 w v l) (hok : Names l) (henv : Env w) :
    Calls Tryz.prog 67 #[v] w fun e w' => e = .returned (.tuple #[.string (printR l).1, .int .i64 (printR l).2]) ∧ Below w.heap.size w w' := by
  have hsw := hs
  obtain ⟨A, c, rfl, hc1, hc2, hr⟩ := hs
  have hc := checkNodes_any l _ w hsw hok
  have hz : checkNodesV l = 0 → _ := good_of
  have hV : printR l = if checkNodesV l ≠ 0 then (ByteArray.empty, checkNodesV l) else (printN l, 0) := rfl
  have ei := enters_of Tryz.func124 (by kernel_rfl) rfl
  rw [hV]
  clear hV
  generalize checkNodesV l = e0 at hc hz ⊢
  go_enter Tryz.func67, Tryz.ntmps67
  cases hq : (e0 != 0)
  · obtain rfl : e0 = 0 := by simpa using hq
    rw [if_neg (by simp)]
    have hg := hz rfl
    have hg24 := hg.name24
    have hp24 := hg.parent24
    have hmem := fun x (hx : x ∈ l) => hg.mem hx
    have hln := hg.len1
    generalize hres : printN l = res
    have HRES := Lib.hid hres
    clear hres hz hg
    go_wp2_with (go_at_call 21; refine hc.mono ?_; rintro e wA ⟨rfl, hbA⟩)
    have hbd : Lib.IsBuilder 198 5 wA.heap.size wA.heap.size [] (wA.alloc (.cells #[.pointer none, .slice none 0 0] 198)) :=
      .inl ⟨Nat.le_refl _, .slice none 0 0, World.alloc_heap_new wA _, World.ownsRow_nil _ _ _ _, by simp [Value.ownBlock]⟩
    have hb0 : Below wA.heap.size wA (wA.alloc (.cells #[.pointer none, .slice none 0 0] 198)) := ext_alloc _ _
    generalize World.alloc wA _ = wB at hbd hb0 ⊢
    go_loopw [17] (fun i wr => ∃ k : Nat, k ≤ l.length ∧ i = .int .i64 k ∧ Below wA.heap.size wA wr ∧ Lib.IsBuilder 198 5 wA.heap.size wA.heap.size (Lib.byteCells (printGo (l.take k))) wr ∧ (printGo (l.take k)).length ≤ 201 * k) (fun i _ => l.length - (intOf i).toNat)
    case atStart => exact ⟨0, Nat.zero_le _, rfl, hb0, hbd, by simp [printGo]⟩
    case round =>
      obtain ⟨k, hk, rfl, hb, hbd, hlb⟩ := hrel
      have hbw := ext_trans hbA hb
      by_cases hlt : k < l.length
      · obtain ⟨b1, o1, rfl, hbl1, hcell1⟩ := hr (by omega)
        have hx1 : l[k]? = some l[k] := List.getElem?_eq_getElem hlt
        obtain ⟨c0, c1, c2, c3, c4, c5, c6⟩ := nodeCells (fun i u hu => ext_cell hbw (hcell1 k _ hx1 i u hu))
        have hxm : l[k] ∈ l := List.getElem_mem hlt
        have h24 := hg24 _ hxm
        have hpp := hp24 _ hxm
        have hnk := hmem _ hxm
        have hst : printGo (l.take (k + 1)) = printGo (l.take k) ++ (lineL l[k] ++ [10]) := by
          unfold printGo
          rw [List.take_succ_eq_append_getElem hlt, List.flatMap_append]
          simp only [List.flatMap_cons, List.flatMap_nil, List.append_nil]
        have hll := lineL_len l[k] h24 hpp hnk
        have hfn := fun W (hW : Below w.heap.size w W) => itoa_fn (intsN l[k]) W (henv.ext hW) (fun y hy => by
          simp only [intsN, List.mem_cons, List.mem_nil_iff, or_false] at hy
          have h1 := hnk.re0; have h2 := hnk.re1; have h3 := hnk.im0; have h4 := hnk.im1; have h5 := hnk.lim0; have h6 := hnk.lim1; have h7 := hnk.cre0; have h8 := hnk.cre1; have h9 := hnk.cim0; have h10 := hnk.cim1
          rcases hy with rfl | rfl | rfl | rfl | rfl <;> omega)
        generalize l[k] = x at hst hll hfn c0 c1 c2 c3 c4 c5 c6 h24 hpp
        clear hx1 hcell1 hr hxm hnk hg24 hp24 hmem
        generalize printGo (l.take k) = ys at hst hbd hlb
        have HST := Lib.hid hst
        clear hst
        have hsz := hb.size
        have hbX := hbw.alloc hbw.size (.cells #[.string x.name, .string x.parent, .int .i64 x.re, .int .i64 x.im, .int .i64 x.lim, .int .i64 x.cre, .int .i64 x.cim] 125)
        cases hqp : x.parent.toList.isEmpty
        · skip
          have HPAR : Hid (parB x = x.parent) := Lib.hid (by unfold parB; rw [hqp]; rfl)
          have hjl : (Lib.join ((partsP x x.parent).map (·.data.toList)) [32]).length ≤ 200 := by
            have h := hll
            unfold lineL at h
            rw [partsB_eq, HPAR.out] at h
            exact h
          have u0 := (BoxC.new wr 125 #[.string x.name, .string x.parent, .int .i64 x.re, .int .i64 x.im, .int .i64 x.lim, .int .i64 x.cre, .int .i64 x.cim]).cell 0 _ rfl
          obtain ⟨iS, hiS, hiS2⟩ := Option.map_eq_some_iff.1 infoS
          simp only [Prod.mk.injEq] at hiS2
          obtain ⟨hiz, his, hib⟩ := hiS2
          have HIZ := Lib.hid hiz
          have HIS := Lib.hid his
          have HIB := Lib.hid hib
          have HII := Lib.hid hiS
          clear hiz his hib hiS
          go_wp2_with (first
            | (go_at_call 123; refine (mappedIS itoaB _ ei (intsN x) _ _ (slat_new encI_len (by simp) rfl (by simp [intsN])) (by simp [intsN]) (hfn _ (hbX.alloc hbX.size _))).mono ?_; rintro e w3 ⟨v3, rfl, ho3, hb3, hn3⟩; have u1 := ext_cell hb3 (ext_cell (ext_alloc _ _) u0); have hbY := ext_trans (hbX.alloc hbX.size _) hb3; have hbZ := ext_trans ((hb.alloc hsz _).alloc (hb.alloc hsz _).size _) hb3; have hs3 := (ho3.slat encS_len).alloc (.cells #[.string ⟨#[110, 111, 100, 101]⟩, .string x.name, .string x.parent] 9); obtain ⟨A3, c3, e3, _, _, hr3⟩ := hs3; subst e3; obtain ⟨b3, o3, hA3, hb3l, hcell3⟩ := hr3 (by simp [intsN]); subst hA3)
            | (at_builtin; (refine wpList_append_own_at _ rfl _ _ 25 rfl w3.heap.size 9 iS (.string ByteArray.empty) 1 16 Tryz.underlying25 HII.out HIZ.out HIS.out HIB.out rfl (by decide) _ 3 _ rfl (own_lit w3 [⟨#[110, 111, 100, 101]⟩, x.name, x.parent] (by simp)) ⟨b3, o3, none⟩ _ c3 (((intsN x).map itoaB).flatMap encS) rfl (flat_len encS_len _) (fun j u h => by rw [add_lit]; exact flat_cells encS_len hcell3 j u h) (by simp [encS, intsN, Value.oneCell']) (by simp [intsN, maxLen]) (by simp [intsN]) (by simp) ?_); intro v4 w4 hown4 hgw4 hnw4 hat4; (have hw4 : Below w3.heap.size w3 w4 := (ext_alloc w3 (.cells #[.string ⟨#[110, 111, 100, 101]⟩, .string x.name, .string x.parent] 9)).grown hgw4 (by simp) (fun j e => by cases e; exact Nat.le_refl _)); (have hown : Own encS 1 w3.heap.size 9 w4 v4 (partsP x x.parent) := own8 hown4); (obtain ⟨A5, c5, e5, hc5, hc6, hr5⟩ := (hown.slat encS_len).one Value.string (fun _ => rfl)); (subst e5); (obtain ⟨b5, o5, hA5, hb5l, hcell5⟩ := hr5 (by simp [partsP])); (subst hA5))
            | (go_at_call 126; (refine (Tryz.strings_Join b5 o5 c5 (partsP x x.parent) ⟨#[32]⟩ w4 hcell5 hb5l (by simp [partsP, intsN]) hc5 (Nat.le_trans hjl (by decide))).mono ?_); rintro e w5 ⟨rfl, hb5⟩; have hbR := ext_trans (ext_trans (ext_trans (ext_trans (ext_alloc wr _) (ext_alloc _ _)) hb3) hw4) hb5; have hbd5 := builder_ext hbd hbR; have hbZ5 := ext_trans hb hbR; have hbZ5s := hbZ5.size)
            | (go_at_call 125; (refine (writeString_any wA.heap.size wA.heap.size _ _ w5 hbd5 (by rw [Lib.byteCells_length, jn_size]; omega) hbZ5s).mono ?_); rintro e w6 ⟨rfl, hat6, hb6⟩))
          have hlx : lineL x = Lib.join ((partsP x x.parent).map (·.data.toList)) [32] := by
            unfold lineL
            rw [partsB_eq, HPAR.out]
          have hbd6 : Lib.IsBuilder 198 5 wA.heap.size wA.heap.size (Lib.byteCells (printGo (l.take (k + 1)))) w6 := by
            refine .inr ?_
            have h := hat6
            rw [Lib.strCells_eq, jn_list, ← hlx, ← Lib.byteCells_append, ← HST.out] at h
            exact h
          exact ⟨⟨k + 1, by omega, by go_num, hbZ5.trans hb6, hbd6, by rw [HST.out, List.length_append, List.length_append]; simp only [List.length_cons, List.length_nil]; omega⟩, by simp [intOf]; omega⟩
        · skip
          have HPAR : Hid (parB x = ⟨#[45]⟩) := Lib.hid (by unfold parB; rw [hqp]; rfl)
          have hjl : (Lib.join ((partsP x ⟨#[45]⟩).map (·.data.toList)) [32]).length ≤ 200 := by
            have h := hll
            unfold lineL at h
            rw [partsB_eq, HPAR.out] at h
            exact h
          have u0 := (BoxC.new wr 125 #[.string x.name, .string x.parent, .int .i64 x.re, .int .i64 x.im, .int .i64 x.lim, .int .i64 x.cre, .int .i64 x.cim]).cell 0 _ rfl
          obtain ⟨iS, hiS, hiS2⟩ := Option.map_eq_some_iff.1 infoS
          simp only [Prod.mk.injEq] at hiS2
          obtain ⟨hiz, his, hib⟩ := hiS2
          have HIZ := Lib.hid hiz
          have HIS := Lib.hid his
          have HIB := Lib.hid hib
          have HII := Lib.hid hiS
          clear hiz his hib hiS
          go_wp2_with (first
            | (go_at_call 123; refine (mappedIS itoaB _ ei (intsN x) _ _ (slat_new encI_len (by simp) rfl (by simp [intsN])) (by simp [intsN]) (hfn _ (hbX.alloc hbX.size _))).mono ?_; rintro e w3 ⟨v3, rfl, ho3, hb3, hn3⟩; have u1 := ext_cell hb3 (ext_cell (ext_alloc _ _) u0); have hbY := ext_trans (hbX.alloc hbX.size _) hb3; have hbZ := ext_trans ((hb.alloc hsz _).alloc (hb.alloc hsz _).size _) hb3; have hs3 := (ho3.slat encS_len).alloc (.cells #[.string ⟨#[110, 111, 100, 101]⟩, .string x.name, .string ⟨#[45]⟩] 9); obtain ⟨A3, c3, e3, _, _, hr3⟩ := hs3; subst e3; obtain ⟨b3, o3, hA3, hb3l, hcell3⟩ := hr3 (by simp [intsN]); subst hA3)
            | (at_builtin; (refine wpList_append_own_at _ rfl _ _ 25 rfl w3.heap.size 9 iS (.string ByteArray.empty) 1 16 Tryz.underlying25 HII.out HIZ.out HIS.out HIB.out rfl (by decide) _ 3 _ rfl (own_lit w3 [⟨#[110, 111, 100, 101]⟩, x.name, ⟨#[45]⟩] (by simp)) ⟨b3, o3, none⟩ _ c3 (((intsN x).map itoaB).flatMap encS) rfl (flat_len encS_len _) (fun j u h => by rw [add_lit]; exact flat_cells encS_len hcell3 j u h) (by simp [encS, intsN, Value.oneCell']) (by simp [intsN, maxLen]) (by simp [intsN]) (by simp) ?_); intro v4 w4 hown4 hgw4 hnw4 hat4; (have hw4 : Below w3.heap.size w3 w4 := (ext_alloc w3 (.cells #[.string ⟨#[110, 111, 100, 101]⟩, .string x.name, .string ⟨#[45]⟩] 9)).grown hgw4 (by simp) (fun j e => by cases e; exact Nat.le_refl _)); (have hown : Own encS 1 w3.heap.size 9 w4 v4 (partsP x ⟨#[45]⟩) := own8 hown4); (obtain ⟨A5, c5, e5, hc5, hc6, hr5⟩ := (hown.slat encS_len).one Value.string (fun _ => rfl)); (subst e5); (obtain ⟨b5, o5, hA5, hb5l, hcell5⟩ := hr5 (by simp [partsP])); (subst hA5))
            | (go_at_call 126; (refine (Tryz.strings_Join b5 o5 c5 (partsP x ⟨#[45]⟩) ⟨#[32]⟩ w4 hcell5 hb5l (by simp [partsP, intsN]) hc5 (Nat.le_trans hjl (by decide))).mono ?_); rintro e w5 ⟨rfl, hb5⟩; have hbR := ext_trans (ext_trans (ext_trans (ext_trans (ext_alloc wr _) (ext_alloc _ _)) hb3) hw4) hb5; have hbd5 := builder_ext hbd hbR; have hbZ5 := ext_trans hb hbR; have hbZ5s := hbZ5.size)
            | (go_at_call 125; (refine (writeString_any wA.heap.size wA.heap.size _ _ w5 hbd5 (by rw [Lib.byteCells_length, jn_size]; omega) hbZ5s).mono ?_); rintro e w6 ⟨rfl, hat6, hb6⟩))
          have hlx : lineL x = Lib.join ((partsP x ⟨#[45]⟩).map (·.data.toList)) [32] := by
            unfold lineL
            rw [partsB_eq, HPAR.out]
          have hbd6 : Lib.IsBuilder 198 5 wA.heap.size wA.heap.size (Lib.byteCells (printGo (l.take (k + 1)))) w6 := by
            refine .inr ?_
            have h := hat6
            rw [Lib.strCells_eq, jn_list, ← hlx, ← Lib.byteCells_append, ← HST.out] at h
            exact h
          exact ⟨⟨k + 1, by omega, by go_num, hbZ5.trans hb6, hbd6, by rw [HST.out, List.length_append, List.length_append]; simp only [List.length_cons, List.length_nil]; omega⟩, by simp [intOf]; omega⟩
      · obtain rfl : k = l.length := by omega
        rw [List.take_of_length_le (Nat.le_refl _)] at hbd
        have hsz := hb.size
        go_wp2_with (go_at_call 127; (refine (Tryz.Builder_String_any wA.heap.size wA.heap.size (printGo l) wr hbd hsz).mono ?_); rintro e w6 ⟨rfl, hb6⟩)
        exact bodyPost_ret (v := .tuple #[.string ⟨(printGo l).toArray⟩, .int .i64 0]) (by simp [results, Tryz.results67, go_sem]) rfl ⟨by rw [← HRES.out]; rfl, hbA.trans ((hb.trans hb6).mono hbA.size)⟩
  · rw [if_pos (by simpa using hq)]
    go_wp2_with (go_at_call 21; refine hc.mono ?_; rintro e wA ⟨rfl, hbA⟩)
    exact bodyPost_ret (v := .tuple #[.string ByteArray.empty, .int .i64 e0]) (by simp [results, Tryz.results67, go_sem]; rfl) rfl ⟨rfl, hbA⟩
end Go.Proofs.YtlogjgmfkjjhjaaGreatDoor
namespace Go.Proofs.YtlogjgmfkjjhjaaGreatDoor
open Go.RowKit

def digitC (c : UInt8) : Bool := decide (48 ≤ c.toNat) && decide (c.toNat ≤ 57)
def valL (l : List UInt8) : Int := l.foldl (fun n c => 10 * n + ((c.toNat : Int) - 48)) 0
def bodyOk (b : List UInt8) (minus : Bool) : Bool := b.all digitC && decide (b.length ≤ 10) && !b.isEmpty && !(b.head? == some 48 && (decide (1 < b.length) || minus))
def numF (b : List UInt8) (m : Bool) : Int × Bool := if bodyOk b m then (if m then -valL b else valL b, true) else (0, false)
def numB (s : ByteArray) : Int × Bool := numF (Lib.trimPrefix s.data.toList [45]) (Lib.hasPrefix s.data.toList [45])
theorem valL_take (l : List UInt8) (k : Nat) (h : k < l.length) : valL (l.take (k + 1)) = 10 * valL (l.take k) + ((l[k].toNat : Int) - 48) := foldl_take_succ _ _ l k h
theorem valL_le (l : List UInt8) (hd : ∀ j (h : j < l.length), j < l.length → 48 ≤ l[j].toNat ∧ l[j].toNat ≤ 57) : ∀ k, k ≤ l.length → 0 ≤ valL (l.take k) ∧ valL (l.take k) < 10 ^ k
  | 0, _ => by simp [valL]
  | k + 1, hk => by
    have ih := valL_le l hd k (by omega)
    have hx := hd k (by omega) (by omega)
    rw [valL_take l k (by omega)]
    have : (10 : Int) ^ (k + 1) = 10 * 10 ^ k := by rw [Int.pow_succ, Int.mul_comm]
    omega
theorem valL_le10 (l : List UInt8) (k : Nat) (hk : k ≤ l.length) (h10 : k ≤ 10) (hd : ∀ j (h : j < l.length), j < k → digitC l[j] = true) : 0 ≤ valL (l.take k) ∧ valL (l.take k) < 10000000000 := by
  have h := valL_le (l.take k) (fun j h _ => by
    have hj : j < k := by rw [List.length_take] at h; omega
    have := hd j (by omega) hj
    simp only [digitC, Bool.and_eq_true, decide_eq_true_eq] at this
    rw [List.getElem_take]; exact this) k (by rw [List.length_take]; omega)
  rw [List.take_take, Nat.min_self] at h
  have h2 : (10 : Int) ^ k ≤ 10 ^ 10 := by
    have := Nat.pow_le_pow_right (n := 10) (by decide) h10
    exact_mod_cast this
  have h3 : (10 : Int) ^ 10 = 10000000000 := by decide
  omega

theorem all_bad {l : List UInt8} {j : Nat} (h : j < l.length) (hx : digitC l[j] = false) : l.all digitC = false := by
  rw [List.all_eq_false]
  exact ⟨l[j], List.getElem_mem h, by simp [hx]⟩
theorem all_good {l : List UInt8} (hx : ∀ j (h : j < l.length), digitC l[j] = true) : l.all digitC = true := by
  rw [List.all_eq_true]
  intro x hm
  obtain ⟨j, hj, rfl⟩ := List.getElem_of_mem hm
  exact hx j hj
theorem byte48 (x : UInt8) : (some x == some 48) = ((x.toNat : Int) == 48) := by
  by_cases h : x = 48
  · subst h; rfl
  · have h2 : ¬ (x.toNat : Int) = 48 := fun e => h (UInt8.toNat_inj.1 (by have : x.toNat = 48 := by omega
                                                                          rw [this]; rfl))
    have h3 : ¬ (some x = some 48) := fun e => h (by simpa using e)
    rw [beq_eq_false_iff_ne.2 h2, beq_eq_false_iff_ne.2 h3]
theorem numF_bad {b : List UInt8} {m : Bool} (h : bodyOk b m = false) : numF b m = (0, false) := by unfold numF; rw [h]; rfl

set_option maxHeartbeats 8000000 in
theorem number_any (s : ByteArray) (w : World) :
    Calls Tryz.prog 171 #[.string s] w fun e w' => e = .returned (.tuple #[.int .i64 (numB s).1, .bool (numB s).2]) ∧ Below w.heap.size w w' := by
  have hcp := Tryz.strings_CutPrefix s ⟨#[45]⟩ w
  have hV : numB s = numF (Lib.trimPrefix s.data.toList [45]) (Lib.hasPrefix s.data.toList [45]) := rfl
  rw [hV]
  clear hV
  have e45 : (⟨#[45]⟩ : ByteArray).data.toList = [45] := rfl
  rw [e45] at hcp
  clear e45
  generalize Lib.trimPrefix s.data.toList [45] = b at hcp ⊢
  generalize Lib.hasPrefix s.data.toList [45] = minus at hcp ⊢
  obtain ⟨B, hB⟩ : ∃ B : ByteArray, B = ⟨b.toArray⟩ := ⟨_, rfl⟩
  have hbl : B.data.toList = b := by rw [hB]
  rw [← hB] at hcp
  have hsz : B.size = b.length := by rw [← hbl, Array.length_toList]; rfl
  clear hB
  generalize hres : numF b minus = res
  have HRES := Lib.hid hres
  have HBL := Lib.hid hbl
  have HSZ := Lib.hid hsz
  clear hres hbl hsz
  go_enter Tryz.func171, Tryz.ntmps171
  go_wp2_with (go_at_call 186; refine hcp.mono ?_; rintro e w1 ⟨rfl, rfl⟩)
  clear hcp
  go_loopw [6] (fun n w' => ∃ pos : Nat, w' = w1.iter B pos ∧ pos ≤ B.size ∧ n = .int .i64 (valL (b.take pos)) ∧ Hid (∀ j (h : j < b.length), j < pos → digitC b[j] = true) ∧ Hid (0 < pos → B.size ≤ 10)) (fun _ w' => B.size - w'.iterPos w1.heap.size)
  case atStart => exact ⟨0, rfl, Nat.zero_le _, rfl, fun j _ hj => absurd hj (Nat.not_lt_zero _), fun h => absurd h (Nat.lt_irrefl _)⟩
  case round =>
    obtain ⟨pos, rfl, hpos, rfl, hg, h10p⟩ := hrel
    by_cases hp : pos < B.size
    · obtain ⟨c, p', hnx, hp1, hgood⟩ : ∃ (c : Int) (p' : Nat), (∀ ty, (Instr.next (.pointer (some ⟨w1.heap.size, 0, none⟩)) true ty).run Tryz.prog (w1.iter B pos) = .ok (.tuple #[.bool true, .int .i64 pos, .int .i32 c]) (w1.iter B p')) ∧ pos < p' ∧
          Hid ((c = (B[pos].toNat : Int) ∧ p' = pos + 1) ∨ (128 ≤ c ∧ 128 ≤ B[pos].toNat)) := by
        by_cases ha : B[pos].toNat < 128
        · exact ⟨_, _, fun ty => run_next_ascii w1 B pos ty hp ha, by omega, .inl ⟨rfl, rfl⟩⟩
        · have := decode_high B pos hp (by omega)
          exact ⟨_, _, fun ty => run_next_any w1 B pos ty hp, by omega, .inr ⟨by omega, by omega⟩⟩
      have hpb : pos < b.length := by have := HSZ.out; omega
      have hbp : b[pos] = B[pos] := by
        have e := HBL.out
        subst e
        rfl
      by_cases hd : 48 ≤ c ∧ c ≤ 57
      · have hq := hgood.out
        have e1 : p' = pos + 1 := by omega
        have e2 : c = (b[pos].toNat : Int) := by rw [hbp]; omega
        have hdig : digitC b[pos] = true := by simp only [digitC, Bool.and_eq_true, decide_eq_true_eq]; omega
        obtain ⟨d1, d2⟩ := hd
        have f1 : decide (c < 48) = false := by simp; omega
        have f2 : decide (57 < c) = false := by simp; omega
        by_cases h10 : B.size ≤ 10
        · have f3 : decide (10 < (B.size : Int)) = false := by simp; omega
          have hb := valL_le10 b pos (by omega) (by omega) hg.out
          have hvt := valL_take b pos hpb
          rw [← e2] at hvt
          have hg2 : Hid (∀ j (h : j < b.length), j < p' → digitC b[j] = true) := fun j hj hjp => by
            by_cases ej : j = pos
            · subst ej; exact hdig
            · exact hg.out j hj (by omega)
          have HVT := Lib.hid hvt
          have E1 := Lib.hid e1
          have hps : p' ≤ B.size := by omega
          generalize valL (b.take pos) = n at hb HVT ⊢
          have hw1 : IntKind.i32.wrap (c - 48) = c - 48 := by unfold IntKind.wrap; simp [IntKind.bits]; omega
          clear hq hdig hbp e1 e2 hvt hg hgood
          go_wp2
          exact ⟨⟨p', rfl, hps, by rw [E1.out, HVT.out], hg2, fun _ => h10⟩, by rw [World.iterPos_iter, World.iterPos_iter]; omega⟩
        · have f3 : decide (10 < (B.size : Int)) = true := by simp; omega
          have hbad : res = (0, false) := by
            rw [← HRES.out]
            apply numF_bad
            unfold bodyOk
            have : decide (b.length ≤ 10) = false := by have := HSZ.out; simp; omega
            rw [this]; simp
          have HB := Lib.hid hbad
          clear hq e1 e2 hdig hbp hbad hg hgood h10
          go_wp2
          exact bodyPost_ret (v := .tuple #[.int .i64 0, .bool false]) (by simp [results, Tryz.results171, go_sem]) rfl ⟨by rw [HB.out], by unfold World.iter; (repeat (first | exact Below.refl _ _ | assumption | refine Below.drew ?_ | refine Below.alloc ?_ (by simp <;> omega) _ | refine Below.alloc ?_ (by simp) _ | refine Below.setCell ?_ (by simp) _))⟩
      · have hq := hgood.out
        have hdig : digitC b[pos] = false := by
          rw [hbp]
          unfold digitC
          simp only [Bool.and_eq_false_iff, decide_eq_false_iff_not]
          omega
        have hbad : res = (0, false) := by
          rw [← HRES.out]
          apply numF_bad
          unfold bodyOk
          rw [all_bad hpb hdig]; rfl
        have HB := Lib.hid hbad
        have hnl : decide (c < 48) = true ∨ (decide (c < 48) = false ∧ decide (57 < c) = true) := by simp only [decide_eq_true_eq, decide_eq_false_iff_not]; omega
        clear hq hdig hbp hbad hg hgood hd
        rcases hnl with g1 | ⟨g1, g2⟩
        all_goals
          go_wp2
          exact bodyPost_ret (v := .tuple #[.int .i64 0, .bool false]) (by simp [results, Tryz.results171, go_sem]) rfl ⟨by rw [HB.out], by unfold World.iter; (repeat (first | exact Below.refl _ _ | assumption | refine Below.drew ?_ | refine Below.alloc ?_ (by simp <;> omega) _ | refine Below.alloc ?_ (by simp) _ | refine Below.setCell ?_ (by simp) _))⟩
    · obtain rfl : pos = B.size := by omega
      have hnx : ∀ ty, (Instr.next (.pointer (some ⟨w1.heap.size, 0, none⟩)) true ty).run Tryz.prog (w1.iter B B.size) = _ := fun ty => run_next_end w1 B B.size ty (by omega)
      have hall : b.all digitC = true := all_good (fun j hj => hg.out j hj (by have := HSZ.out; omega))
      have hempt : B.toList.isEmpty = b.isEmpty := by rw [ByteArray.toList_eq, HBL.out]
      rw [show b.take B.size = b from List.take_of_length_le (by have := HSZ.out; omega)]
      have hvb := valL_le10 b B.size (by have := HSZ.out; omega) (by
        rcases Nat.eq_zero_or_pos B.size with h0 | h0
        · omega
        · exact h10p.out h0) (fun j hj _ => hg.out j hj (by have := HSZ.out; omega))
      rw [show b.take B.size = b from List.take_of_length_le (by have := HSZ.out; omega)] at hvb
      have hok : bodyOk b minus = (!b.isEmpty && !(b.head? == some 48 && (decide (1 < b.length) || minus))) := by
        unfold bodyOk
        have : b.isEmpty = false → decide (b.length ≤ 10) = true := fun h => by
          have h1 : 0 < b.length := by cases b <;> simp_all
          have := h10p.out (by have := HSZ.out; omega)
          have := HSZ.out
          simp; omega
        rw [hall]
        cases h : b.isEmpty
        · rw [this h]; simp
        · simp
      have HOK := Lib.hid hok
      clear hall hok hg h10p
      cases hne : b.isEmpty
      · rw [hne] at hempt
        have hb0 : 0 < B.size := by
          have := HSZ.out
          have : 0 < b.length := by cases b <;> simp_all
          omega
        have hidx : (Instr.index 9 (.string B) (.int .i64 0)).run Tryz.prog (w1.iter B B.size) = .ok (.int .u8 (B[0].toNat : Int)) (w1.iter B B.size) := by
          rw [run_index_string _ _ _ _ _ Tryz.underlying9, dif_pos ⟨by omega, by omega⟩]
          rfl
        have hhead : (b.head? == some 48) = ((B[0].toNat : Int) == 48) := by
          have h0 : 0 < b.length := by have := HSZ.out; omega
          have e0 : b[0] = B[0] := by
            have e := HBL.out
            subst e
            rfl
          rw [List.head?_eq_getElem?, List.getElem?_eq_getElem h0, e0]
          exact byte48 _
        generalize (B[0].toNat : Int) = d0 at hidx hhead
        have hlen : decide (1 < (B.size : Int)) = decide (1 < b.length) := by
          have := HSZ.out
          by_cases h : 1 < b.length
          · rw [decide_eq_true h, decide_eq_true (by omega)]
          · rw [decide_eq_false h, decide_eq_false (by omega)]
        have hr : res = if (d0 == 48) && (decide (1 < b.length) || minus) then (0, false) else (if minus then -valL b else valL b, true) := by
          rw [← HRES.out, numF, HOK.out, hne, hhead]
          cases ((d0 == 48) && (decide (1 < b.length) || minus)) <;> simp
        have HR := Lib.hid hr
        clear hr hhead
        generalize valL b = n at hvb HR ⊢
        have hwn : IntKind.i64.wrap (-n) = -n := IntWalk.i64_in _ (by omega)
        generalize decide (1 < b.length) = long at hlen HR
        cases hz : (d0 == 48)
        all_goals rw [hz] at HR
        all_goals cases long
        all_goals cases minus
        all_goals go_wp2
        · exact bodyPost_ret (v := .tuple #[.int .i64 n, .bool true]) (by simp [results, Tryz.results171, go_sem]) rfl ⟨by rw [HR.out]; rfl, by unfold World.iter; (repeat (first | exact Below.refl _ _ | assumption | refine Below.drew ?_ | refine Below.alloc ?_ (by simp <;> omega) _ | refine Below.alloc ?_ (by simp) _ | refine Below.setCell ?_ (by simp) _))⟩
        · exact bodyPost_ret (v := .tuple #[.int .i64 (-n), .bool true]) (by simp [results, Tryz.results171, go_sem]) rfl ⟨by rw [HR.out]; rfl, by unfold World.iter; (repeat (first | exact Below.refl _ _ | assumption | refine Below.drew ?_ | refine Below.alloc ?_ (by simp <;> omega) _ | refine Below.alloc ?_ (by simp) _ | refine Below.setCell ?_ (by simp) _))⟩
        · exact bodyPost_ret (v := .tuple #[.int .i64 n, .bool true]) (by simp [results, Tryz.results171, go_sem]) rfl ⟨by rw [HR.out]; rfl, by unfold World.iter; (repeat (first | exact Below.refl _ _ | assumption | refine Below.drew ?_ | refine Below.alloc ?_ (by simp <;> omega) _ | refine Below.alloc ?_ (by simp) _ | refine Below.setCell ?_ (by simp) _))⟩
        · exact bodyPost_ret (v := .tuple #[.int .i64 (-n), .bool true]) (by simp [results, Tryz.results171, go_sem]) rfl ⟨by rw [HR.out]; rfl, by unfold World.iter; (repeat (first | exact Below.refl _ _ | assumption | refine Below.drew ?_ | refine Below.alloc ?_ (by simp <;> omega) _ | refine Below.alloc ?_ (by simp) _ | refine Below.setCell ?_ (by simp) _))⟩
        · exact bodyPost_ret (v := .tuple #[.int .i64 n, .bool true]) (by simp [results, Tryz.results171, go_sem]) rfl ⟨by rw [HR.out]; rfl, by unfold World.iter; (repeat (first | exact Below.refl _ _ | assumption | refine Below.drew ?_ | refine Below.alloc ?_ (by simp <;> omega) _ | refine Below.alloc ?_ (by simp) _ | refine Below.setCell ?_ (by simp) _))⟩
        · exact bodyPost_ret (v := .tuple #[.int .i64 0, .bool false]) (by simp [results, Tryz.results171, go_sem]) rfl ⟨by rw [HR.out]; rfl, by unfold World.iter; (repeat (first | exact Below.refl _ _ | assumption | refine Below.drew ?_ | refine Below.alloc ?_ (by simp <;> omega) _ | refine Below.alloc ?_ (by simp) _ | refine Below.setCell ?_ (by simp) _))⟩
        · exact bodyPost_ret (v := .tuple #[.int .i64 0, .bool false]) (by simp [results, Tryz.results171, go_sem]) rfl ⟨by rw [HR.out]; rfl, by unfold World.iter; (repeat (first | exact Below.refl _ _ | assumption | refine Below.drew ?_ | refine Below.alloc ?_ (by simp <;> omega) _ | refine Below.alloc ?_ (by simp) _ | refine Below.setCell ?_ (by simp) _))⟩
        · exact bodyPost_ret (v := .tuple #[.int .i64 0, .bool false]) (by simp [results, Tryz.results171, go_sem]) rfl ⟨by rw [HR.out]; rfl, by unfold World.iter; (repeat (first | exact Below.refl _ _ | assumption | refine Below.drew ?_ | refine Below.alloc ?_ (by simp <;> omega) _ | refine Below.alloc ?_ (by simp) _ | refine Below.setCell ?_ (by simp) _))⟩
      · rw [hne] at hempt
        have hbad : res = (0, false) := by
          rw [← HRES.out]
          apply numF_bad
          rw [HOK.out, hne]; rfl
        have HB := Lib.hid hbad
        clear hbad
        go_wp2
        exact bodyPost_ret (v := .tuple #[.int .i64 0, .bool false]) (by simp [results, Tryz.results171, go_sem]) rfl ⟨by rw [HB.out], by unfold World.iter; (repeat (first | exact Below.refl _ _ | assumption | refine Below.drew ?_ | refine Below.alloc ?_ (by simp <;> omega) _ | refine Below.alloc ?_ (by simp) _ | refine Below.setCell ?_ (by simp) _))⟩
end Go.Proofs.YtlogjgmfkjjhjaaGreatDoor
