/-
  From a row's inputs to memory: a slice of nodes that came in reads as a list; the library's table and its variable.
  FeederTrees: the row's statement, out of the walk. The row's own conditions: the listed variables of Go's library read as listed; nothing else.
-/
import Derived.Test.YtlogjgmfkjjhjaaGreatDoorX20
import Derived.Test.YtlogjgmfkjjhjaaGreatDoorX36
import Derived.ProofKit
import Derived.LaidMore
import Derived.Lib.LaidTab
import Derived.ChangeArms
import Derived.Test.YtlogjgmfkjjhjaaGreatDoorRows
import Derived.Test.YtlogjgmfkjjhjaaGreatDoorX39
import Derived.Deep.DeepHandedRow
import Derived.JoinedCond
import Derived.Stop.LaidErr
set_option linter.unusedSimpArgs false
set_option linter.unusedVariables false
namespace Go.Proofs.YtlogjgmfkjjhjaaGreatDoor
open Go.RowKit Go.ChangeShapes Go.WideShapes Go.ChangeAt

theorem list2 {α : Type} : ∀ {l : List α}, l.length = 2 → ∃ a b, l = [a, b]
  | [a, b], _ => ⟨a, b, rfl⟩
theorem list7 {α : Type} : ∀ {l : List α}, l.length = 7 → ∃ a b c d e f g, l = [a, b, c, d, e, f, g]
  | [a, b, c, d, e, f, g], _ => ⟨a, b, c, d, e, f, g, rfl⟩
section
variable {H : Type} {enc : TypeId × Value → H} {W : World} {base : Nat} {sp : Nat → Bool} {held : Bool} {fuel : Nat} {cs : List Value} {y : DataW H × List MemPlace}
theorem cells1 : Tryz.prog.cellsOf 9 = 1 ∧ Tryz.prog.cellsOf 3 = 1 ∧ Tryz.prog.cellsOf 97 = 2 ∧ Tryz.prog.cellsOf 126 = 7 := ⟨by kernel_rfl, by kernel_rfl, by kernel_rfl, by kernel_rfl⟩
theorem cellsG (h : DataW.trod enc Tryz.prog W base sp held fuel 97 cs = some y) : ∃ z : Int × Int, cs = encG z := by
  obtain ⟨xs, n, rfl, _, hl, hn, hf⟩ := DataW.trod_struct Tryz.underlying97 h
  rw [cells1.2.2.1] at hl
  obtain ⟨c0, c1, rfl⟩ := list2 hl
  ·
    have f0 : DataW.trod enc Tryz.prog W base sp held n 3 (([c0, c1].drop 0).take (Tryz.prog.cellsOf 3)) = xs[0]? := hf 0 _ rfl
    have f1 : DataW.trod enc Tryz.prog W base sp held n 3 (([c0, c1].drop 1).take (Tryz.prog.cellsOf 3)) = xs[1]? := hf 1 _ rfl
    simp only [List.size_toArray, List.length_cons, List.length_nil] at hn
    rw [List.getElem?_eq_getElem (by omega)] at f0 f1
    simp only [cells1.2.1, List.drop_zero, List.drop_succ_cons, List.take_succ_cons, List.take_zero] at f0 f1
    obtain ⟨a, e0, _⟩ := DataW.trod_int Tryz.underlying3 f0
    obtain ⟨b, e1, _⟩ := DataW.trod_int Tryz.underlying3 f1
    simp only [List.cons.injEq, and_true] at e0 e1
    subst e0; subst e1
    exact ⟨(a, b), rfl⟩
theorem cellsN (h : DataW.trod enc Tryz.prog W base sp held fuel 126 cs = some y) : ∃ x : Nd, cs = encN x := by
  obtain ⟨xs, n, rfl, _, hl, hn, hf⟩ := DataW.trod_struct Tryz.underlying126 h
  rw [cells1.2.2.2] at hl
  obtain ⟨c0, c1, c2, c3, c4, c5, c6, rfl⟩ := list7 hl
  ·
    have f0 : DataW.trod enc Tryz.prog W base sp held n 9 (([c0, c1, c2, c3, c4, c5, c6].drop 0).take (Tryz.prog.cellsOf 9)) = xs[0]? := hf 0 _ rfl
    have f1 : DataW.trod enc Tryz.prog W base sp held n 9 (([c0, c1, c2, c3, c4, c5, c6].drop 1).take (Tryz.prog.cellsOf 9)) = xs[1]? := hf 1 _ rfl
    have f2 : DataW.trod enc Tryz.prog W base sp held n 97 (([c0, c1, c2, c3, c4, c5, c6].drop 2).take (Tryz.prog.cellsOf 97)) = xs[2]? := hf 2 _ rfl
    have f3 : DataW.trod enc Tryz.prog W base sp held n 3 (([c0, c1, c2, c3, c4, c5, c6].drop 4).take (Tryz.prog.cellsOf 3)) = xs[3]? := hf 3 _ rfl
    have f4 : DataW.trod enc Tryz.prog W base sp held n 97 (([c0, c1, c2, c3, c4, c5, c6].drop 5).take (Tryz.prog.cellsOf 97)) = xs[4]? := hf 4 _ rfl
    simp only [List.size_toArray, List.length_cons, List.length_nil] at hn
    rw [List.getElem?_eq_getElem (by omega)] at f0 f1 f2 f3 f4
    simp only [cells1.1, cells1.2.1, cells1.2.2.1, List.drop_zero, List.drop_succ_cons, List.take_succ_cons, List.take_zero] at f0 f1 f2 f3 f4
    obtain ⟨s0, e0, _⟩ := DataW.trod_string Tryz.underlying9 f0
    obtain ⟨s1, e1, _⟩ := DataW.trod_string Tryz.underlying9 f1
    obtain ⟨z2, e2⟩ := cellsG f2
    obtain ⟨b, e3, _⟩ := DataW.trod_int Tryz.underlying3 f3
    obtain ⟨z4, e4⟩ := cellsG f4
    simp only [encG, List.cons.injEq, and_true] at e0 e1 e2 e3 e4
    obtain ⟨rfl, rfl⟩ := e2
    obtain ⟨rfl, rfl⟩ := e4
    subst e0; subst e1; subst e3
    exact ⟨⟨s0, s1, z2.1, z2.2, b, z4.1, z4.2⟩, rfl⟩
/-- a slice that came in, its elements k cells each -/
theorem open_sl {α : Type} {E : α → List Value} {k : Nat} {t e : TypeId} (hk : Tryz.prog.cellsOf e = k) (hk0 : 0 < k) (hE : ∀ x, (E x).length = k) (ht : Tryz.prog.underlying t = some (.slice e))
    (hel : ∀ fuel cs y, DataW.trod enc Tryz.prog W base sp held fuel e cs = some y → ∃ x : α, cs = E x) (h : DataW.trod enc Tryz.prog W base sp held fuel t cs = some y) : ∃ v xs, cs = [v] ∧ SlAt E k W v xs := by
  rcases DataW.trod_slice ht h with ⟨rfl, _⟩ | ⟨a, len, cap, elems, rest, n, rfl, rfl, _, hb, hl, hm, hlen, hels, _, _⟩
  · exact ⟨_, [], rfl, SlAt.nil W⟩
  · rw [hk] at hels
    have key : ∀ i, i < len → ∃ x : α, W.cells? base (a.add (i * k)) k = some (E x) := by
      intro i hi
      have h1 := hels i hi
      rw [List.getElem?_eq_getElem (by omega), Option.bind_eq_some_iff] at h1
      obtain ⟨cs', h2, h3⟩ := h1
      obtain ⟨x, rfl⟩ := hel _ _ _ h3
      exact ⟨x, h2⟩
    by_cases h0 : len = 0
    · subst h0
      exact ⟨_, [], rfl, some a, cap, rfl, hl, hm, fun h => absurd h (by simp)⟩
    obtain ⟨x0, hx0⟩ := key 0 (by omega)
    have hsp := World.cell?_spot ((World.cells?_some hx0).2.2 0 hk0 |>.trans (by rw [List.getElem?_eq_getElem (by rw [hE]; exact hk0)]))
    obtain ⟨b, off, spot⟩ := a
    have hspot : spot = none := by simpa [Addr.add] using hsp
    subst hspot
    have hbl : b < W.heap.size := by simpa [Addr.add] using World.cells?_block hx0 hk0
    refine ⟨_, (List.range len).map fun i => if h : i < len then Classical.choose (key i h) else x0, rfl, some ⟨b, off, none⟩, cap, by simp, by simpa using hl, hm, fun _ => ⟨b, off, rfl, hbl, fun j x hj i u hu => ?_⟩⟩
    have hjl : j < len := by have := (List.getElem?_eq_some_iff.1 hj).1; simpa using this
    simp only [List.getElem?_map, List.getElem?_range hjl, Option.map_some, dif_pos hjl, Option.some.injEq] at hj
    have hc := Classical.choose_spec (key j hjl)
    rw [hj] at hc
    have hi : i < k := by have := (List.getElem?_eq_some_iff.1 hu).1; rwa [hE] at this
    have := (World.cells?_some hc).2.2 i hi
    rw [add_lit, add_lit] at this
    rw [this]; exact hu
theorem open_nodes (h : DataW.trod enc Tryz.prog W base sp held fuel 22 cs = some y) : ∃ v xs, cs = [v] ∧ SlAt encN 7 W v xs :=
  open_sl cells1.2.2.2 (by decide) encN_len Tryz.underlying22 (fun _ _ _ h => cellsN h) h
end
end Go.Proofs.YtlogjgmfkjjhjaaGreatDoor
namespace Go.Proofs.YtlogjgmfkjjhjaaGreatDoor
open Go.RowKit Go.ChangeShapes Go.WideShapes Go.ChangeAt
open Go.ChangeMaps (open_string shut_string)

theorem own : ownKnob Tryz.prog.godebug = none := by kernel_rfl
theorem laidOut : laidOutB Tryz.prog = true := by kernel_rfl
theorem gPow : Tryz.prog.globalNamed "internal/strconv.uint64pow10" = some 0 := by kernel_rfl
theorem gPowT : (Tryz.prog.globals[0]?).map (·.type) = some 286 := by kernel_rfl
theorem cellsPow : Tryz.prog.cellsOf 271 = 1 ∧ Tryz.prog.cellsOf 286 = 20 := ⟨by kernel_rfl, by kernel_rfl⟩

/-- the start of the witness: what the door's run leaves, and the pinned table -/
noncomputable def laidW (os : Os) : World :=
  { World.doorLaid Tryz.prog 34 os with heap := (World.doorLaid Tryz.prog 34 os).heap.modify 2 fun
      | .cells _ t frozen => .cells (Go.Pinned.utf8FirstZ.map fun z : Nat => Value.int .u8 (z : Int)).toArray t frozen
      | o => o }
theorem laid_met (os : Os) (args : Array Value) : laidMetH Tryz.prog Rows.feederTreesRow.laid ((laidW os).forCall (fun _ _ => 0) ⟨#[], args, []⟩).memory :=
  laidMetH_of_parts3 (fuel := 8) (laidMet_of_run' 8 (by kernel_rfl) (by kernel_rfl)) (by kernel_rfl) (by kernel_rfl)

theorem env_of {W : World} (hL : laidMetH Tryz.prog Rows.feederTreesRow.laid W) (hsh : W.ShapedOpen Tryz.prog) : Env W := by
  rw [MakeChecks.laidMetH_plain _ _ _ (by kernel_rfl)] at hL
  exact ⟨Lib.tabIs_of_head (rest := [("unicode/utf8.acceptRanges", Rows.laid_unicode_utf8_acceptRanges), ("unicode/utf8.first", Rows.laid_unicode_utf8_first)]) gPow gPowT Tryz.underlying286 Tryz.underlying271 cellsPow.1 cellsPow.2 (laidMet.tail (laidMet.tail hL)), Tryz.laysM219.s1_3 W hsh⟩

set_option maxRecDepth 100000 in
set_option maxHeartbeats 4000000 in
theorem feederTrees_lifted (os : Os) (started : os.Started) (H : Type) (enc : TypeId × Value → H) (F : Stop.Interp) :
    ReturnsInHanded {} Tryz.checked os 3 .any ((OpenSpec.ofChange Rows.feederTreesSpec).preRow enc Tryz.prog Tryz.f3 Rows.feederTreesRow.domain false Rows.feederTreesRow.laid) (((OpenSpec.ofChange Rows.feederTreesSpec).at F).post enc Tryz.prog Tryz.f3 false true false false) := by
  refine returnsInHanded_of_row (C := Tryz.checked) (s := OpenSpec.ofChange Rows.feederTreesSpec) own started (by kernel_rfl) Tryz.func3
    (witness_row_at (enc := enc) (C := Tryz.checked) false (laidW os) #[.slice none 0 0, .string ⟨#[]⟩] rfl (by kernel_rfl) (by kernel_rfl) (by kernel_rfl)
      (OpenSpec.preRow_of_B rfl 8 (by kernel_rfl) (by kernel_rfl) (laid_met os _))) ?_
  intro W base args ds gs before hval0 hW _ _ _ hL hsh _
  have hval : ∀ (j : Nat) t v, Tryz.f3.params[j]? = some t → args[j]? = some v → Value.okWide Tryz.prog W .any base t v := hval0
  have hW' := hW
  obtain ⟨p, q, hA0, hV0, rfl, _, _⟩ := hW
  have hA : DataW.TrodAll enc Tryz.prog W 0 (fun _ => true) true Tryz.f3.params.toList args.toList ds p := hA0
  rw [Tryz.params3] at hA hval
  obtain ⟨v0, v1, d0, d1, p0, p1, rfl, rfl, rfl, h0, h1⟩ := trodAll_two hA
  obtain ⟨rfl, rfl⟩ := trodVars_none hV0
  obtain ⟨a0, len, cap, rfl⟩ := okWide_slice Tryz.underlying22 (hval 0 22 v0 rfl rfl)
  have h0k := h0
  have h1k := h1
  clear hA0 hV0 hval0
  simp only [List.append_nil] at hW'
  have hlt : ∀ x ∈ p0 ++ p1, x.block < W.heap.size := fun x hx => by simpa using hW'.lt x hx
  obtain ⟨fuel0, hf0⟩ := h0
  obtain ⟨u, l, hu, hs⟩ := open_nodes hf0
  have hu' : Value.slice a0 len cap = u := by simpa [Value.cells] using hu
  subst hu'
  obtain ⟨t, rfl, rfl, rfl, ht⟩ := open_string Tryz.underlying9 (hval 1 9 v1 rfl rfl) h1k
  refine (feederTrees_any l _ t W (env_of hL hsh) hs).mono ?_
  rintro e W' ⟨rfl, bel⟩
  have e1 : ((OpenSpec.ofChange Rows.feederTreesSpec).at F).fn H ([d0, .lit (.string t.data.toList)] ++ []) = { results := [.lit (.bool true)], args := [d0, .lit (.string t.data.toList)] } := rfl
  refine ⟨_, rfl, _, _, _, [], p0 ++ [], [], hW', ?_, ?_, ?_, bel.frame _, fun h => by cases h⟩
  · rw [e1]; exact trodAll_mk1 (shut_bool Tryz.underlying4 _)
  · rw [e1]; exact trodAll_mk2 (Below.trod laidOut (by kernel_rfl) (of_decide_eq_true (by kernel_rfl)) h0k bel (fun x hx => hlt x (by simp [hx]))) (shut_string Tryz.underlying9 ht)
  · rw [e1]; rfl

theorem feederTrees_holds : Rows.FeederTreesSaid :=
  OpenClaim.holds_of_cond 3 Tryz.f3 rfl rfl rfl rfl rfl rfl rfl ⟨rfl, rfl, rfl, rfl, rfl⟩ rfl rfl rfl rfl rfl (by kernel_rfl) Tryz.func3 (by kernel_rfl)
    (of_decide_eq_true (by kernel_rfl)) (by unfold Func.isWrapper; first | (rw [if_pos (by decide +kernel)]; kernel_rfl) | (rw [if_neg (by decide +kernel)]; exact ⟨rfl, rfl⟩))
    (fun os started H enc _ F0 => by rw [OpenClaim.pre_eq_preRow]; exact feederTrees_lifted os started H enc F0)
end Go.Proofs.YtlogjgmfkjjhjaaGreatDoor
