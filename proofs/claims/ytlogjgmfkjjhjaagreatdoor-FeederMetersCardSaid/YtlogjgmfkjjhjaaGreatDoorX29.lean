/-
  The helpers of the law: complex numbers, intervals, words; the nodes, relays and grid of the document's examples.
-/
import Derived.Test.YtlogjgmfkjjhjaaGreatDoorX28
set_option linter.unusedSimpArgs false
set_option linter.unusedVariables false
namespace Go.Proofs.YtlogjgmfkjjhjaaGreatDoor
open Go.RowKit

theorem treeNames : Names treeL := by
  intro n hn
  simp only [treeL, List.mem_cons, List.mem_nil_iff, or_false] at hn
  rcases hn with rfl | rfl | rfl | rfl <;> decide
theorem of_any (re im : Int) (w : World) : Calls Tryz.prog 54 #[.int .i64 re, .int .i64 im] w fun e w' => e = .returned (.agg #[.int .i64 re, .int .i64 im]) ∧ Below w.heap.size w w' := by
  go_enter Tryz.func54, Tryz.ntmps54
  go_wp2
  exact bodyPost_ret (v := .agg #[.int .i64 re, .int .i64 im]) (by simp [results, Tryz.results54, go_sem]) rfl ⟨rfl, by (repeat (first | exact Below.refl _ _ | assumption | refine Below.drew ?_ | refine Below.alloc ?_ (by simp <;> omega) _ | refine Below.alloc ?_ (by simp) _ | refine Below.setCell ?_ (by simp) _))⟩
theorem to_any (re im : Int) (w : World) : Calls Tryz.prog 58 #[.int .i64 re, .int .i64 im] w fun e w' => e = .returned (.agg #[.int .i64 re, .int .i64 im]) ∧ Below w.heap.size w w' := by
  go_enter Tryz.func58, Tryz.ntmps58
  go_wp2
  exact bodyPost_ret (v := .agg #[.int .i64 re, .int .i64 im]) (by simp [results, Tryz.results58, go_sem]) rfl ⟨rfl, by (repeat (first | exact Below.refl _ _ | assumption | refine Below.drew ?_ | refine Below.alloc ?_ (by simp <;> omega) _ | refine Below.alloc ?_ (by simp) _ | refine Below.setCell ?_ (by simp) _))⟩
theorem words_any (A : Option Addr) (n c : Nat) (w : World) : Calls Tryz.prog 60 #[.slice A n c] w fun e w' => e = .returned (.slice A n c) ∧ w = w' := by
  go_enter Tryz.func60, Tryz.ntmps60
  go_wp2
  go_ret
  exact ⟨rfl, rfl⟩
set_option maxHeartbeats 1000000 in
theorem tree_any (w : World) : Calls Tryz.prog 52 #[] w fun e w' => ∃ b, e = .returned (.slice (some ⟨b, 0, none⟩) 4 4) ∧ SlAt encN 7 w' (.slice (some ⟨b, 0, none⟩) 4 4) treeL ∧ w.heap.size ≤ b ∧ Below w.heap.size w w' := by
  have hB : Below w.heap.size w w := Below.refl _ _
  go_enter Tryz.func52, Tryz.ntmps52
  go_wp2_with (go_at_call 54; refine (of_any _ _ _).mono ?_; rintro e w1 ⟨rfl, hb⟩; have hB := ext_trans hB hb)
  go_ret
  exact ⟨_, rfl, slat_new (xs := treeL) encN_len rfl rfl (by decide), hB.size, hB.alloc hB.size _⟩
set_option maxHeartbeats 1000000 in
theorem relays_any (w : World) : Calls Tryz.prog 110 #[] w fun e w' => ∃ b p q r, e = .returned (.slice (some ⟨b, 0, none⟩) 3 3) ∧ SlAt encR 3 w' (.slice (some ⟨b, 0, none⟩) 3 3) (relL (some ⟨p, 0, none⟩) (some ⟨q, 0, none⟩) (some ⟨r, 0, none⟩) 1 2 1) ∧ RelsAt w' (relL (some ⟨p, 0, none⟩) (some ⟨q, 0, none⟩) (some ⟨r, 0, none⟩) 1 2 1) ∧ (w.heap.size ≤ b ∧ w.heap.size ≤ p ∧ w.heap.size ≤ q ∧ w.heap.size ≤ r) ∧ Below w.heap.size w w' := by
  go_enter Tryz.func110, Tryz.ntmps110
  go_wp2
  go_ret
  refine ⟨_, _, _, _, rfl, slat_new (xs := relL _ _ _ 1 2 1) encR_len (by simp) rfl (by simp [relL]), ⟨?_, ?_, ?_⟩, by (try simp only [World.size_alloc]); omega, by (repeat (first | exact Below.refl _ _ | assumption | refine Below.drew ?_ | refine Below.alloc ?_ (by simp <;> omega) _ | refine Below.alloc ?_ (by simp) _ | refine Below.setCell ?_ (by simp) _))⟩
  · intro r hr; simp only [relL, List.mem_cons, List.mem_nil_iff, or_false] at hr; rcases hr with rfl | rfl | rfl <;> (dsimp only; decide)
  · intro r hr; simp only [relL, List.mem_cons, List.mem_nil_iff, or_false] at hr; rcases hr with rfl | rfl | rfl <;> (dsimp only; decide)
  · intro r hr
    simp only [relL, List.mem_cons, List.mem_nil_iff, or_false] at hr
    rcases hr with rfl | rfl | rfl
    · exact (((slat_new (xs := [((0 : Int), (90 : Int))]) encG_len rfl rfl (by decide)).alloc _).alloc _).alloc _
    · exact ((slat_new (xs := [((10 : Int), (60 : Int)), (40, 30)]) encG_len (by simp) rfl (by decide)).alloc _).alloc _
    · exact (slat_new (xs := [((20 : Int), (5 : Int))]) encG_len (by simp) rfl (by decide)).alloc _
theorem SlAt.setOther {α : Type} {E : α → List Value} {k : Nat} {W : World} {b n c : Nat} {xs : List α} (h : SlAt E k W (.slice (some ⟨b, 0, none⟩) n c) xs) {B : Nat} (hne : B ≠ b) (i : Nat) (u : Value) : SlAt E k (W.setCell ⟨B, i, none⟩ u) (.slice (some ⟨b, 0, none⟩) n c) xs := by
  obtain ⟨A, c', e, h1, h2, h3⟩ := h
  refine ⟨A, c', e, h1, h2, fun hx => ?_⟩
  obtain ⟨b', off, hA, hb, hc⟩ := h3 hx
  rw [hA] at e
  simp only [Value.slice.injEq, Option.some.injEq, Addr.mk.injEq] at e
  obtain ⟨⟨rfl, rfl, _⟩, _⟩ := e
  refine ⟨_, _, hA, by rw [World.size_setCell]; exact hb, fun j x hj i' u' hu => ?_⟩
  exact (World.cell?_of_block (heap_setCell_other _ _ _ _ (by simpa using Ne.symm hne))).trans (hc j x hj i' u' hu)
theorem grid_any (st : Int) (w : World) : Calls Tryz.prog 62 #[.int .i64 st] w fun e w' => ∃ b c p q r, e = .returned (.agg #[.slice (some ⟨b, 0, none⟩) 4 4, .slice (some ⟨c, 0, none⟩) 3 3, .int .i64 st]) ∧ GrAt w' (gridL (.slice (some ⟨b, 0, none⟩) 4 4) (.slice (some ⟨c, 0, none⟩) 3 3) (some ⟨p, 0, none⟩) (some ⟨q, 0, none⟩) (some ⟨r, 0, none⟩) 1 2 1 st) ∧ Below w.heap.size w w' := by
  have hX := ext_alloc w (.cells #[.slice none 0 0, .slice none 0 0, .int .i64 0] 67)
  go_enter Tryz.func62, Tryz.ntmps62
  go_wp2_with (first
    | (go_at_call 52; refine (tree_any _).mono ?_; rintro e w1 ⟨b, rfl, ht, hbb, hb1⟩; have hbb' := Lib.hid hbb; clear hbb)
    | (go_at_call 110; refine (relays_any _).mono ?_; rintro e w2 ⟨c, p, q, r, rfl, hr, hra, hbs, hb2⟩; have hbs' := Lib.hid (And.intro hb1.size hbs); clear hbs; have x2 := ((BoxC.new w 67 #[.slice none 0 0, .slice none 0 0, .int .i64 0]).ext hb1).ext hb2; have f2 := x2.frozen; have c0 := x2.cell 0 _ rfl; have c1 := x2.cell 1 _ rfl; have c2 := x2.cell 2 _ rfl; have hB := ext_trans (ext_trans hX hb1) hb2; have hg : GrAt w2 (gridL (.slice (some ⟨b, 0, none⟩) 4 4) (.slice (some ⟨c, 0, none⟩) 3 3) (some ⟨p, 0, none⟩) (some ⟨q, 0, none⟩) (some ⟨r, 0, none⟩) 1 2 1 st) := ⟨ht.ext hb2, hr, treeNames, hra⟩; have HX := Lib.hid x2; clear ht hr hra x2 hX; have HG := Lib.hid hg; clear hg))
  have y := ((HX.out.setC 0 (.slice (some ⟨b, 0, none⟩) 4 4)).setC 1 (.slice (some ⟨c, 0, none⟩) 3 3)).setC 2 (.int .i64 st)
  have z0 := y.cell 0 _ rfl
  have z1 := y.cell 1 _ rfl
  have z2 := y.cell 2 _ rfl
  have l0 := hbb'.out
  have l1 := hbs'.out
  rw [World.size_alloc] at l0 l1
  have g := HG.out
  clear y HX f2 c0 c1 c2
  have hg2 : GrAt (((w2.setCell ⟨w.heap.size, 0, none⟩ (.slice (some ⟨b, 0, none⟩) 4 4)).setCell ⟨w.heap.size, 1, none⟩ (.slice (some ⟨c, 0, none⟩) 3 3)).setCell ⟨w.heap.size, 2, none⟩ (.int .i64 st)) (gridL (.slice (some ⟨b, 0, none⟩) 4 4) (.slice (some ⟨c, 0, none⟩) 3 3) (some ⟨p, 0, none⟩) (some ⟨q, 0, none⟩) (some ⟨r, 0, none⟩) 1 2 1 st) := by
    refine ⟨((SlAt.setOther g.nodes (by omega) _ _).setOther (by omega) _ _).setOther (by omega) _ _, ((SlAt.setOther g.rels (by omega) _ _).setOther (by omega) _ _).setOther (by omega) _ _, treeNames, ⟨g.at_.name, g.at_.node, ?_⟩⟩
    intro x hx
    have hp := g.at_.pts x hx
    simp only [gridL, relL, List.mem_cons, List.mem_nil_iff, or_false] at hx
    rcases hx with rfl | rfl | rfl <;> exact ((SlAt.setOther hp (by omega) _ _).setOther (by omega) _ _).setOther (by omega) _ _
  have hB2 : Below w.heap.size w (((w2.setCell ⟨w.heap.size, 0, none⟩ (.slice (some ⟨b, 0, none⟩) 4 4)).setCell ⟨w.heap.size, 1, none⟩ (.slice (some ⟨c, 0, none⟩) 3 3)).setCell ⟨w.heap.size, 2, none⟩ (.int .i64 st)) := by (repeat (first | exact Below.refl _ _ | assumption | refine Below.drew ?_ | refine Below.alloc ?_ (by simp <;> omega) _ | refine Below.alloc ?_ (by simp) _ | refine Below.setCell ?_ (by simp) _))
  generalize World.setCell (World.setCell (World.setCell w2 _ _) _ _) _ _ = w9 at z0 z1 z2 hg2 hB2 ⊢
  exact bodyPost_ret (v := .agg #[.slice (some ⟨b, 0, none⟩) 4 4, .slice (some ⟨c, 0, none⟩) 3 3, .int .i64 st]) (by simp [results, Tryz.results62, go_sem, z0, z1, z2]) rfl ⟨b, c, p, q, r, rfl, hg2, hB2⟩
end Go.Proofs.YtlogjgmfkjjhjaaGreatDoor
