/-
  What the functions of the feeder return at the document's example.
-/
import Derived.Test.YtlogjgmfkjjhjaaGreatDoorX29
import Derived.Test.YtlogjgmfkjjhjaaGreatDoorX30
import Derived.Test.YtlogjgmfkjjhjaaGreatDoorX32
set_option linter.unusedSimpArgs false
set_option linter.unusedVariables false
namespace Go.Proofs.YtlogjgmfkjjhjaaGreatDoor
open Go.RowKit

theorem treeParents : ∀ n ∈ treeL, n.parent.size ≤ 1048576 := by
  intro n hn
  simp only [treeL, List.mem_cons, List.mem_nil_iff, or_false] at hn
  rcases hn with rfl | rfl | rfl | rfl <;> decide
theorem Own.at0 {α : Type} {E : α → List Value} {k base : Nat} {e : TypeId} {w : World} {v : Value} {xs : List α} (h : Own E k base e w v xs) (hx : 0 < xs.length) : ∃ b c, v = .slice (some ⟨b, 0, none⟩) xs.length c := by
  rcases h.2 with ⟨rfl, h0⟩ | ⟨g, cap, cur, rfl, hbb, _⟩
  · omega
  · exact ⟨g, cap, rfl⟩
theorem xChain (v : Value) (w : World) (hs : SlAt encN 7 w v treeL) : Calls Tryz.prog 9 #[v, .string ⟨#[98]⟩] w fun e w' => ∃ v, e = .returned (.tuple #[v, .int .i64 0]) ∧ SlAt encS 1 w' v [⟨#[98]⟩, ⟨#[97]⟩, ⟨#[114, 111, 111, 116]⟩] ∧ Below w.heap.size w w' := by
  refine (Chain_any v treeL ⟨#[98]⟩ w hs treeNames).mono ?_
  rintro e w' ⟨v, he, ho, hb, _⟩
  rw [x_chain] at he ho
  exact ⟨v, he, ho.slat encS_len, hb⟩
theorem xBranch (v : Value) (w : World) (hs : SlAt encN 7 w v treeL) : Calls Tryz.prog 11 #[v, .string ⟨#[97]⟩] w fun e w' => ∃ v, e = .returned (.tuple #[v, .int .i64 0]) ∧ SlAt encS 1 w' v [⟨#[97]⟩, ⟨#[98]⟩, ⟨#[99]⟩] ∧ Below w.heap.size w w' := by
  refine (Branch_any v treeL ⟨#[97]⟩ w hs treeNames).mono ?_
  rintro e w' ⟨v, he, ho, hb, _⟩
  rw [x_branch] at he ho
  exact ⟨v, he, ho.slat encS_len, hb⟩
theorem xCurrents (v : Value) (w : World) (hs : SlAt encN 7 w v treeL) : Calls Tryz.prog 12 #[v] w fun e w' => ∃ v, e = .returned (.tuple #[v, .int .i64 0]) ∧ SlAt encG 2 w' v [(16, 6), (16, 6), (6, 8), (0, -2)] ∧ Below w.heap.size w w' := by
  refine (Currents_any v treeL w hs treeNames).mono ?_
  rintro e w' ⟨v, he, ho, hb, _⟩
  rw [x_currents] at he ho
  exact ⟨v, he, ho.slat encG_len, hb⟩
theorem xVoltages (v : Value) (w : World) (hs : SlAt encN 7 w v treeL) : Calls Tryz.prog 53 #[v, .agg #[.int .i64 1000, .int .i64 0]] w fun e w' => ∃ v, e = .returned (.tuple #[v, .int .i64 0]) ∧ SlAt encG 2 w' v [(1000, 0), (1026, 28), (1016, 48), (1026, 22)] ∧ Below w.heap.size w w' := by
  refine (Voltages_any v treeL (1000, 0) w hs treeNames treeParents).mono ?_
  rintro e w' ⟨v, he, ho, hb, _⟩
  rw [x_volt] at he ho
  exact ⟨v, he, ho.slat encG_len, hb⟩
theorem xLosses (v : Value) (w : World) (hs : SlAt encN 7 w v treeL) : Calls Tryz.prog 55 #[v] w fun e w' => ∃ v, e = .returned (.tuple #[v, .int .i64 0]) ∧ SlAt encI 1 w' v ([0, 584, 100, 12] : List Int) ∧ Below w.heap.size w w' := by
  refine (Losses_any v treeL w hs treeNames).mono ?_
  rintro e w' ⟨v, he, ho, hb, _⟩
  rw [x_loss] at he ho
  exact ⟨v, he, ho.slat encI_len, hb⟩
theorem xOver (v : Value) (w : World) (hs : SlAt encN 7 w v treeL) : Calls Tryz.prog 57 #[v] w fun e w' => ∃ v, e = .returned (.tuple #[v, .int .i64 0]) ∧ SlAt encS 1 w' v [⟨#[98]⟩] ∧ Below w.heap.size w w' := by
  refine (Overloaded_any v treeL w hs treeNames).mono ?_
  rintro e w' ⟨v, he, ho, hb, _⟩
  rw [x_over] at he ho
  exact ⟨v, he, ho.slat encS_len, hb⟩
theorem xEnclosed (v : Value) (w : World) (hs : SlAt encN 7 w v treeL) (va : Value) (ha : SlAt encG 2 w va [(0, 0), (9, 11), (5, 7), (-1, 1)]) : Calls Tryz.prog 24 #[v, va] w fun e w' => ∃ v, e = .returned (.tuple #[v, .int .i64 0]) ∧ SlAt encG 2 w' v [(13, 19), (13, 19), (5, 7), (-1, 1)] ∧ Below w.heap.size w w' := by
  refine (Enclosed_any v va treeL [(0, 0), (9, 11), (5, 7), (-1, 1)] w hs ha treeNames (by decide)).mono ?_
  rintro e w' ⟨v, he, ho, hb, _⟩
  rw [x_encl] at he ho
  exact ⟨v, he, ho.slat encG_len, hb⟩
theorem xAgree (v : Value) (w : World) (hs : SlAt encN 7 w v treeL) (va vr : Value) (ha : SlAt encG 2 w va [(0, 0), (9, 11), (5, 7), (-1, 1)]) (hr : SlAt encG 2 w vr [(13, 13), (20, 21), (5, 7), (1, 9)]) : Calls Tryz.prog 26 #[v, va, vr] w fun e w' => ∃ v, e = .returned (.tuple #[v, .int .i64 0]) ∧ SlAt encS 1 w' v [⟨#[97]⟩] ∧ Below w.heap.size w w' := by
  refine (Agree_any v va vr treeL [(0, 0), (9, 11), (5, 7), (-1, 1)] [(13, 13), (20, 21), (5, 7), (1, 9)] w hs ha hr treeNames (by decide) (by decide)).mono ?_
  rintro e w' ⟨v, he, ho, hb, _⟩
  rw [x_agree] at he ho
  exact ⟨v, he, ho.slat encS_len, hb⟩
theorem xPower (v : Value) (w : World) (hs : SlAt encN 7 w v treeL) : Calls Tryz.prog 56 #[v, .agg #[.int .i64 1000, .int .i64 0]] w fun e w' => e = .returned (.tuple #[.int .i64 16000, .int .i64 696, .int .i64 0]) ∧ Below w.heap.size w w' := by
  refine (Power_any v treeL (1000, 0) w hs treeNames).mono ?_
  rintro e w' ⟨he, hb⟩
  rw [x_power] at he
  exact ⟨he, hb⟩
theorem xLevel (v : Value) (w : World) (hs : SlAt encN 7 w v treeL) : Calls Tryz.prog 32 #[v, .int .i64 120, .string ⟨#[98]⟩] w fun e w' => e = .returned (.tuple #[.int .i64 17, .int .i64 0]) ∧ Below w.heap.size w w' := by
  refine (Level_any v treeL 120 ⟨#[98]⟩ w hs treeNames).mono ?_
  rintro e w' ⟨he, hb⟩
  rw [x_level] at he
  exact ⟨he, hb⟩
theorem xCC1 (v : Value) (w : World) (hs : SlAt encN 7 w v treeL) (va : Value) (ha : SlAt encG 2 w va [(16, 6), (16, 6), (6, 8), (0, -2)]) : Calls Tryz.prog 59 #[v, va] w fun e w' => e = .returned (.int .i64 0) ∧ Below w.heap.size w w' := by
  refine (CheckCurrents_any v va treeL [(16, 6), (16, 6), (6, 8), (0, -2)] w hs treeNames ha).mono ?_
  rintro e w' ⟨he, hb⟩
  rw [x_cc1] at he
  exact ⟨he, hb⟩
theorem xCC2 (v : Value) (w : World) (hs : SlAt encN 7 w v treeL) (va : Value) (ha : SlAt encG 2 w va [(16, 6), (16, 6), (6, 8), (0, 2)]) : Calls Tryz.prog 59 #[v, va] w fun e w' => e = .returned (.int .i64 19) ∧ Below w.heap.size w w' := by
  refine (CheckCurrents_any v va treeL [(16, 6), (16, 6), (6, 8), (0, 2)] w hs treeNames ha).mono ?_
  rintro e w' ⟨he, hb⟩
  rw [x_cc2] at he
  exact ⟨he, hb⟩
theorem xTrips (b c p q r : Nat) (w : World) (hg : GrAt w (gridL (.slice (some ⟨b, 0, none⟩) 4 4) (.slice (some ⟨c, 0, none⟩) 3 3) (some ⟨p, 0, none⟩) (some ⟨q, 0, none⟩) (some ⟨r, 0, none⟩) 1 2 1 120)) : Calls Tryz.prog 33 #[.agg #[.slice (some ⟨b, 0, none⟩) 4 4, .slice (some ⟨c, 0, none⟩) 3 3, .int .i64 120], .string ⟨#[98]⟩] w fun e w' => ∃ d n, e = .returned (.tuple #[.slice (some ⟨d, 0, none⟩) 2 n, .int .i64 0]) ∧ SlAt encTr 2 w' (.slice (some ⟨d, 0, none⟩) 2 n) [(⟨#[115]⟩, 60), (⟨#[114]⟩, 90)] ∧ Below w.heap.size w w' := by
  refine (Trips_any _ ⟨#[98]⟩ w hg (by simp [gridL, relL])).mono ?_
  rintro e w' ⟨v, he, ho, hb, _⟩
  rw [x_trips] at he ho
  obtain ⟨d, n, rfl⟩ := ho.at0 (by simp)
  exact ⟨d, n, he, ho.slat encTr_len, hb⟩
theorem xOpens1 (b c p q r : Nat) (w : World) (hg : GrAt w (gridL (.slice (some ⟨b, 0, none⟩) 4 4) (.slice (some ⟨c, 0, none⟩) 3 3) (some ⟨p, 0, none⟩) (some ⟨q, 0, none⟩) (some ⟨r, 0, none⟩) 1 2 1 140)) : Calls Tryz.prog 45 #[.agg #[.slice (some ⟨b, 0, none⟩) 4 4, .slice (some ⟨c, 0, none⟩) 3 3, .int .i64 140], .string ⟨#[98]⟩, .slice none 0 0] w fun e w' => e = .returned (.tuple #[.agg #[.string ⟨#[116]⟩, .int .i64 5], .int .i64 0]) ∧ Below w.heap.size w w' := by
  refine (Opens_any _ ⟨#[98]⟩ [] _ w hg (by simp [gridL, relL]) (SlAt.nil w)).mono ?_
  rintro e w' ⟨he, hb⟩
  rw [x_open1] at he
  exact ⟨he, hb⟩
theorem xOpens2 (b c p q r : Nat) (w : World) (hg : GrAt w (gridL (.slice (some ⟨b, 0, none⟩) 4 4) (.slice (some ⟨c, 0, none⟩) 3 3) (some ⟨p, 0, none⟩) (some ⟨q, 0, none⟩) (some ⟨r, 0, none⟩) 1 2 1 140)) (vf : Value) (hf : SlAt encS 1 w vf [⟨#[98]⟩]) : Calls Tryz.prog 45 #[.agg #[.slice (some ⟨b, 0, none⟩) 4 4, .slice (some ⟨c, 0, none⟩) 3 3, .int .i64 140], .string ⟨#[98]⟩, vf] w fun e w' => e = .returned (.tuple #[.agg #[.string ⟨#[115]⟩, .int .i64 60], .int .i64 0]) ∧ Below w.heap.size w w' := by
  refine (Opens_any _ ⟨#[98]⟩ [⟨#[98]⟩] _ w hg (by simp [gridL, relL]) hf).mono ?_
  rintro e w' ⟨he, hb⟩
  rw [x_open2] at he
  exact ⟨he, hb⟩
theorem xOpens3 (b c p q r : Nat) (w : World) (hg : GrAt w (gridL (.slice (some ⟨b, 0, none⟩) 4 4) (.slice (some ⟨c, 0, none⟩) 3 3) (some ⟨p, 0, none⟩) (some ⟨q, 0, none⟩) (some ⟨r, 0, none⟩) 1 2 1 0)) (vf : Value) (hf : SlAt encS 1 w vf [⟨#[114, 111, 111, 116]⟩]) : Calls Tryz.prog 45 #[.agg #[.slice (some ⟨b, 0, none⟩) 4 4, .slice (some ⟨c, 0, none⟩) 3 3, .int .i64 0], .string ⟨#[99]⟩, vf] w fun e w' => ∃ s n, e = .returned (.tuple #[.agg #[.string s, .int .i64 n], .int .i64 7]) ∧ Below w.heap.size w w' := by
  refine (Opens_any _ ⟨#[99]⟩ [⟨#[114, 111, 111, 116]⟩] _ w hg (by simp [gridL, relL]) hf).mono ?_
  rintro e w' ⟨he, hb⟩
  rw [x_open3] at he
  exact ⟨_, _, he, hb⟩
theorem xDead1 (b c p q r : Nat) (w : World) (hg : GrAt w (gridL (.slice (some ⟨b, 0, none⟩) 4 4) (.slice (some ⟨c, 0, none⟩) 3 3) (some ⟨p, 0, none⟩) (some ⟨q, 0, none⟩) (some ⟨r, 0, none⟩) 1 2 1 140)) (vf : Value) (hf : SlAt encS 1 w vf [⟨#[98]⟩]) : Calls Tryz.prog 47 #[.agg #[.slice (some ⟨b, 0, none⟩) 4 4, .slice (some ⟨c, 0, none⟩) 3 3, .int .i64 140], .string ⟨#[98]⟩, vf] w fun e w' => ∃ v, e = .returned (.tuple #[v, .int .i64 0]) ∧ SlAt encS 1 w' v [⟨#[97]⟩, ⟨#[98]⟩, ⟨#[99]⟩] ∧ Below w.heap.size w w' := by
  refine (Dead_any _ ⟨#[98]⟩ [⟨#[98]⟩] _ w hg (by simp [gridL, relL]) hf).mono ?_
  rintro e w' ⟨v, he, ho, hb, _⟩
  rw [x_dead1] at he ho
  exact ⟨v, he, ho.slat encS_len, hb⟩
theorem xDead2 (b c p q r : Nat) (w : World) (hg : GrAt w (gridL (.slice (some ⟨b, 0, none⟩) 4 4) (.slice (some ⟨c, 0, none⟩) 3 3) (some ⟨p, 0, none⟩) (some ⟨q, 0, none⟩) (some ⟨r, 0, none⟩) 1 2 1 140)) (vf : Value) (hf : SlAt encS 1 w vf [⟨#[98]⟩, ⟨#[97]⟩]) : Calls Tryz.prog 47 #[.agg #[.slice (some ⟨b, 0, none⟩) 4 4, .slice (some ⟨c, 0, none⟩) 3 3, .int .i64 140], .string ⟨#[98]⟩, vf] w fun e w' => ∃ v, e = .returned (.tuple #[v, .int .i64 0]) ∧ SlAt encS 1 w' v [⟨#[114, 111, 111, 116]⟩, ⟨#[97]⟩, ⟨#[98]⟩, ⟨#[99]⟩] ∧ Below w.heap.size w w' := by
  refine (Dead_any _ ⟨#[98]⟩ [⟨#[98]⟩, ⟨#[97]⟩] _ w hg (by simp [gridL, relL]) hf).mono ?_
  rintro e w' ⟨v, he, ho, hb, _⟩
  rw [x_dead2] at he ho
  exact ⟨v, he, ho.slat encS_len, hb⟩
theorem xUns1 (b c p q r : Nat) (w : World) (hg : GrAt w (gridL (.slice (some ⟨b, 0, none⟩) 4 4) (.slice (some ⟨c, 0, none⟩) 3 3) (some ⟨p, 0, none⟩) (some ⟨q, 0, none⟩) (some ⟨r, 0, none⟩) 1 2 1 140)) : Calls Tryz.prog 63 #[.agg #[.slice (some ⟨b, 0, none⟩) 4 4, .slice (some ⟨c, 0, none⟩) 3 3, .int .i64 140], .int .i64 55] w fun e w' => ∃ v xs, e = .returned (.tuple #[v, .int .i64 0]) ∧ SlAt encS 1 w' v xs ∧ (xs.any fun x => decide ((⟨#[98]⟩ : ByteArray) = x)) = false ∧ Below w.heap.size w w' := by
  refine (Unselective_any _ 55 w hg (by simp [gridL, relL]) (timesOk _)).mono ?_
  rintro e w' ⟨v, he, ho, hb, _⟩
  have hx := x_uns1 (.slice (some ⟨b, 0, none⟩) 4 4) (.slice (some ⟨c, 0, none⟩) 3 3) (some ⟨p, 0, none⟩) (some ⟨q, 0, none⟩) (some ⟨r, 0, none⟩) 1 2 1
  obtain ⟨h1, h2⟩ := Prod.mk.inj hx
  rw [h2] at he
  exact ⟨v, _, he, ho.slat encS_len, h1, hb⟩
theorem xUns2 (b c p q r : Nat) (w : World) (hg : GrAt w (gridL (.slice (some ⟨b, 0, none⟩) 4 4) (.slice (some ⟨c, 0, none⟩) 3 3) (some ⟨p, 0, none⟩) (some ⟨q, 0, none⟩) (some ⟨r, 0, none⟩) 1 2 1 140)) : Calls Tryz.prog 63 #[.agg #[.slice (some ⟨b, 0, none⟩) 4 4, .slice (some ⟨c, 0, none⟩) 3 3, .int .i64 140], .int .i64 56] w fun e w' => ∃ v xs, e = .returned (.tuple #[v, .int .i64 0]) ∧ SlAt encS 1 w' v xs ∧ (xs.any fun x => decide ((⟨#[98]⟩ : ByteArray) = x)) = true ∧ Below w.heap.size w w' := by
  refine (Unselective_any _ 56 w hg (by simp [gridL, relL]) (timesOk _)).mono ?_
  rintro e w' ⟨v, he, ho, hb, _⟩
  have hx := x_uns2 (.slice (some ⟨b, 0, none⟩) 4 4) (.slice (some ⟨c, 0, none⟩) 3 3) (some ⟨p, 0, none⟩) (some ⟨q, 0, none⟩) (some ⟨r, 0, none⟩) 1 2 1
  obtain ⟨h1, h2⟩ := Prod.mk.inj hx
  rw [h2] at he
  exact ⟨v, _, he, ho.slat encS_len, h1, hb⟩
theorem xLocated (b c p q r : Nat) (w : World) (hg : GrAt w (gridL (.slice (some ⟨b, 0, none⟩) 4 4) (.slice (some ⟨c, 0, none⟩) 3 3) (some ⟨p, 0, none⟩) (some ⟨q, 0, none⟩) (some ⟨r, 0, none⟩) 1 2 1 120)) (vf : Value) (hf : SlAt encS 1 w vf [⟨#[115]⟩, ⟨#[114]⟩]) : Calls Tryz.prog 64 #[.agg #[.slice (some ⟨b, 0, none⟩) 4 4, .slice (some ⟨c, 0, none⟩) 3 3, .int .i64 120], vf] w fun e w' => ∃ v, e = .returned (.tuple #[v, .int .i64 0]) ∧ SlAt encS 1 w' v [⟨#[97]⟩, ⟨#[98]⟩, ⟨#[99]⟩] ∧ Below w.heap.size w w' := by
  refine (Located_any _ [⟨#[115]⟩, ⟨#[114]⟩] _ w hg (by simp [gridL, relL]) hf).mono ?_
  rintro e w' ⟨v, he, ho, hb, _⟩
  rw [x_loc] at he ho
  exact ⟨v, he, ho.slat encS_len, hb⟩
theorem xLive (v : Value) (w : World) (hs : SlAt encN 7 w v treeL) (vf : Value) (hf : SlAt encS 1 w vf [⟨#[97]⟩]) : Calls Tryz.prog 65 #[v, vf] w fun e w' => ∃ v, e = .returned (.tuple #[v, .int .i64 0]) ∧ SlAt encS 1 w' v [⟨#[114, 111, 111, 116]⟩] ∧ Below w.heap.size w w' := by
  refine (Live_any v vf treeL [⟨#[97]⟩] w hs treeNames hf).mono ?_
  rintro e w' ⟨v, he, ho, hb, _⟩
  rw [x_live] at he ho
  exact ⟨v, he, ho.slat encS_len, hb⟩
theorem xSw1 (v : Value) (w : World) (hs : SlAt encN 7 w v treeL) (ve vs : Value) (he : SlAt encS 1 w ve [⟨#[99]⟩]) (hst : SlAt encSt 2 w vs [(⟨#[97]⟩, true), (⟨#[99]⟩, false)]) : Calls Tryz.prog 66 #[v, ve, vs] w fun e w' => ∃ u, e = .returned (.tuple #[u, .int .i64 1, .int .i64 29]) ∧ Below w.heap.size w w' := by
  refine (Switched_any v ve vs treeL _ _ w hs treeNames he hst (fun s hs => by simp only [List.mem_cons, List.mem_nil_iff, or_false] at hs; subst hs <;> decide) (fun s hs => by simp only [List.mem_cons, List.mem_nil_iff, or_false] at hs; rcases hs with rfl | rfl <;> decide) (by decide)).mono ?_
  rintro e w' ⟨u, hr, ho, hb, _⟩
  rw [x_sw1] at hr
  exact ⟨u, hr, hb⟩
theorem xSw2 (v : Value) (w : World) (hs : SlAt encN 7 w v treeL) (ve vs : Value) (he : SlAt encS 1 w ve [⟨#[99]⟩]) (hst : SlAt encSt 2 w vs [(⟨#[98]⟩, true)]) : Calls Tryz.prog 66 #[v, ve, vs] w fun e w' => ∃ u, e = .returned (.tuple #[u, .int .i64 0, .int .i64 0]) ∧ SlAt encS 1 w' u [⟨#[98]⟩, ⟨#[99]⟩] ∧ Below w.heap.size w w' := by
  refine (Switched_any v ve vs treeL _ _ w hs treeNames he hst (fun s hs => by simp only [List.mem_cons, List.mem_nil_iff, or_false] at hs; subst hs <;> decide) (fun s hs => by simp only [List.mem_cons, List.mem_nil_iff, or_false] at hs; subst hs <;> decide) (by decide)).mono ?_
  rintro e w' ⟨u, hr, ho, hb, _⟩
  rw [x_sw2] at hr ho
  exact ⟨u, hr, ho.slat encS_len, hb⟩
theorem xPrint (v : Value) (w : World) (hs : SlAt encN 7 w v (treeL.take 2)) (he : Env w) : Calls Tryz.prog 67 #[v] w fun e w' => e = .returned (.tuple #[.string ⟨#[110, 111, 100, 101, 32, 114, 111, 111, 116, 32, 45, 32, 48, 32, 48, 32, 48, 32, 48, 32, 48, 10, 110, 111, 100, 101, 32, 97, 32, 114, 111, 111, 116, 32, 50, 32, 49, 32, 53, 48, 48, 32, 49, 48, 32, 48, 10]⟩, .int .i64 0]) ∧ Below w.heap.size w w' := by
  refine (Print_any v (treeL.take 2) w hs (fun n hn => treeNames n (List.mem_of_mem_take hn)) he).mono ?_
  rintro e w' ⟨he, hb⟩
  rw [x_print] at he
  exact ⟨he, hb⟩
theorem xParse (w : World) (henv : Env w) : Calls Tryz.prog 68 #[.string ⟨#[110, 111, 100, 101, 32, 114, 111, 111, 116, 32, 45, 32, 48, 32, 48, 32, 48, 32, 48, 32, 48, 10, 110, 111, 100, 101, 32, 97, 32, 114, 111, 111, 116, 32, 50, 32, 49, 32, 53, 48, 48, 32, 49, 48, 32, 48, 10]⟩] w fun e w' => ∃ d n, e = .returned (.tuple #[.slice (some ⟨d, 0, none⟩) 2 n, .int .i64 0, .int .i64 0]) ∧ SlAt encN 7 w' (.slice (some ⟨d, 0, none⟩) 2 n) (treeL.take 2) ∧ Below w.heap.size w w' := by
  refine (Parse_any _ w henv).mono ?_
  rintro e w' ⟨v, he, ho, hb, _⟩
  rw [x_parse] at he ho
  obtain ⟨d, n, rfl⟩ := ho.at0 (by decide)
  exact ⟨d, n, he, ho.slat encN_len, hb⟩
theorem sameWordsT (xs : List ByteArray) (v1 v2 : Value) (w : World) (h1 : SlAt encS 1 w v1 xs) (h2 : SlAt encS 1 w v2 xs) : Calls Tryz.prog 22 #[v1, v2] w fun e w' => e = .returned (.bool true) ∧ Below w.heap.size w w' := by
  refine (sameWords_any xs xs v1 v2 w h1 h2).mono ?_
  rintro e w' ⟨he, hb⟩
  rw [decide_eq_true rfl] at he
  exact ⟨he, hb⟩
theorem sameIntsT (xs : List Int) (v1 v2 : Value) (w : World) (h1 : SlAt encI 1 w v1 xs) (h2 : SlAt encI 1 w v2 xs) : Calls Tryz.prog 61 #[v1, v2] w fun e w' => e = .returned (.bool true) ∧ Below w.heap.size w w' := by
  refine (sameInts_any xs xs v1 v2 w h1 h2).mono ?_
  rintro e w' ⟨he, hb⟩
  rw [decide_eq_true rfl] at he
  exact ⟨he, hb⟩
theorem sameGaussT (xs : List (Int × Int)) (v1 v2 : Value) (w : World) (h1 : SlAt encG 2 w v1 xs) (h2 : SlAt encG 2 w v2 xs) : Calls Tryz.prog 23 #[v1, v2] w fun e w' => e = .returned (.bool true) ∧ Below w.heap.size w w' := by
  refine (sameGauss_any xs xs v1 v2 w h1 h2).mono ?_
  rintro e w' ⟨he, hb⟩
  rw [decide_eq_true rfl] at he
  exact ⟨he, hb⟩
theorem sameIntervalsT (xs : List (Int × Int)) (v1 v2 : Value) (w : World) (h1 : SlAt encG 2 w v1 xs) (h2 : SlAt encG 2 w v2 xs) : Calls Tryz.prog 30 #[v1, v2] w fun e w' => e = .returned (.bool true) ∧ Below w.heap.size w w' := by
  refine (sameIntervals_any xs xs v1 v2 w h1 h2).mono ?_
  rintro e w' ⟨he, hb⟩
  rw [decide_eq_true rfl] at he
  exact ⟨he, hb⟩
theorem hasWordT (xs : List ByteArray) (v : Value) (s : ByteArray) (r : Bool) (w : World) (h : SlAt encS 1 w v xs) (hr : (xs.any fun x => decide (s = x)) = r) : Calls Tryz.prog 69 #[v, .string s] w fun e w' => e = .returned (.bool r) ∧ w = w' := by
  refine (hasWord_any xs v s w h).mono ?_
  rintro e w' ⟨he, hb⟩
  rw [hr] at he
  exact ⟨he, hb⟩
end Go.Proofs.YtlogjgmfkjjhjaaGreatDoor
