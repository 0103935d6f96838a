/-
  The contract of (Node).check: the error of a node behind others. Nodes are read from memory; strings no longer than memory holds.
-/
import Derived.Test.YtlogjgmfkjjhjaaGreatDoorX02
set_option linter.unusedSimpArgs false
set_option linter.unusedVariables false
namespace Go.Proofs.YtlogjgmfkjjhjaaGreatDoor
open Go.RowKit

def checkE1 (before : List Nd) (n : Nd) : Int := firstV [whenV (!isNameB n.name) 8, whenV (decide (0 ≤ findI before n.name)) 9, whenV (before.length == 0 && !decide (n.parent = ByteArray.empty)) 24, whenV (!(before.length == 0) && decide (findI before n.parent < 0)) 10]
def checkE2 (before : List Nd) (n : Nd) : Int := firstV [partsV n.re n.im 0 1000, whenV (before.length == 0 && !(n.re == 0 && n.im == 0)) 1, whenV (!(before.length == 0) && (n.re == 0 && n.im == 0)) 6, withinV n.lim 0 1000000000, partsV n.cre n.cim (-1000) 1000]
def nodeErr (before : List Nd) (n : Nd) : Int := if checkE1 before n ≠ 0 then checkE1 before n else checkE2 before n
theorem isEmpty_str (s : ByteArray) : s.toList.isEmpty = decide (s = ByteArray.empty) := by
  rw [ByteArray.toList_eq]
  cases s with | mk d => cases d with | mk l => cases l with
    | nil => simp; rfl
    | cons a r =>
      have : ¬ (ByteArray.mk ⟨a :: r⟩ = ByteArray.empty) := fun e => by injection e with e; injection e with e; cases e
      simp [this]

set_option maxHeartbeats 8000000 in
theorem check_r1 (before : List Nd) (n : Nd) (v : Value) (w : World) (hs : SlAt encN 7 w v before) (h1 : n.name.size ≤ 9223372036854775807) (hroot : ((before.length : Int) == 0) = true) (hz : (n.re == 0 && n.im == 0) = true) :
    Calls Tryz.prog 83 #[.agg (encN n).toArray, v] w fun e w' => e = .returned (.int .i64 (nodeErr before n)) ∧ Below w.heap.size w w' := by
  have hs0 := hs
  obtain ⟨A, c, rfl, hc, hm, hr⟩ := hs
  have hlen : before.length ≤ 9223372036854775807 := by omega
  have hrootN : (before.length == 0) = true := by rw [← hroot, Bool.eq_iff_iff]; simp
  have HRN := Lib.hid hrootN
  unfold encN
  clear hr hrootN
  go_enter Tryz.func83, Tryz.ntmps83
  go_wp2_with fail
  generalize hW : w.alloc _ = W
  have hb0 : Below w.heap.size w W := by rw [← hW]; exact ext_alloc _ _
  have c0 : W.cell? ⟨w.heap.size, 0, none⟩ = some (.string n.name) := by rw [← hW]; simp [World.cell?_alloc_new]
  have c1 : W.cell? ⟨w.heap.size, 1, none⟩ = some (.string n.parent) := by rw [← hW]; simp [World.cell?_alloc_new]
  have c2 : W.cell? ⟨w.heap.size, 2, none⟩ = some (.int .i64 n.re) := by rw [← hW]; simp [World.cell?_alloc_new]
  have c3 : W.cell? ⟨w.heap.size, 3, none⟩ = some (.int .i64 n.im) := by rw [← hW]; simp [World.cell?_alloc_new]
  have c4 : W.cell? ⟨w.heap.size, 4, none⟩ = some (.int .i64 n.lim) := by rw [← hW]; simp [World.cell?_alloc_new]
  have c5 : W.cell? ⟨w.heap.size, 5, none⟩ = some (.int .i64 n.cre) := by rw [← hW]; simp [World.cell?_alloc_new]
  have c6 : W.cell? ⟨w.heap.size, 6, none⟩ = some (.int .i64 n.cim) := by rw [← hW]; simp [World.cell?_alloc_new]
  clear hW
  refine wp_region_plan (fun w' => w'.cell? ⟨w.heap.size, 0, none⟩ = some (.string n.name) ∧ w'.cell? ⟨w.heap.size, 1, none⟩ = some (.string n.parent) ∧ w'.cell? ⟨w.heap.size, 2, none⟩ = some (.int .i64 n.re) ∧ w'.cell? ⟨w.heap.size, 3, none⟩ = some (.int .i64 n.im) ∧ w'.cell? ⟨w.heap.size, 4, none⟩ = some (.int .i64 n.lim) ∧ w'.cell? ⟨w.heap.size, 5, none⟩ = some (.int .i64 n.cre) ∧ w'.cell? ⟨w.heap.size, 6, none⟩ = some (.int .i64 n.cim) ∧ Below w.heap.size w w') [2, 4, 8, 10, 17, 24, 27, 28, 29] [0, 1, 5, 6, 7, 11, 18, 19, 2, 3, 4, 8, 9, 10, 12, 13, 14, 15, 16, 17, 20, 21, 22, 23, 24, 25, 26, 27, 28, 29, 30] (by kernel_rfl) (by kernel_rfl) (by ((first | assumption | exact keep7 (by assumption) (by assumption) | exact keep7 (by assumption) (ext_alloc _ _) | exact keep7 (by assumption) (ext_drew _) | exact keep7 ⟨by assumption, by assumption, by assumption, by assumption, by assumption, by assumption, by assumption, by assumption⟩ (ext_drew _) | go_keep))) (fun hSw => ?_)
  repeat (first
    | (refine wpPlan_pas rfl rfl (fun K hK => ?_)
       apply Exists.intro
       refine ⟨?_, ?_⟩
       · first | exact pasOk_no rfl | (apply pasOk_yes rfl; intro wS hS; obtain ⟨s0, s1, s2, s3, s4, s5, s6, s7⟩ := hS; go_simp; first | done | exact rfl | ((try simp only [↓IntWalk.iteOmega]); (try go_bits); (try go_simp); first | done | exact rfl))
       go_simp
       refine hK _ ?_
       clear hK K)
    | (refine wpPlan_no rfl rfl rfl (by assumption) (fun K hK => ?_)
       go_simp
       refine hK _ ?_
       clear hK K)
    | (refine wpPlan_act rfl rfl rfl (fun K hK => ?_)
       go_wp2_with (first | (go_at_call 98; refine (isName_any _ _ h1).mono ?_; rintro e w1 ⟨rfl, hb1⟩) | (go_at_call 82; refine (when_any _ _ _).mono ?_; rintro e w1 ⟨rfl, rfl⟩) | (go_at_call 89; refine (find_any before _ _ _ (hs0.ext (by exact held7 (by assumption)))).mono ?_; rintro e w1 ⟨rfl, hb1⟩) | (go_at_call 81; refine (first_any [_, _, _, _] _ _ (slat_new encI_len (by simp) rfl (by simp))).mono ?_; rintro e w1 ⟨rfl, rfl⟩))
       refine OnlyK.go (hK _ _ (by ((first | assumption | exact keep7 (by assumption) (by assumption) | exact keep7 (by assumption) (ext_alloc _ _) | exact keep7 (by assumption) (ext_drew _) | exact keep7 ⟨by assumption, by assumption, by assumption, by assumption, by assumption, by assumption, by assumption, by assumption⟩ (ext_drew _) | go_keep))) (fun hSw => ?_))
       clear hK K))
  refine wpPlan_nil ?_
  have hE1 : firstV [whenV (!isNameB n.name) 8, whenV (decide (0 ≤ findI before n.name)) 9, whenV (!n.parent.toList.isEmpty) 24, whenV false 10] = checkE1 before n := by
    unfold checkE1
    rw [HRN.out]
    simp [whenV, isEmpty_str]
  rw [hE1]
  clear hE1
  generalize hE : checkE1 before n = e1
  have HE := Lib.hid hE
  clear hE
  obtain ⟨d0, d1, d2, d3, d4, d5, d6, dB⟩ := hSw
  clear c0 c1 c2 c3 c4 c5 c6 hb0
  have hG := eqGauss
  cases hq : (e1 != 0)
  · go_wp2
    refine wp_region_plan (fun w' => w'.cell? ⟨w.heap.size, 0, none⟩ = some (.string n.name) ∧ w'.cell? ⟨w.heap.size, 1, none⟩ = some (.string n.parent) ∧ w'.cell? ⟨w.heap.size, 2, none⟩ = some (.int .i64 n.re) ∧ w'.cell? ⟨w.heap.size, 3, none⟩ = some (.int .i64 n.im) ∧ w'.cell? ⟨w.heap.size, 4, none⟩ = some (.int .i64 n.lim) ∧ w'.cell? ⟨w.heap.size, 5, none⟩ = some (.int .i64 n.cre) ∧ w'.cell? ⟨w.heap.size, 6, none⟩ = some (.int .i64 n.cim) ∧ Below w.heap.size w w') [2] [0, 1, 2, 3, 4] (by kernel_rfl) (by kernel_rfl) (by ((first | assumption | exact keep7 (by assumption) (by assumption) | exact keep7 (by assumption) (ext_alloc _ _) | exact keep7 (by assumption) (ext_drew _) | exact keep7 ⟨by assumption, by assumption, by assumption, by assumption, by assumption, by assumption, by assumption, by assumption⟩ (ext_drew _) | go_keep))) (fun hSw => ?_)
    repeat (first
      | (refine wpPlan_pas rfl rfl (fun K hK => ?_)
         apply Exists.intro
         refine ⟨?_, ?_⟩
         · first | exact pasOk_no rfl | (apply pasOk_yes rfl; intro wS hS; obtain ⟨s0, s1, s2, s3, s4, s5, s6, s7⟩ := hS; go_simp; first | done | exact rfl | ((try simp only [↓IntWalk.iteOmega]); (try go_bits); (try go_simp); first | done | exact rfl))
         go_simp
         refine hK _ ?_
         clear hK K)
      | (refine wpPlan_no rfl rfl rfl (by assumption) (fun K hK => ?_)
         go_simp
         refine hK _ ?_
         clear hK K)
      | (refine wpPlan_act rfl rfl rfl (fun K hK => ?_)
         go_wp2_with (first | (go_at_call 140; refine (nothing_any _).mono ?_; rintro e w1 ⟨rfl, hb1⟩))
         refine OnlyK.go (hK _ _ (by ((first | assumption | exact keep7 (by assumption) (by assumption) | exact keep7 (by assumption) (ext_alloc _ _) | exact keep7 (by assumption) (ext_drew _) | exact keep7 ⟨by assumption, by assumption, by assumption, by assumption, by assumption, by assumption, by assumption, by assumption⟩ (ext_drew _) | go_keep))) (fun hSw => ?_))
         clear hK K))
    refine wpPlan_nil ?_
    clear d0 d1 d2 d3 d4 d5 d6 dB
    obtain ⟨d0, d1, d2, d3, d4, d5, d6, dB⟩ := hSw
    go_wp2
    refine wp_region_plan (fun w' => w'.cell? ⟨w.heap.size, 0, none⟩ = some (.string n.name) ∧ w'.cell? ⟨w.heap.size, 1, none⟩ = some (.string n.parent) ∧ w'.cell? ⟨w.heap.size, 2, none⟩ = some (.int .i64 n.re) ∧ w'.cell? ⟨w.heap.size, 3, none⟩ = some (.int .i64 n.im) ∧ w'.cell? ⟨w.heap.size, 4, none⟩ = some (.int .i64 n.lim) ∧ w'.cell? ⟨w.heap.size, 5, none⟩ = some (.int .i64 n.cre) ∧ w'.cell? ⟨w.heap.size, 6, none⟩ = some (.int .i64 n.cim) ∧ Below w.heap.size w w') [2, 8, 14, 17, 20, 21, 22] [0, 1, 3, 9, 10, 15, 16, 18, 19, 2, 4, 5, 6, 7, 8, 11, 12, 13, 14, 17, 20, 21, 22, 23] (by kernel_rfl) (by kernel_rfl) (by ((first | assumption | exact keep7 (by assumption) (by assumption) | exact keep7 (by assumption) (ext_alloc _ _) | exact keep7 (by assumption) (ext_drew _) | exact keep7 ⟨by assumption, by assumption, by assumption, by assumption, by assumption, by assumption, by assumption, by assumption⟩ (ext_drew _) | go_keep))) (fun hSw => ?_)
    repeat (first
      | (refine wpPlan_pas rfl rfl (fun K hK => ?_)
         apply Exists.intro
         refine ⟨?_, ?_⟩
         · first | exact pasOk_no rfl | (apply pasOk_yes rfl; intro wS hS; obtain ⟨s0, s1, s2, s3, s4, s5, s6, s7⟩ := hS; go_simp; first | done | exact rfl | ((try simp only [↓IntWalk.iteOmega]); (try go_bits); (try go_simp); first | done | exact rfl))
         go_simp
         refine hK _ ?_
         clear hK K)
      | (refine wpPlan_no rfl rfl rfl (by assumption) (fun K hK => ?_)
         go_simp
         refine hK _ ?_
         clear hK K)
      | (refine wpPlan_act rfl rfl rfl (fun K hK => ?_)
         go_wp2_with (first | (go_at_call 103; refine (parts_any _ _ _ _ _).mono ?_; rintro e w1 ⟨rfl, hb1⟩) | (go_at_call 82; refine (when_any _ _ _).mono ?_; rintro e w1 ⟨rfl, rfl⟩) | (go_at_call 88; refine (within_any _ _ _ _).mono ?_; rintro e w1 ⟨rfl, rfl⟩) | (go_at_call 81; refine (first_any [_, _, _, _, _] _ _ (slat_new encI_len (by simp) rfl (by simp))).mono ?_; rintro e w1 ⟨rfl, rfl⟩))
         refine OnlyK.go (hK _ _ (by ((first | assumption | exact keep7 (by assumption) (by assumption) | exact keep7 (by assumption) (ext_alloc _ _) | exact keep7 (by assumption) (ext_drew _) | exact keep7 ⟨by assumption, by assumption, by assumption, by assumption, by assumption, by assumption, by assumption, by assumption⟩ (ext_drew _) | go_keep))) (fun hSw => ?_))
         clear hK K))
    refine wpPlan_nil ?_
    have hfin : nodeErr before n = firstV [partsV n.re n.im 0 1000, whenV false 1, whenV false 6, withinV n.lim 0 1000000000, partsV n.cre n.cim (-1000) 1000] := by
      have h0 : checkE1 before n = 0 := by rw [HE.out]; simpa using hq
      unfold nodeErr
      rw [if_neg (by rw [h0]; simp)]
      unfold checkE2
      rw [HRN.out, hz]
      rfl
    have HF := Lib.hid hfin
    have dB := held7 hSw
    clear hfin
    go_wp2
    go_ret
    exact ⟨by rw [HF.out]; rfl, dB⟩
  · have hfin : nodeErr before n = e1 := by
      rw [← HE.out]
      unfold nodeErr
      rw [if_pos (by rw [HE.out]; simpa using hq)]
    have HF := Lib.hid hfin
    clear hfin
    go_wp2
    go_ret
    exact ⟨by rw [HF.out]; rfl, dB⟩
set_option maxHeartbeats 8000000 in
theorem check_r2 (before : List Nd) (n : Nd) (v : Value) (w : World) (hs : SlAt encN 7 w v before) (h1 : n.name.size ≤ 9223372036854775807) (hroot : ((before.length : Int) == 0) = true) (hz : (n.re == 0 && n.im == 0) = false) :
    Calls Tryz.prog 83 #[.agg (encN n).toArray, v] w fun e w' => e = .returned (.int .i64 (nodeErr before n)) ∧ Below w.heap.size w w' := by
  have hs0 := hs
  obtain ⟨A, c, rfl, hc, hm, hr⟩ := hs
  have hlen : before.length ≤ 9223372036854775807 := by omega
  have hrootN : (before.length == 0) = true := by rw [← hroot, Bool.eq_iff_iff]; simp
  have HRN := Lib.hid hrootN
  unfold encN
  clear hr hrootN
  go_enter Tryz.func83, Tryz.ntmps83
  go_wp2_with fail
  generalize hW : w.alloc _ = W
  have hb0 : Below w.heap.size w W := by rw [← hW]; exact ext_alloc _ _
  have c0 : W.cell? ⟨w.heap.size, 0, none⟩ = some (.string n.name) := by rw [← hW]; simp [World.cell?_alloc_new]
  have c1 : W.cell? ⟨w.heap.size, 1, none⟩ = some (.string n.parent) := by rw [← hW]; simp [World.cell?_alloc_new]
  have c2 : W.cell? ⟨w.heap.size, 2, none⟩ = some (.int .i64 n.re) := by rw [← hW]; simp [World.cell?_alloc_new]
  have c3 : W.cell? ⟨w.heap.size, 3, none⟩ = some (.int .i64 n.im) := by rw [← hW]; simp [World.cell?_alloc_new]
  have c4 : W.cell? ⟨w.heap.size, 4, none⟩ = some (.int .i64 n.lim) := by rw [← hW]; simp [World.cell?_alloc_new]
  have c5 : W.cell? ⟨w.heap.size, 5, none⟩ = some (.int .i64 n.cre) := by rw [← hW]; simp [World.cell?_alloc_new]
  have c6 : W.cell? ⟨w.heap.size, 6, none⟩ = some (.int .i64 n.cim) := by rw [← hW]; simp [World.cell?_alloc_new]
  clear hW
  refine wp_region_plan (fun w' => w'.cell? ⟨w.heap.size, 0, none⟩ = some (.string n.name) ∧ w'.cell? ⟨w.heap.size, 1, none⟩ = some (.string n.parent) ∧ w'.cell? ⟨w.heap.size, 2, none⟩ = some (.int .i64 n.re) ∧ w'.cell? ⟨w.heap.size, 3, none⟩ = some (.int .i64 n.im) ∧ w'.cell? ⟨w.heap.size, 4, none⟩ = some (.int .i64 n.lim) ∧ w'.cell? ⟨w.heap.size, 5, none⟩ = some (.int .i64 n.cre) ∧ w'.cell? ⟨w.heap.size, 6, none⟩ = some (.int .i64 n.cim) ∧ Below w.heap.size w w') [2, 4, 8, 10, 17, 24, 27, 28, 29] [0, 1, 5, 6, 7, 11, 18, 19, 2, 3, 4, 8, 9, 10, 12, 13, 14, 15, 16, 17, 20, 21, 22, 23, 24, 25, 26, 27, 28, 29, 30] (by kernel_rfl) (by kernel_rfl) (by ((first | assumption | exact keep7 (by assumption) (by assumption) | exact keep7 (by assumption) (ext_alloc _ _) | exact keep7 (by assumption) (ext_drew _) | exact keep7 ⟨by assumption, by assumption, by assumption, by assumption, by assumption, by assumption, by assumption, by assumption⟩ (ext_drew _) | go_keep))) (fun hSw => ?_)
  repeat (first
    | (refine wpPlan_pas rfl rfl (fun K hK => ?_)
       apply Exists.intro
       refine ⟨?_, ?_⟩
       · first | exact pasOk_no rfl | (apply pasOk_yes rfl; intro wS hS; obtain ⟨s0, s1, s2, s3, s4, s5, s6, s7⟩ := hS; go_simp; first | done | exact rfl | ((try simp only [↓IntWalk.iteOmega]); (try go_bits); (try go_simp); first | done | exact rfl))
       go_simp
       refine hK _ ?_
       clear hK K)
    | (refine wpPlan_no rfl rfl rfl (by assumption) (fun K hK => ?_)
       go_simp
       refine hK _ ?_
       clear hK K)
    | (refine wpPlan_act rfl rfl rfl (fun K hK => ?_)
       go_wp2_with (first | (go_at_call 98; refine (isName_any _ _ h1).mono ?_; rintro e w1 ⟨rfl, hb1⟩) | (go_at_call 82; refine (when_any _ _ _).mono ?_; rintro e w1 ⟨rfl, rfl⟩) | (go_at_call 89; refine (find_any before _ _ _ (hs0.ext (by exact held7 (by assumption)))).mono ?_; rintro e w1 ⟨rfl, hb1⟩) | (go_at_call 81; refine (first_any [_, _, _, _] _ _ (slat_new encI_len (by simp) rfl (by simp))).mono ?_; rintro e w1 ⟨rfl, rfl⟩))
       refine OnlyK.go (hK _ _ (by ((first | assumption | exact keep7 (by assumption) (by assumption) | exact keep7 (by assumption) (ext_alloc _ _) | exact keep7 (by assumption) (ext_drew _) | exact keep7 ⟨by assumption, by assumption, by assumption, by assumption, by assumption, by assumption, by assumption, by assumption⟩ (ext_drew _) | go_keep))) (fun hSw => ?_))
       clear hK K))
  refine wpPlan_nil ?_
  have hE1 : firstV [whenV (!isNameB n.name) 8, whenV (decide (0 ≤ findI before n.name)) 9, whenV (!n.parent.toList.isEmpty) 24, whenV false 10] = checkE1 before n := by
    unfold checkE1
    rw [HRN.out]
    simp [whenV, isEmpty_str]
  rw [hE1]
  clear hE1
  generalize hE : checkE1 before n = e1
  have HE := Lib.hid hE
  clear hE
  obtain ⟨d0, d1, d2, d3, d4, d5, d6, dB⟩ := hSw
  clear c0 c1 c2 c3 c4 c5 c6 hb0
  have hG := eqGauss
  cases hq : (e1 != 0)
  · go_wp2
    refine wp_region_plan (fun w' => w'.cell? ⟨w.heap.size, 0, none⟩ = some (.string n.name) ∧ w'.cell? ⟨w.heap.size, 1, none⟩ = some (.string n.parent) ∧ w'.cell? ⟨w.heap.size, 2, none⟩ = some (.int .i64 n.re) ∧ w'.cell? ⟨w.heap.size, 3, none⟩ = some (.int .i64 n.im) ∧ w'.cell? ⟨w.heap.size, 4, none⟩ = some (.int .i64 n.lim) ∧ w'.cell? ⟨w.heap.size, 5, none⟩ = some (.int .i64 n.cre) ∧ w'.cell? ⟨w.heap.size, 6, none⟩ = some (.int .i64 n.cim) ∧ Below w.heap.size w w') [2] [0, 1, 2, 3, 4] (by kernel_rfl) (by kernel_rfl) (by ((first | assumption | exact keep7 (by assumption) (by assumption) | exact keep7 (by assumption) (ext_alloc _ _) | exact keep7 (by assumption) (ext_drew _) | exact keep7 ⟨by assumption, by assumption, by assumption, by assumption, by assumption, by assumption, by assumption, by assumption⟩ (ext_drew _) | go_keep))) (fun hSw => ?_)
    repeat (first
      | (refine wpPlan_pas rfl rfl (fun K hK => ?_)
         apply Exists.intro
         refine ⟨?_, ?_⟩
         · first | exact pasOk_no rfl | (apply pasOk_yes rfl; intro wS hS; obtain ⟨s0, s1, s2, s3, s4, s5, s6, s7⟩ := hS; go_simp; first | done | exact rfl | ((try simp only [↓IntWalk.iteOmega]); (try go_bits); (try go_simp); first | done | exact rfl))
         go_simp
         refine hK _ ?_
         clear hK K)
      | (refine wpPlan_no rfl rfl rfl (by assumption) (fun K hK => ?_)
         go_simp
         refine hK _ ?_
         clear hK K)
      | (refine wpPlan_act rfl rfl rfl (fun K hK => ?_)
         go_wp2_with (first | (go_at_call 140; refine (nothing_any _).mono ?_; rintro e w1 ⟨rfl, hb1⟩))
         refine OnlyK.go (hK _ _ (by ((first | assumption | exact keep7 (by assumption) (by assumption) | exact keep7 (by assumption) (ext_alloc _ _) | exact keep7 (by assumption) (ext_drew _) | exact keep7 ⟨by assumption, by assumption, by assumption, by assumption, by assumption, by assumption, by assumption, by assumption⟩ (ext_drew _) | go_keep))) (fun hSw => ?_))
         clear hK K))
    refine wpPlan_nil ?_
    clear d0 d1 d2 d3 d4 d5 d6 dB
    obtain ⟨d0, d1, d2, d3, d4, d5, d6, dB⟩ := hSw
    go_wp2
    refine wp_region_plan (fun w' => w'.cell? ⟨w.heap.size, 0, none⟩ = some (.string n.name) ∧ w'.cell? ⟨w.heap.size, 1, none⟩ = some (.string n.parent) ∧ w'.cell? ⟨w.heap.size, 2, none⟩ = some (.int .i64 n.re) ∧ w'.cell? ⟨w.heap.size, 3, none⟩ = some (.int .i64 n.im) ∧ w'.cell? ⟨w.heap.size, 4, none⟩ = some (.int .i64 n.lim) ∧ w'.cell? ⟨w.heap.size, 5, none⟩ = some (.int .i64 n.cre) ∧ w'.cell? ⟨w.heap.size, 6, none⟩ = some (.int .i64 n.cim) ∧ Below w.heap.size w w') [2, 8, 14, 17, 20, 21, 22] [0, 1, 3, 9, 10, 15, 16, 18, 19, 2, 4, 5, 6, 7, 8, 11, 12, 13, 14, 17, 20, 21, 22, 23] (by kernel_rfl) (by kernel_rfl) (by ((first | assumption | exact keep7 (by assumption) (by assumption) | exact keep7 (by assumption) (ext_alloc _ _) | exact keep7 (by assumption) (ext_drew _) | exact keep7 ⟨by assumption, by assumption, by assumption, by assumption, by assumption, by assumption, by assumption, by assumption⟩ (ext_drew _) | go_keep))) (fun hSw => ?_)
    repeat (first
      | (refine wpPlan_pas rfl rfl (fun K hK => ?_)
         apply Exists.intro
         refine ⟨?_, ?_⟩
         · first | exact pasOk_no rfl | (apply pasOk_yes rfl; intro wS hS; obtain ⟨s0, s1, s2, s3, s4, s5, s6, s7⟩ := hS; go_simp; first | done | exact rfl | ((try simp only [↓IntWalk.iteOmega]); (try go_bits); (try go_simp); first | done | exact rfl))
         go_simp
         refine hK _ ?_
         clear hK K)
      | (refine wpPlan_no rfl rfl rfl (by assumption) (fun K hK => ?_)
         go_simp
         refine hK _ ?_
         clear hK K)
      | (refine wpPlan_act rfl rfl rfl (fun K hK => ?_)
         go_wp2_with (first | (go_at_call 103; refine (parts_any _ _ _ _ _).mono ?_; rintro e w1 ⟨rfl, hb1⟩) | (go_at_call 82; refine (when_any _ _ _).mono ?_; rintro e w1 ⟨rfl, rfl⟩) | (go_at_call 88; refine (within_any _ _ _ _).mono ?_; rintro e w1 ⟨rfl, rfl⟩) | (go_at_call 81; refine (first_any [_, _, _, _, _] _ _ (slat_new encI_len (by simp) rfl (by simp))).mono ?_; rintro e w1 ⟨rfl, rfl⟩))
         refine OnlyK.go (hK _ _ (by ((first | assumption | exact keep7 (by assumption) (by assumption) | exact keep7 (by assumption) (ext_alloc _ _) | exact keep7 (by assumption) (ext_drew _) | exact keep7 ⟨by assumption, by assumption, by assumption, by assumption, by assumption, by assumption, by assumption, by assumption⟩ (ext_drew _) | go_keep))) (fun hSw => ?_))
         clear hK K))
    refine wpPlan_nil ?_
    have hfin : nodeErr before n = firstV [partsV n.re n.im 0 1000, whenV true 1, whenV false 6, withinV n.lim 0 1000000000, partsV n.cre n.cim (-1000) 1000] := by
      have h0 : checkE1 before n = 0 := by rw [HE.out]; simpa using hq
      unfold nodeErr
      rw [if_neg (by rw [h0]; simp)]
      unfold checkE2
      rw [HRN.out, hz]
      rfl
    have HF := Lib.hid hfin
    have dB := held7 hSw
    clear hfin
    go_wp2
    go_ret
    exact ⟨by rw [HF.out]; rfl, dB⟩
  · have hfin : nodeErr before n = e1 := by
      rw [← HE.out]
      unfold nodeErr
      rw [if_pos (by rw [HE.out]; simpa using hq)]
    have HF := Lib.hid hfin
    clear hfin
    go_wp2
    go_ret
    exact ⟨by rw [HF.out]; rfl, dB⟩
set_option maxHeartbeats 8000000 in
theorem check_r3 (before : List Nd) (n : Nd) (v : Value) (w : World) (hs : SlAt encN 7 w v before) (h1 : n.name.size ≤ 9223372036854775807) (hroot : ((before.length : Int) == 0) = false) (hz : (n.re == 0 && n.im == 0) = true) :
    Calls Tryz.prog 83 #[.agg (encN n).toArray, v] w fun e w' => e = .returned (.int .i64 (nodeErr before n)) ∧ Below w.heap.size w w' := by
  have hs0 := hs
  obtain ⟨A, c, rfl, hc, hm, hr⟩ := hs
  have hlen : before.length ≤ 9223372036854775807 := by omega
  have hrootN : (before.length == 0) = false := by rw [← hroot, Bool.eq_iff_iff]; simp
  have HRN := Lib.hid hrootN
  unfold encN
  clear hr hrootN
  go_enter Tryz.func83, Tryz.ntmps83
  go_wp2_with fail
  generalize hW : w.alloc _ = W
  have hb0 : Below w.heap.size w W := by rw [← hW]; exact ext_alloc _ _
  have c0 : W.cell? ⟨w.heap.size, 0, none⟩ = some (.string n.name) := by rw [← hW]; simp [World.cell?_alloc_new]
  have c1 : W.cell? ⟨w.heap.size, 1, none⟩ = some (.string n.parent) := by rw [← hW]; simp [World.cell?_alloc_new]
  have c2 : W.cell? ⟨w.heap.size, 2, none⟩ = some (.int .i64 n.re) := by rw [← hW]; simp [World.cell?_alloc_new]
  have c3 : W.cell? ⟨w.heap.size, 3, none⟩ = some (.int .i64 n.im) := by rw [← hW]; simp [World.cell?_alloc_new]
  have c4 : W.cell? ⟨w.heap.size, 4, none⟩ = some (.int .i64 n.lim) := by rw [← hW]; simp [World.cell?_alloc_new]
  have c5 : W.cell? ⟨w.heap.size, 5, none⟩ = some (.int .i64 n.cre) := by rw [← hW]; simp [World.cell?_alloc_new]
  have c6 : W.cell? ⟨w.heap.size, 6, none⟩ = some (.int .i64 n.cim) := by rw [← hW]; simp [World.cell?_alloc_new]
  clear hW
  refine wp_region_plan (fun w' => w'.cell? ⟨w.heap.size, 0, none⟩ = some (.string n.name) ∧ w'.cell? ⟨w.heap.size, 1, none⟩ = some (.string n.parent) ∧ w'.cell? ⟨w.heap.size, 2, none⟩ = some (.int .i64 n.re) ∧ w'.cell? ⟨w.heap.size, 3, none⟩ = some (.int .i64 n.im) ∧ w'.cell? ⟨w.heap.size, 4, none⟩ = some (.int .i64 n.lim) ∧ w'.cell? ⟨w.heap.size, 5, none⟩ = some (.int .i64 n.cre) ∧ w'.cell? ⟨w.heap.size, 6, none⟩ = some (.int .i64 n.cim) ∧ Below w.heap.size w w') [2, 4, 8, 10, 17, 24, 27, 28, 29] [0, 1, 5, 6, 7, 11, 18, 19, 2, 3, 4, 8, 9, 10, 12, 13, 14, 15, 16, 17, 20, 21, 22, 23, 24, 25, 26, 27, 28, 29, 30] (by kernel_rfl) (by kernel_rfl) (by ((first | assumption | exact keep7 (by assumption) (by assumption) | exact keep7 (by assumption) (ext_alloc _ _) | exact keep7 (by assumption) (ext_drew _) | exact keep7 ⟨by assumption, by assumption, by assumption, by assumption, by assumption, by assumption, by assumption, by assumption⟩ (ext_drew _) | go_keep))) (fun hSw => ?_)
  repeat (first
    | (refine wpPlan_pas rfl rfl (fun K hK => ?_)
       apply Exists.intro
       refine ⟨?_, ?_⟩
       · first | exact pasOk_no rfl | (apply pasOk_yes rfl; intro wS hS; obtain ⟨s0, s1, s2, s3, s4, s5, s6, s7⟩ := hS; go_simp; first | done | exact rfl | ((try simp only [↓IntWalk.iteOmega]); (try go_bits); (try go_simp); first | done | exact rfl))
       go_simp
       refine hK _ ?_
       clear hK K)
    | (refine wpPlan_no rfl rfl rfl (by assumption) (fun K hK => ?_)
       go_simp
       refine hK _ ?_
       clear hK K)
    | (refine wpPlan_act rfl rfl rfl (fun K hK => ?_)
       go_wp2_with (first | (go_at_call 98; refine (isName_any _ _ h1).mono ?_; rintro e w1 ⟨rfl, hb1⟩) | (go_at_call 82; refine (when_any _ _ _).mono ?_; rintro e w1 ⟨rfl, rfl⟩) | (go_at_call 89; refine (find_any before _ _ _ (hs0.ext (by exact held7 (by assumption)))).mono ?_; rintro e w1 ⟨rfl, hb1⟩) | (go_at_call 81; refine (first_any [_, _, _, _] _ _ (slat_new encI_len (by simp) rfl (by simp))).mono ?_; rintro e w1 ⟨rfl, rfl⟩))
       refine OnlyK.go (hK _ _ (by ((first | assumption | exact keep7 (by assumption) (by assumption) | exact keep7 (by assumption) (ext_alloc _ _) | exact keep7 (by assumption) (ext_drew _) | exact keep7 ⟨by assumption, by assumption, by assumption, by assumption, by assumption, by assumption, by assumption, by assumption⟩ (ext_drew _) | go_keep))) (fun hSw => ?_))
       clear hK K))
  refine wpPlan_nil ?_
  have hE1 : firstV [whenV (!isNameB n.name) 8, whenV (decide (0 ≤ findI before n.name)) 9, whenV false 24, whenV (decide (findI before n.parent < 0)) 10] = checkE1 before n := by
    unfold checkE1
    rw [HRN.out]
    simp [whenV, isEmpty_str]
  rw [hE1]
  clear hE1
  generalize hE : checkE1 before n = e1
  have HE := Lib.hid hE
  clear hE
  obtain ⟨d0, d1, d2, d3, d4, d5, d6, dB⟩ := hSw
  clear c0 c1 c2 c3 c4 c5 c6 hb0
  have hG := eqGauss
  cases hq : (e1 != 0)
  · go_wp2
    refine wp_region_plan (fun w' => w'.cell? ⟨w.heap.size, 0, none⟩ = some (.string n.name) ∧ w'.cell? ⟨w.heap.size, 1, none⟩ = some (.string n.parent) ∧ w'.cell? ⟨w.heap.size, 2, none⟩ = some (.int .i64 n.re) ∧ w'.cell? ⟨w.heap.size, 3, none⟩ = some (.int .i64 n.im) ∧ w'.cell? ⟨w.heap.size, 4, none⟩ = some (.int .i64 n.lim) ∧ w'.cell? ⟨w.heap.size, 5, none⟩ = some (.int .i64 n.cre) ∧ w'.cell? ⟨w.heap.size, 6, none⟩ = some (.int .i64 n.cim) ∧ Below w.heap.size w w') [2] [0, 1, 2, 3, 4] (by kernel_rfl) (by kernel_rfl) (by ((first | assumption | exact keep7 (by assumption) (by assumption) | exact keep7 (by assumption) (ext_alloc _ _) | exact keep7 (by assumption) (ext_drew _) | exact keep7 ⟨by assumption, by assumption, by assumption, by assumption, by assumption, by assumption, by assumption, by assumption⟩ (ext_drew _) | go_keep))) (fun hSw => ?_)
    repeat (first
      | (refine wpPlan_pas rfl rfl (fun K hK => ?_)
         apply Exists.intro
         refine ⟨?_, ?_⟩
         · first | exact pasOk_no rfl | (apply pasOk_yes rfl; intro wS hS; obtain ⟨s0, s1, s2, s3, s4, s5, s6, s7⟩ := hS; go_simp; first | done | exact rfl | ((try simp only [↓IntWalk.iteOmega]); (try go_bits); (try go_simp); first | done | exact rfl))
         go_simp
         refine hK _ ?_
         clear hK K)
      | (refine wpPlan_no rfl rfl rfl (by assumption) (fun K hK => ?_)
         go_simp
         refine hK _ ?_
         clear hK K)
      | (refine wpPlan_act rfl rfl rfl (fun K hK => ?_)
         go_wp2_with (first | (go_at_call 140; refine (nothing_any _).mono ?_; rintro e w1 ⟨rfl, hb1⟩))
         refine OnlyK.go (hK _ _ (by ((first | assumption | exact keep7 (by assumption) (by assumption) | exact keep7 (by assumption) (ext_alloc _ _) | exact keep7 (by assumption) (ext_drew _) | exact keep7 ⟨by assumption, by assumption, by assumption, by assumption, by assumption, by assumption, by assumption, by assumption⟩ (ext_drew _) | go_keep))) (fun hSw => ?_))
         clear hK K))
    refine wpPlan_nil ?_
    clear d0 d1 d2 d3 d4 d5 d6 dB
    obtain ⟨d0, d1, d2, d3, d4, d5, d6, dB⟩ := hSw
    go_wp2
    refine wp_region_plan (fun w' => w'.cell? ⟨w.heap.size, 0, none⟩ = some (.string n.name) ∧ w'.cell? ⟨w.heap.size, 1, none⟩ = some (.string n.parent) ∧ w'.cell? ⟨w.heap.size, 2, none⟩ = some (.int .i64 n.re) ∧ w'.cell? ⟨w.heap.size, 3, none⟩ = some (.int .i64 n.im) ∧ w'.cell? ⟨w.heap.size, 4, none⟩ = some (.int .i64 n.lim) ∧ w'.cell? ⟨w.heap.size, 5, none⟩ = some (.int .i64 n.cre) ∧ w'.cell? ⟨w.heap.size, 6, none⟩ = some (.int .i64 n.cim) ∧ Below w.heap.size w w') [2, 8, 14, 17, 20, 21, 22] [0, 1, 3, 9, 10, 15, 16, 18, 19, 2, 4, 5, 6, 7, 8, 11, 12, 13, 14, 17, 20, 21, 22, 23] (by kernel_rfl) (by kernel_rfl) (by ((first | assumption | exact keep7 (by assumption) (by assumption) | exact keep7 (by assumption) (ext_alloc _ _) | exact keep7 (by assumption) (ext_drew _) | exact keep7 ⟨by assumption, by assumption, by assumption, by assumption, by assumption, by assumption, by assumption, by assumption⟩ (ext_drew _) | go_keep))) (fun hSw => ?_)
    repeat (first
      | (refine wpPlan_pas rfl rfl (fun K hK => ?_)
         apply Exists.intro
         refine ⟨?_, ?_⟩
         · first | exact pasOk_no rfl | (apply pasOk_yes rfl; intro wS hS; obtain ⟨s0, s1, s2, s3, s4, s5, s6, s7⟩ := hS; go_simp; first | done | exact rfl | ((try simp only [↓IntWalk.iteOmega]); (try go_bits); (try go_simp); first | done | exact rfl))
         go_simp
         refine hK _ ?_
         clear hK K)
      | (refine wpPlan_no rfl rfl rfl (by assumption) (fun K hK => ?_)
         go_simp
         refine hK _ ?_
         clear hK K)
      | (refine wpPlan_act rfl rfl rfl (fun K hK => ?_)
         go_wp2_with (first | (go_at_call 103; refine (parts_any _ _ _ _ _).mono ?_; rintro e w1 ⟨rfl, hb1⟩) | (go_at_call 82; refine (when_any _ _ _).mono ?_; rintro e w1 ⟨rfl, rfl⟩) | (go_at_call 88; refine (within_any _ _ _ _).mono ?_; rintro e w1 ⟨rfl, rfl⟩) | (go_at_call 81; refine (first_any [_, _, _, _, _] _ _ (slat_new encI_len (by simp) rfl (by simp))).mono ?_; rintro e w1 ⟨rfl, rfl⟩))
         refine OnlyK.go (hK _ _ (by ((first | assumption | exact keep7 (by assumption) (by assumption) | exact keep7 (by assumption) (ext_alloc _ _) | exact keep7 (by assumption) (ext_drew _) | exact keep7 ⟨by assumption, by assumption, by assumption, by assumption, by assumption, by assumption, by assumption, by assumption⟩ (ext_drew _) | go_keep))) (fun hSw => ?_))
         clear hK K))
    refine wpPlan_nil ?_
    have hfin : nodeErr before n = firstV [partsV n.re n.im 0 1000, whenV false 1, whenV true 6, withinV n.lim 0 1000000000, partsV n.cre n.cim (-1000) 1000] := by
      have h0 : checkE1 before n = 0 := by rw [HE.out]; simpa using hq
      unfold nodeErr
      rw [if_neg (by rw [h0]; simp)]
      unfold checkE2
      rw [HRN.out, hz]
      rfl
    have HF := Lib.hid hfin
    have dB := held7 hSw
    clear hfin
    go_wp2
    go_ret
    exact ⟨by rw [HF.out]; rfl, dB⟩
  · have hfin : nodeErr before n = e1 := by
      rw [← HE.out]
      unfold nodeErr
      rw [if_pos (by rw [HE.out]; simpa using hq)]
    have HF := Lib.hid hfin
    clear hfin
    go_wp2
    go_ret
    exact ⟨by rw [HF.out]; rfl, dB⟩
set_option maxHeartbeats 8000000 in
theorem check_r4 (before : List Nd) (n : Nd) (v : Value) (w : World) (hs : SlAt encN 7 w v before) (h1 : n.name.size ≤ 9223372036854775807) (hroot : ((before.length : Int) == 0) = false) (hz : (n.re == 0 && n.im == 0) = false) :
    Calls Tryz.prog 83 #[.agg (encN n).toArray, v] w fun e w' => e = .returned (.int .i64 (nodeErr before n)) ∧ Below w.heap.size w w' := by
  have hs0 := hs
  obtain ⟨A, c, rfl, hc, hm, hr⟩ := hs
  have hlen : before.length ≤ 9223372036854775807 := by omega
  have hrootN : (before.length == 0) = false := by rw [← hroot, Bool.eq_iff_iff]; simp
  have HRN := Lib.hid hrootN
  unfold encN
  clear hr hrootN
  go_enter Tryz.func83, Tryz.ntmps83
  go_wp2_with fail
  generalize hW : w.alloc _ = W
  have hb0 : Below w.heap.size w W := by rw [← hW]; exact ext_alloc _ _
  have c0 : W.cell? ⟨w.heap.size, 0, none⟩ = some (.string n.name) := by rw [← hW]; simp [World.cell?_alloc_new]
  have c1 : W.cell? ⟨w.heap.size, 1, none⟩ = some (.string n.parent) := by rw [← hW]; simp [World.cell?_alloc_new]
  have c2 : W.cell? ⟨w.heap.size, 2, none⟩ = some (.int .i64 n.re) := by rw [← hW]; simp [World.cell?_alloc_new]
  have c3 : W.cell? ⟨w.heap.size, 3, none⟩ = some (.int .i64 n.im) := by rw [← hW]; simp [World.cell?_alloc_new]
  have c4 : W.cell? ⟨w.heap.size, 4, none⟩ = some (.int .i64 n.lim) := by rw [← hW]; simp [World.cell?_alloc_new]
  have c5 : W.cell? ⟨w.heap.size, 5, none⟩ = some (.int .i64 n.cre) := by rw [← hW]; simp [World.cell?_alloc_new]
  have c6 : W.cell? ⟨w.heap.size, 6, none⟩ = some (.int .i64 n.cim) := by rw [← hW]; simp [World.cell?_alloc_new]
  clear hW
  refine wp_region_plan (fun w' => w'.cell? ⟨w.heap.size, 0, none⟩ = some (.string n.name) ∧ w'.cell? ⟨w.heap.size, 1, none⟩ = some (.string n.parent) ∧ w'.cell? ⟨w.heap.size, 2, none⟩ = some (.int .i64 n.re) ∧ w'.cell? ⟨w.heap.size, 3, none⟩ = some (.int .i64 n.im) ∧ w'.cell? ⟨w.heap.size, 4, none⟩ = some (.int .i64 n.lim) ∧ w'.cell? ⟨w.heap.size, 5, none⟩ = some (.int .i64 n.cre) ∧ w'.cell? ⟨w.heap.size, 6, none⟩ = some (.int .i64 n.cim) ∧ Below w.heap.size w w') [2, 4, 8, 10, 17, 24, 27, 28, 29] [0, 1, 5, 6, 7, 11, 18, 19, 2, 3, 4, 8, 9, 10, 12, 13, 14, 15, 16, 17, 20, 21, 22, 23, 24, 25, 26, 27, 28, 29, 30] (by kernel_rfl) (by kernel_rfl) (by ((first | assumption | exact keep7 (by assumption) (by assumption) | exact keep7 (by assumption) (ext_alloc _ _) | exact keep7 (by assumption) (ext_drew _) | exact keep7 ⟨by assumption, by assumption, by assumption, by assumption, by assumption, by assumption, by assumption, by assumption⟩ (ext_drew _) | go_keep))) (fun hSw => ?_)
  repeat (first
    | (refine wpPlan_pas rfl rfl (fun K hK => ?_)
       apply Exists.intro
       refine ⟨?_, ?_⟩
       · first | exact pasOk_no rfl | (apply pasOk_yes rfl; intro wS hS; obtain ⟨s0, s1, s2, s3, s4, s5, s6, s7⟩ := hS; go_simp; first | done | exact rfl | ((try simp only [↓IntWalk.iteOmega]); (try go_bits); (try go_simp); first | done | exact rfl))
       go_simp
       refine hK _ ?_
       clear hK K)
    | (refine wpPlan_no rfl rfl rfl (by assumption) (fun K hK => ?_)
       go_simp
       refine hK _ ?_
       clear hK K)
    | (refine wpPlan_act rfl rfl rfl (fun K hK => ?_)
       go_wp2_with (first | (go_at_call 98; refine (isName_any _ _ h1).mono ?_; rintro e w1 ⟨rfl, hb1⟩) | (go_at_call 82; refine (when_any _ _ _).mono ?_; rintro e w1 ⟨rfl, rfl⟩) | (go_at_call 89; refine (find_any before _ _ _ (hs0.ext (by exact held7 (by assumption)))).mono ?_; rintro e w1 ⟨rfl, hb1⟩) | (go_at_call 81; refine (first_any [_, _, _, _] _ _ (slat_new encI_len (by simp) rfl (by simp))).mono ?_; rintro e w1 ⟨rfl, rfl⟩))
       refine OnlyK.go (hK _ _ (by ((first | assumption | exact keep7 (by assumption) (by assumption) | exact keep7 (by assumption) (ext_alloc _ _) | exact keep7 (by assumption) (ext_drew _) | exact keep7 ⟨by assumption, by assumption, by assumption, by assumption, by assumption, by assumption, by assumption, by assumption⟩ (ext_drew _) | go_keep))) (fun hSw => ?_))
       clear hK K))
  refine wpPlan_nil ?_
  have hE1 : firstV [whenV (!isNameB n.name) 8, whenV (decide (0 ≤ findI before n.name)) 9, whenV false 24, whenV (decide (findI before n.parent < 0)) 10] = checkE1 before n := by
    unfold checkE1
    rw [HRN.out]
    simp [whenV, isEmpty_str]
  rw [hE1]
  clear hE1
  generalize hE : checkE1 before n = e1
  have HE := Lib.hid hE
  clear hE
  obtain ⟨d0, d1, d2, d3, d4, d5, d6, dB⟩ := hSw
  clear c0 c1 c2 c3 c4 c5 c6 hb0
  have hG := eqGauss
  cases hq : (e1 != 0)
  · go_wp2
    refine wp_region_plan (fun w' => w'.cell? ⟨w.heap.size, 0, none⟩ = some (.string n.name) ∧ w'.cell? ⟨w.heap.size, 1, none⟩ = some (.string n.parent) ∧ w'.cell? ⟨w.heap.size, 2, none⟩ = some (.int .i64 n.re) ∧ w'.cell? ⟨w.heap.size, 3, none⟩ = some (.int .i64 n.im) ∧ w'.cell? ⟨w.heap.size, 4, none⟩ = some (.int .i64 n.lim) ∧ w'.cell? ⟨w.heap.size, 5, none⟩ = some (.int .i64 n.cre) ∧ w'.cell? ⟨w.heap.size, 6, none⟩ = some (.int .i64 n.cim) ∧ Below w.heap.size w w') [2] [0, 1, 2, 3, 4] (by kernel_rfl) (by kernel_rfl) (by ((first | assumption | exact keep7 (by assumption) (by assumption) | exact keep7 (by assumption) (ext_alloc _ _) | exact keep7 (by assumption) (ext_drew _) | exact keep7 ⟨by assumption, by assumption, by assumption, by assumption, by assumption, by assumption, by assumption, by assumption⟩ (ext_drew _) | go_keep))) (fun hSw => ?_)
    repeat (first
      | (refine wpPlan_pas rfl rfl (fun K hK => ?_)
         apply Exists.intro
         refine ⟨?_, ?_⟩
         · first | exact pasOk_no rfl | (apply pasOk_yes rfl; intro wS hS; obtain ⟨s0, s1, s2, s3, s4, s5, s6, s7⟩ := hS; go_simp; first | done | exact rfl | ((try simp only [↓IntWalk.iteOmega]); (try go_bits); (try go_simp); first | done | exact rfl))
         go_simp
         refine hK _ ?_
         clear hK K)
      | (refine wpPlan_no rfl rfl rfl (by assumption) (fun K hK => ?_)
         go_simp
         refine hK _ ?_
         clear hK K)
      | (refine wpPlan_act rfl rfl rfl (fun K hK => ?_)
         go_wp2_with (first | (go_at_call 140; refine (nothing_any _).mono ?_; rintro e w1 ⟨rfl, hb1⟩))
         refine OnlyK.go (hK _ _ (by ((first | assumption | exact keep7 (by assumption) (by assumption) | exact keep7 (by assumption) (ext_alloc _ _) | exact keep7 (by assumption) (ext_drew _) | exact keep7 ⟨by assumption, by assumption, by assumption, by assumption, by assumption, by assumption, by assumption, by assumption⟩ (ext_drew _) | go_keep))) (fun hSw => ?_))
         clear hK K))
    refine wpPlan_nil ?_
    clear d0 d1 d2 d3 d4 d5 d6 dB
    obtain ⟨d0, d1, d2, d3, d4, d5, d6, dB⟩ := hSw
    go_wp2
    refine wp_region_plan (fun w' => w'.cell? ⟨w.heap.size, 0, none⟩ = some (.string n.name) ∧ w'.cell? ⟨w.heap.size, 1, none⟩ = some (.string n.parent) ∧ w'.cell? ⟨w.heap.size, 2, none⟩ = some (.int .i64 n.re) ∧ w'.cell? ⟨w.heap.size, 3, none⟩ = some (.int .i64 n.im) ∧ w'.cell? ⟨w.heap.size, 4, none⟩ = some (.int .i64 n.lim) ∧ w'.cell? ⟨w.heap.size, 5, none⟩ = some (.int .i64 n.cre) ∧ w'.cell? ⟨w.heap.size, 6, none⟩ = some (.int .i64 n.cim) ∧ Below w.heap.size w w') [2, 8, 14, 17, 20, 21, 22] [0, 1, 3, 9, 10, 15, 16, 18, 19, 2, 4, 5, 6, 7, 8, 11, 12, 13, 14, 17, 20, 21, 22, 23] (by kernel_rfl) (by kernel_rfl) (by ((first | assumption | exact keep7 (by assumption) (by assumption) | exact keep7 (by assumption) (ext_alloc _ _) | exact keep7 (by assumption) (ext_drew _) | exact keep7 ⟨by assumption, by assumption, by assumption, by assumption, by assumption, by assumption, by assumption, by assumption⟩ (ext_drew _) | go_keep))) (fun hSw => ?_)
    repeat (first
      | (refine wpPlan_pas rfl rfl (fun K hK => ?_)
         apply Exists.intro
         refine ⟨?_, ?_⟩
         · first | exact pasOk_no rfl | (apply pasOk_yes rfl; intro wS hS; obtain ⟨s0, s1, s2, s3, s4, s5, s6, s7⟩ := hS; go_simp; first | done | exact rfl | ((try simp only [↓IntWalk.iteOmega]); (try go_bits); (try go_simp); first | done | exact rfl))
         go_simp
         refine hK _ ?_
         clear hK K)
      | (refine wpPlan_no rfl rfl rfl (by assumption) (fun K hK => ?_)
         go_simp
         refine hK _ ?_
         clear hK K)
      | (refine wpPlan_act rfl rfl rfl (fun K hK => ?_)
         go_wp2_with (first | (go_at_call 103; refine (parts_any _ _ _ _ _).mono ?_; rintro e w1 ⟨rfl, hb1⟩) | (go_at_call 82; refine (when_any _ _ _).mono ?_; rintro e w1 ⟨rfl, rfl⟩) | (go_at_call 88; refine (within_any _ _ _ _).mono ?_; rintro e w1 ⟨rfl, rfl⟩) | (go_at_call 81; refine (first_any [_, _, _, _, _] _ _ (slat_new encI_len (by simp) rfl (by simp))).mono ?_; rintro e w1 ⟨rfl, rfl⟩))
         refine OnlyK.go (hK _ _ (by ((first | assumption | exact keep7 (by assumption) (by assumption) | exact keep7 (by assumption) (ext_alloc _ _) | exact keep7 (by assumption) (ext_drew _) | exact keep7 ⟨by assumption, by assumption, by assumption, by assumption, by assumption, by assumption, by assumption, by assumption⟩ (ext_drew _) | go_keep))) (fun hSw => ?_))
         clear hK K))
    refine wpPlan_nil ?_
    have hfin : nodeErr before n = firstV [partsV n.re n.im 0 1000, whenV false 1, whenV false 6, withinV n.lim 0 1000000000, partsV n.cre n.cim (-1000) 1000] := by
      have h0 : checkE1 before n = 0 := by rw [HE.out]; simpa using hq
      unfold nodeErr
      rw [if_neg (by rw [h0]; simp)]
      unfold checkE2
      rw [HRN.out, hz]
      rfl
    have HF := Lib.hid hfin
    have dB := held7 hSw
    clear hfin
    go_wp2
    go_ret
    exact ⟨by rw [HF.out]; rfl, dB⟩
  · have hfin : nodeErr before n = e1 := by
      rw [← HE.out]
      unfold nodeErr
      rw [if_pos (by rw [HE.out]; simpa using hq)]
    have HF := Lib.hid hfin
    clear hfin
    go_wp2
    go_ret
    exact ⟨by rw [HF.out]; rfl, dB⟩
theorem check_any (before : List Nd) (n : Nd) (v : Value) (w : World) (hs : SlAt encN 7 w v before) (h1 : n.name.size ≤ 9223372036854775807) :
    Calls Tryz.prog 83 #[.agg (encN n).toArray, v] w fun e w' => e = .returned (.int .i64 (nodeErr before n)) ∧ Below w.heap.size w w' := by
  cases hroot : ((before.length : Int) == 0) <;> cases hz : (n.re == 0 && n.im == 0)
  · exact check_r4 before n v w hs h1 hroot hz
  · exact check_r3 before n v w hs h1 hroot hz
  · exact check_r2 before n v w hs h1 hroot hz
  · exact check_r1 before n v w hs h1 hroot hz
end Go.Proofs.YtlogjgmfkjjhjaaGreatDoor
