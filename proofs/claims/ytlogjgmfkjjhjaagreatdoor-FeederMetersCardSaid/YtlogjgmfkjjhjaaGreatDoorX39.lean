/-
  FeederTrees: the law's walk.
-/
import Derived.Test.YtlogjgmfkjjhjaaGreatDoorX35
import Derived.Test.YtlogjgmfkjjhjaaGreatDoorX38
set_option linter.unusedSimpArgs false
set_option linter.unusedVariables false
namespace Go.Proofs.YtlogjgmfkjjhjaaGreatDoor
open Go.RowKit

theorem shortB_len {l : List Nd} (h : shortB l = true) : l.length ≤ 17 ∧ Names l := by
  unfold shortB at h
  simp only [Bool.and_eq_true, Bool.or_eq_true, decide_eq_true_eq, List.all_eq_true] at h
  refine ⟨by omega, fun n hn => ?_⟩
  have := h.1 n hn
  unfold shortN at this
  simp only [Bool.and_eq_true, decide_eq_true_eq] at this
  omega
theorem Ret2.at {α : Type} {E : α → List Value} {k : Nat} {e : TypeId} {r : List α × Int} {w w' : World} {x : Ending} (hE : ∀ x, (E x).length = k) {xs : List α} {z : Int} (h1 : r.1 = xs) (h2 : r.2 = z) (h : Ret2 E k e r w x w') : ∃ v, x = .returned (.tuple #[v, .int .i64 z]) ∧ SlAt E k w' v xs ∧ Below w.heap.size w w' := by
  obtain ⟨v, h3, h4, h5, _⟩ := h
  subst h1; subst h2
  exact ⟨v, h3, h4.slat hE, h5⟩
theorem RetSl.at {α : Type} {E : α → List Value} {k : Nat} {e : TypeId} {xs : List α} {w w' : World} {x : Ending} (hE : ∀ x, (E x).length = k) (h : RetSl E k e xs w x w') : ∃ v, x = .returned v ∧ SlAt E k w' v xs ∧ Below w.heap.size w w' := by
  obtain ⟨v, h3, h4, h5, _⟩ := h
  exact ⟨v, h3, h4.slat hE, h5⟩
theorem chainR_err (l : List Nd) (s : ByteArray) : (chainR l s).2 = checkNodeV l s := by unfold chainR; split <;> simp_all
theorem branchR_err (l : List Nd) (s : ByteArray) : (branchR l s).2 = checkNodeV l s := by unfold branchR; split <;> simp_all
theorem currentsR_err (l : List Nd) : (currentsR l).2 = checkNodesV l := by unfold currentsR; split <;> simp_all

set_option maxRecDepth 100000 in
set_option maxHeartbeats 40000000 in
theorem feederTrees_any (l : List Nd) (v : Value) (s : ByteArray) (w : World) (henv : Env w) (hs : SlAt encN 7 w v l) :
    Calls Tryz.prog 3 #[v, .string s] w fun e w' => e = .returned (.bool true) ∧ Below w.heap.size w w' := by
  have hB : Below w.heap.size w w := Below.refl _ _
  cases hsh : shortB l
  · have hS : ∀ W, Below w.heap.size w W → Calls Tryz.prog 8 #[v] W fun e w' => e = .returned (.bool false) ∧ W = w' := fun W hW => by have := rShort_any l v W (hs.ext hW); rw [hsh] at this; exact this
    clear hsh
    have hH := Held.nil w
    go_enter Tryz.func3, Tryz.ntmps3
    go_wp2_with (first | (go_at_call 7; refine (awake_any _ (henv.ext hB)).mono ?_; rintro e Y ⟨rfl, hb⟩; replace hH := hH.ext hb; replace hB := ext_trans hB hb; (try replace hn := hn.ext hb); (try replace hx := hx.ext hb); clear hb) | (go_at_call 8; refine (hS _ hB).mono ?_; rintro e Y ⟨rfl, rfl⟩))
    go_ret
    exact ⟨rfl, hB⟩
  have hS : ∀ W, Below w.heap.size w W → Calls Tryz.prog 8 #[v] W fun e w' => e = .returned (.bool true) ∧ W = w' := fun W hW => by have := rShort_any l v W (hs.ext hW); rw [hsh] at this; exact this
  obtain ⟨hlen, hok⟩ := shortB_len hsh
  clear hsh
  by_cases h40 : 40 < s.size
  · have hd : decide ((40 : Int) < (s.size : Int)) = true := by simp; omega
    clear h40
    have hH := Held.nil w
    go_enter Tryz.func3, Tryz.ntmps3
    go_wp2_with (first | (go_at_call 7; refine (awake_any _ (henv.ext hB)).mono ?_; rintro e Y ⟨rfl, hb⟩; replace hH := hH.ext hb; replace hB := ext_trans hB hb; (try replace hn := hn.ext hb); (try replace hx := hx.ext hb); clear hb) | (go_at_call 8; refine (hS _ hB).mono ?_; rintro e Y ⟨rfl, rfl⟩))
    go_ret
    exact ⟨rfl, hB⟩
  have hd : decide ((40 : Int) < (s.size : Int)) = false := by simp; omega
  clear h40
  have hno : ∀ W, Below w.heap.size w W → Calls Tryz.prog 10 #[v] W fun e w' => ∃ u, e = .returned u ∧ SlAt encN 7 w' u l ∧ Below W.heap.size W w' := fun W hW => (nodes_any l v (by omega) W (hs.ext hW)).mono fun e w' h => RetSl.at encN_len h
  have hrc : ∀ W, Below w.heap.size w W → _ := fun W hW => rCheckNodes_any l v W (hs.ext hW) hok
  have hck : ∀ u W, SlAt encN 7 W u l → _ := fun u W hu => checkNodes_any l u W hu hok
  have hfi : ∀ W, Below w.heap.size w W → _ := fun W hW => rFind_any l v s W (hs.ext hW)
  have hwh := fun W => rWhen_any (decide (findI l s < 0)) 10 W
  have hft : ∀ u W, SlAt encI 1 W u [checkNodesV l, whenV (decide (findI l s < 0)) 10] → Calls Tryz.prog 14 #[u] W fun e w' => e = .returned (.int .i64 (checkNodeV l s)) ∧ Below W.heap.size W w' := fun u W hu => (rFirst_any _ u W hu).mono fun e w' h => ⟨h.1, h.2 ▸ Below.refl _ _⟩
  by_cases hon : checkNodeV l s = 0
  · obtain ⟨hgd, hk0⟩ := checkNodeV_zero hon
    obtain ⟨i, hki, hil, _⟩ := findI_ge hk0
    have hbad : checkNodesV l = 0 := by
      unfold checkNodeV at hon
      simp only [firstV_zero, List.mem_cons, List.mem_nil_iff, or_false, forall_eq_or_imp, forall_eq] at hon
      exact hon.1
    have c1 : (chainR l s).1 = (chainI l i).map (nameAt l) := by unfold chainR; rw [if_neg (by simp [hon]), ← hki]; exact names_I l s
    have c2 : (branchR l s).1 = (branchI l i).map (nameAt l) := by unfold branchR; rw [if_neg (by simp [hon]), ← hki]; exact branchNames_I hgd hk0
    have c3 : (currentsR l).1 = (List.range l.length).map (curI l) := by unfold currentsR; rw [if_neg (by simp [hbad])]; exact currents_I hgd
    have d1 := chainR_err l s
    have d2 := branchR_err l s
    have d3 := currentsR_err l
    have hn1 : ∀ W u, Below w.heap.size w W → SlAt encI 1 W u (chainI l i) → Calls Tryz.prog 17 #[v, u] W fun e w' => ∃ u', e = .returned u' ∧ SlAt encS 1 w' u' ((chainI l i).map (nameAt l)) ∧ Below W.heap.size W w' := fun W u hW hu => (rNames_any l v u _ (walkI_mem l _ _ (by omega)) (Nat.le_trans (walkI_len _ _ _) (by omega)) W (hs.ext hW) hu).mono fun e w' h => RetSl.at encS_len h
    have hn2 : ∀ W u, Below w.heap.size w W → SlAt encI 1 W u (branchI l i) → Calls Tryz.prog 17 #[v, u] W fun e w' => ∃ u', e = .returned u' ∧ SlAt encS 1 w' u' ((branchI l i).map (nameAt l)) ∧ Below W.heap.size W w' := fun W u hW hu => (rNames_any l v u _ (branchI_mem) (Nat.le_trans (pickI_len _ _) (by omega)) W (hs.ext hW) hu).mono fun e w' h => RetSl.at encS_len h
    have hrcu : ∀ W, Below w.heap.size w W → Calls Tryz.prog 20 #[v] W fun e w' => ∃ u', e = .returned u' ∧ SlAt encG 2 w' u' ((List.range l.length).map (curI l)) ∧ Below W.heap.size W w' := fun W hW => (rCurrents_any l v hgd W (hs.ext hW)).mono fun e w' h => RetSl.at encG_len h
    rw [hon] at d1 d2 hft
    rw [hbad] at d3 hrc hck hft
    have hch := fun W u (hu : SlAt encN 7 W u l) => (Chain_any u l s W hu hok).mono fun e w' h => Ret2.at encS_len c1 d1 h
    have hbr := fun W u (hu : SlAt encN 7 W u l) => (Branch_any u l s W hu hok).mono fun e w' h => Ret2.at encS_len c2 d2 h
    have hcu := fun W u (hu : SlAt encN 7 W u l) => (Currents_any u l W hu hok).mono fun e w' h => Ret2.at encG_len c3 d3 h
    rw [hki] at hfi
    have hdk : decide (findI l s < 0) = false := by simp; omega
    rw [hdk] at hwh hft
    have hdi : decide ((i : Int) < 0) = false := by simp
    generalize (chainI l i).map (nameAt l) = CH at hn1 hch c1
    generalize (branchI l i).map (nameAt l) = BR at hn2 hbr c2
    generalize (List.range l.length).map (curI l) = CU at hrcu hcu c3
    clear c1 c2 c3 d1 d2 d3 hdk hon hbad hki hk0
    go_enter Tryz.func3, Tryz.ntmps3
    have hH := Held.nil w
    go_wp2_with (first | (go_at_call 7; refine (awake_any _ (henv.ext hB)).mono ?_; rintro e Y ⟨rfl, hb⟩; replace hH := hH.ext hb; replace hB := ext_trans hB hb; (try replace hn := hn.ext hb); (try replace hx := hx.ext hb); clear hb) | (go_at_call 8; refine (hS _ hB).mono ?_; rintro e Y ⟨rfl, rfl⟩))
    go_wp2_with (first | (go_at_call 10; refine (hno _ hB).mono ?_; rintro e Y ⟨vn, rfl, hn, hb⟩; replace hH := hH.ext hb; replace hB := ext_trans hB hb; (try replace hn := hn.ext hb); (try replace hx := hx.ext hb); clear hb))
    go_wp2_with (first | (go_at_call 9; refine (hch _ _ hn).mono ?_; rintro e Y ⟨va, rfl, hs1, hb⟩; replace hH := Held.cons hs1 (hH.ext hb); replace hB := ext_trans hB hb; (try clear hn); clear hb hs1))
    go_wp2_with (first | (go_at_call 10; refine (hno _ hB).mono ?_; rintro e Y ⟨vn, rfl, hn, hb⟩; replace hH := hH.ext hb; replace hB := ext_trans hB hb; (try replace hn := hn.ext hb); (try replace hx := hx.ext hb); clear hb))
    go_wp2_with (first | (go_at_call 11; refine (hbr _ _ hn).mono ?_; rintro e Y ⟨vb, rfl, hs1, hb⟩; replace hH := Held.cons hs1 (hH.ext hb); replace hB := ext_trans hB hb; (try clear hn); clear hb hs1))
    go_wp2_with (first | (go_at_call 10; refine (hno _ hB).mono ?_; rintro e Y ⟨vn, rfl, hn, hb⟩; replace hH := hH.ext hb; replace hB := ext_trans hB hb; (try replace hn := hn.ext hb); (try replace hx := hx.ext hb); clear hb))
    go_wp2_with (first | (go_at_call 12; refine (hcu _ _ hn).mono ?_; rintro e Y ⟨vc, rfl, hs1, hb⟩; replace hH := Held.cons hs1 (hH.ext hb); replace hB := ext_trans hB hb; (try clear hn); clear hb hs1))
    go_wp2_with (first | (go_at_call 13; refine (hrc _ hB).mono ?_; rintro e Y ⟨rfl, hb⟩; replace hH := hH.ext hb; replace hB := ext_trans hB hb; (try replace hn := hn.ext hb); (try replace hx := hx.ext hb); clear hb))
    go_wp2_with (first | (go_at_call 16; refine (hfi _ hB).mono ?_; rintro e Y ⟨rfl, rfl⟩) | (go_at_call 15; refine (hwh _).mono ?_; rintro e Y ⟨rfl, rfl⟩) | (go_at_call 14; refine (hft _ _ (slat_new encI_len (by first | rfl | simp) (by rfl) (by simp))).mono ?_; rintro e Y ⟨rfl, hb⟩; replace hH := (hH.alloc _).ext hb; replace hB := ext_trans (hB.alloc hB.size _) hb; (try replace hn := (hn.alloc _).ext hb); (try replace hx := (hx.alloc _).ext hb); clear hb))
    go_wp2_with (first | (go_at_call 16; refine (hfi _ hB).mono ?_; rintro e Y ⟨rfl, rfl⟩) | (go_at_call 18; refine (rChain_any l v i hgd hil _ (hs.ext hB)).mono ?_; rintro e Y ⟨vi, rfl, ho, hb, _⟩; have hx := ho.slat encI_len; clear ho; replace hH := hH.ext hb; replace hB := ext_trans hB hb; (try replace hn := hn.ext hb); (try replace hx := hx.ext hb); clear hb))
    go_wp2_with (first | (go_at_call 17; refine (hn1 _ _ hB hx).mono ?_; rintro e Y ⟨vx1, rfl, hs1, hb⟩; replace hH := Held.cons hs1 (hH.ext hb); replace hB := ext_trans hB hb; clear hx; clear hb hs1))
    go_wp2_with (first | (go_at_call 16; refine (hfi _ hB).mono ?_; rintro e Y ⟨rfl, rfl⟩) | (go_at_call 19; refine (rBranch_any l v i hgd _ (hs.ext hB)).mono ?_; rintro e Y ⟨vi, rfl, ho, hb, _⟩; have hx := ho.slat encI_len; clear ho; replace hH := hH.ext hb; replace hB := ext_trans hB hb; (try replace hn := hn.ext hb); (try replace hx := hx.ext hb); clear hb))
    go_wp2_with (first | (go_at_call 17; refine (hn2 _ _ hB hx).mono ?_; rintro e Y ⟨vx2, rfl, hs1, hb⟩; replace hH := Held.cons hs1 (hH.ext hb); replace hB := ext_trans hB hb; clear hx; clear hb hs1))
    go_wp2_with (first | (go_at_call 20; refine (hrcu _ hB).mono ?_; rintro e Y ⟨vx3, rfl, hs1, hb⟩; replace hH := Held.cons hs1 (hH.ext hb); replace hB := ext_trans hB hb; (try clear hn); clear hb hs1))
    go_wp2_with (first | (go_at_call 10; refine (hno _ hB).mono ?_; rintro e Y ⟨vn, rfl, hn, hb⟩; replace hH := hH.ext hb; replace hB := ext_trans hB hb; (try replace hn := hn.ext hb); (try replace hx := hx.ext hb); clear hb))
    go_wp2_with (first | (go_at_call 21; refine (hck _ _ hn).mono ?_; rintro e Y ⟨rfl, hb⟩; replace hH := hH.ext hb; replace hB := ext_trans hB hb; (try replace hn := hn.ext hb); (try replace hx := hx.ext hb); clear hb; clear hn))
    go_wp2_with (first | (go_at_call_of 22 va; refine (sameWordsT CH va _ _ (Held.at (E := encS) (xs := CH) hH (List.Mem.tail _ (List.Mem.tail _ (List.Mem.tail _ (List.Mem.tail _ (List.Mem.tail _ (List.Mem.head _))))))) (Held.at (E := encS) (xs := CH) hH (List.Mem.tail _ (List.Mem.tail _ (List.Mem.head _))))).mono ?_; rintro e Y ⟨rfl, hb⟩; replace hH := hH.ext hb; replace hB := ext_trans hB hb; (try replace hn := hn.ext hb); (try replace hx := hx.ext hb); clear hb))
    go_wp2_with (first | (go_at_call_of 22 vb; refine (sameWordsT BR vb _ _ (Held.at (E := encS) (xs := BR) hH (List.Mem.tail _ (List.Mem.tail _ (List.Mem.tail _ (List.Mem.tail _ (List.Mem.head _)))))) (Held.at (E := encS) (xs := BR) hH (List.Mem.tail _ (List.Mem.head _)))).mono ?_; rintro e Y ⟨rfl, hb⟩; replace hH := hH.ext hb; replace hB := ext_trans hB hb; (try replace hn := hn.ext hb); (try replace hx := hx.ext hb); clear hb))
    go_wp2_with (first | (go_at_call_of 23 vc; refine (sameGaussT CU vc _ _ (Held.at (E := encG) (xs := CU) hH (List.Mem.tail _ (List.Mem.tail _ (List.Mem.tail _ (List.Mem.head _))))) (Held.at (E := encG) (xs := CU) hH (List.Mem.head _))).mono ?_; rintro e Y ⟨rfl, hb⟩; replace hH := hH.ext hb; replace hB := ext_trans hB hb; (try replace hn := hn.ext hb); (try replace hx := hx.ext hb); clear hb))
    go_ret
    exact ⟨rfl, hB⟩
  have hnq : (checkNodeV l s == 0) = false := by simpa using hon
  have c1 : (chainR l s).1 = [] := by unfold chainR; rw [if_pos hon]
  have c2 : (branchR l s).1 = [] := by unfold branchR; rw [if_pos hon]
  have d1 := chainR_err l s
  have d2 := branchR_err l s
  have d3 := currentsR_err l
  have hch := fun W u (hu : SlAt encN 7 W u l) => (Chain_any u l s W hu hok).mono fun e w' h => Ret2.at encS_len c1 d1 h
  have hbr := fun W u (hu : SlAt encN 7 W u l) => (Branch_any u l s W hu hok).mono fun e w' h => Ret2.at encS_len c2 d2 h
  clear c1 c2 d1 d2 hon
  generalize checkNodeV l s = on at hch hbr hft hnq
  generalize hkk : findI l s = kk at hfi hwh hft
  clear hkk
  by_cases hbad : checkNodesV l = 0
  · have hgd := good_of hbad
    have c3 : (currentsR l).1 = (List.range l.length).map (curI l) := by unfold currentsR; rw [if_neg (by simp [hbad])]; exact currents_I hgd
    have hrcu : ∀ W, Below w.heap.size w W → Calls Tryz.prog 20 #[v] W fun e w' => ∃ u', e = .returned u' ∧ SlAt encG 2 w' u' ((List.range l.length).map (curI l)) ∧ Below W.heap.size W w' := fun W hW => (rCurrents_any l v hgd W (hs.ext hW)).mono fun e w' h => RetSl.at encG_len h
    rw [hbad] at d3 hrc hck hft
    have hcu := fun W u (hu : SlAt encN 7 W u l) => (Currents_any u l W hu hok).mono fun e w' h => Ret2.at encG_len c3 d3 h
    generalize (List.range l.length).map (curI l) = CU at hrcu hcu c3
    clear c3 d3 hbad
    go_enter Tryz.func3, Tryz.ntmps3
    have hH := Held.nil w
    go_wp2_with (first | (go_at_call 7; refine (awake_any _ (henv.ext hB)).mono ?_; rintro e Y ⟨rfl, hb⟩; replace hH := hH.ext hb; replace hB := ext_trans hB hb; (try replace hn := hn.ext hb); (try replace hx := hx.ext hb); clear hb) | (go_at_call 8; refine (hS _ hB).mono ?_; rintro e Y ⟨rfl, rfl⟩))
    go_wp2_with (first | (go_at_call 10; refine (hno _ hB).mono ?_; rintro e Y ⟨vn, rfl, hn, hb⟩; replace hH := hH.ext hb; replace hB := ext_trans hB hb; (try replace hn := hn.ext hb); (try replace hx := hx.ext hb); clear hb))
    go_wp2_with (first | (go_at_call 9; refine (hch _ _ hn).mono ?_; rintro e Y ⟨va, rfl, hs1, hb⟩; replace hH := Held.cons hs1 (hH.ext hb); replace hB := ext_trans hB hb; (try clear hn); clear hb hs1))
    go_wp2_with (first | (go_at_call 10; refine (hno _ hB).mono ?_; rintro e Y ⟨vn, rfl, hn, hb⟩; replace hH := hH.ext hb; replace hB := ext_trans hB hb; (try replace hn := hn.ext hb); (try replace hx := hx.ext hb); clear hb))
    go_wp2_with (first | (go_at_call 11; refine (hbr _ _ hn).mono ?_; rintro e Y ⟨vb, rfl, hs1, hb⟩; replace hH := Held.cons hs1 (hH.ext hb); replace hB := ext_trans hB hb; (try clear hn); clear hb hs1))
    go_wp2_with (first | (go_at_call 10; refine (hno _ hB).mono ?_; rintro e Y ⟨vn, rfl, hn, hb⟩; replace hH := hH.ext hb; replace hB := ext_trans hB hb; (try replace hn := hn.ext hb); (try replace hx := hx.ext hb); clear hb))
    go_wp2_with (first | (go_at_call 12; refine (hcu _ _ hn).mono ?_; rintro e Y ⟨vc, rfl, hs1, hb⟩; replace hH := Held.cons hs1 (hH.ext hb); replace hB := ext_trans hB hb; (try clear hn); clear hb hs1))
    go_wp2_with (first | (go_at_call 13; refine (hrc _ hB).mono ?_; rintro e Y ⟨rfl, hb⟩; replace hH := hH.ext hb; replace hB := ext_trans hB hb; (try replace hn := hn.ext hb); (try replace hx := hx.ext hb); clear hb))
    go_wp2_with (first | (go_at_call 16; refine (hfi _ hB).mono ?_; rintro e Y ⟨rfl, rfl⟩) | (go_at_call 15; refine (hwh _).mono ?_; rintro e Y ⟨rfl, rfl⟩) | (go_at_call 14; refine (hft _ _ (slat_new encI_len (by first | rfl | simp) (by rfl) (by simp))).mono ?_; rintro e Y ⟨rfl, hb⟩; replace hH := (hH.alloc _).ext hb; replace hB := ext_trans (hB.alloc hB.size _) hb; (try replace hn := (hn.alloc _).ext hb); (try replace hx := (hx.alloc _).ext hb); clear hb))
    go_wp2_with (first | (go_at_call 20; refine (hrcu _ hB).mono ?_; rintro e Y ⟨vx3, rfl, hs1, hb⟩; replace hH := Held.cons hs1 (hH.ext hb); replace hB := ext_trans hB hb; (try clear hn); clear hb hs1))
    go_wp2_with (first | (go_at_call 10; refine (hno _ hB).mono ?_; rintro e Y ⟨vn, rfl, hn, hb⟩; replace hH := hH.ext hb; replace hB := ext_trans hB hb; (try replace hn := hn.ext hb); (try replace hx := hx.ext hb); clear hb))
    go_wp2_with (first | (go_at_call 21; refine (hck _ _ hn).mono ?_; rintro e Y ⟨rfl, hb⟩; replace hH := hH.ext hb; replace hB := ext_trans hB hb; (try replace hn := hn.ext hb); (try replace hx := hx.ext hb); clear hb; clear hn))
    go_wp2_with (first | (go_at_call_of 22 va; refine (sameWordsT [] va _ _ (Held.at (E := encS) (xs := []) hH (List.Mem.tail _ (List.Mem.tail _ (List.Mem.tail _ (List.Mem.head _))))) (SlAt.nil _)).mono ?_; rintro e Y ⟨rfl, hb⟩; replace hH := hH.ext hb; replace hB := ext_trans hB hb; (try replace hn := hn.ext hb); (try replace hx := hx.ext hb); clear hb))
    go_wp2_with (first | (go_at_call_of 22 vb; refine (sameWordsT [] vb _ _ (Held.at (E := encS) (xs := []) hH (List.Mem.tail _ (List.Mem.tail _ (List.Mem.head _)))) (SlAt.nil _)).mono ?_; rintro e Y ⟨rfl, hb⟩; replace hH := hH.ext hb; replace hB := ext_trans hB hb; (try replace hn := hn.ext hb); (try replace hx := hx.ext hb); clear hb))
    go_wp2_with (first | (go_at_call_of 23 vc; refine (sameGaussT CU vc _ _ (Held.at (E := encG) (xs := CU) hH (List.Mem.tail _ (List.Mem.head _))) (Held.at (E := encG) (xs := CU) hH (List.Mem.head _))).mono ?_; rintro e Y ⟨rfl, hb⟩; replace hH := hH.ext hb; replace hB := ext_trans hB hb; (try replace hn := hn.ext hb); (try replace hx := hx.ext hb); clear hb))
    go_ret
    exact ⟨rfl, hB⟩
  have hbq : (checkNodesV l == 0) = false := by simpa using hbad
  have c3 : (currentsR l).1 = [] := by unfold currentsR; rw [if_pos hbad]
  have hcu := fun W u (hu : SlAt encN 7 W u l) => (Currents_any u l W hu hok).mono fun e w' h => Ret2.at encG_len c3 d3 h
  clear c3 d3 hbad
  generalize checkNodesV l = bad at hcu hrc hck hft hbq
  go_enter Tryz.func3, Tryz.ntmps3
  have hH := Held.nil w
  go_wp2_with (first | (go_at_call 7; refine (awake_any _ (henv.ext hB)).mono ?_; rintro e Y ⟨rfl, hb⟩; replace hH := hH.ext hb; replace hB := ext_trans hB hb; (try replace hn := hn.ext hb); (try replace hx := hx.ext hb); clear hb) | (go_at_call 8; refine (hS _ hB).mono ?_; rintro e Y ⟨rfl, rfl⟩))
  go_wp2_with (first | (go_at_call 10; refine (hno _ hB).mono ?_; rintro e Y ⟨vn, rfl, hn, hb⟩; replace hH := hH.ext hb; replace hB := ext_trans hB hb; (try replace hn := hn.ext hb); (try replace hx := hx.ext hb); clear hb))
  go_wp2_with (first | (go_at_call 9; refine (hch _ _ hn).mono ?_; rintro e Y ⟨va, rfl, hs1, hb⟩; replace hH := Held.cons hs1 (hH.ext hb); replace hB := ext_trans hB hb; (try clear hn); clear hb hs1))
  go_wp2_with (first | (go_at_call 10; refine (hno _ hB).mono ?_; rintro e Y ⟨vn, rfl, hn, hb⟩; replace hH := hH.ext hb; replace hB := ext_trans hB hb; (try replace hn := hn.ext hb); (try replace hx := hx.ext hb); clear hb))
  go_wp2_with (first | (go_at_call 11; refine (hbr _ _ hn).mono ?_; rintro e Y ⟨vb, rfl, hs1, hb⟩; replace hH := Held.cons hs1 (hH.ext hb); replace hB := ext_trans hB hb; (try clear hn); clear hb hs1))
  go_wp2_with (first | (go_at_call 10; refine (hno _ hB).mono ?_; rintro e Y ⟨vn, rfl, hn, hb⟩; replace hH := hH.ext hb; replace hB := ext_trans hB hb; (try replace hn := hn.ext hb); (try replace hx := hx.ext hb); clear hb))
  go_wp2_with (first | (go_at_call 12; refine (hcu _ _ hn).mono ?_; rintro e Y ⟨vc, rfl, hs1, hb⟩; replace hH := Held.cons hs1 (hH.ext hb); replace hB := ext_trans hB hb; (try clear hn); clear hb hs1))
  go_wp2_with (first | (go_at_call 13; refine (hrc _ hB).mono ?_; rintro e Y ⟨rfl, hb⟩; replace hH := hH.ext hb; replace hB := ext_trans hB hb; (try replace hn := hn.ext hb); (try replace hx := hx.ext hb); clear hb))
  go_wp2_with (first | (go_at_call 16; refine (hfi _ hB).mono ?_; rintro e Y ⟨rfl, rfl⟩) | (go_at_call 15; refine (hwh _).mono ?_; rintro e Y ⟨rfl, rfl⟩) | (go_at_call 14; refine (hft _ _ (slat_new encI_len (by first | rfl | simp) (by rfl) (by simp))).mono ?_; rintro e Y ⟨rfl, hb⟩; replace hH := (hH.alloc _).ext hb; replace hB := ext_trans (hB.alloc hB.size _) hb; (try replace hn := (hn.alloc _).ext hb); (try replace hx := (hx.alloc _).ext hb); clear hb))
  go_wp2_with (first | (go_at_call 10; refine (hno _ hB).mono ?_; rintro e Y ⟨vn, rfl, hn, hb⟩; replace hH := hH.ext hb; replace hB := ext_trans hB hb; (try replace hn := hn.ext hb); (try replace hx := hx.ext hb); clear hb))
  go_wp2_with (first | (go_at_call 21; refine (hck _ _ hn).mono ?_; rintro e Y ⟨rfl, hb⟩; replace hH := hH.ext hb; replace hB := ext_trans hB hb; (try replace hn := hn.ext hb); (try replace hx := hx.ext hb); clear hb; clear hn))
  go_wp2_with (first | (go_at_call_of 22 va; refine (sameWordsT [] va _ _ (Held.at (E := encS) (xs := []) hH (List.Mem.tail _ (List.Mem.tail _ (List.Mem.head _)))) (SlAt.nil _)).mono ?_; rintro e Y ⟨rfl, hb⟩; replace hH := hH.ext hb; replace hB := ext_trans hB hb; (try replace hn := hn.ext hb); (try replace hx := hx.ext hb); clear hb))
  go_wp2_with (first | (go_at_call_of 22 vb; refine (sameWordsT [] vb _ _ (Held.at (E := encS) (xs := []) hH (List.Mem.tail _ (List.Mem.head _))) (SlAt.nil _)).mono ?_; rintro e Y ⟨rfl, hb⟩; replace hH := hH.ext hb; replace hB := ext_trans hB hb; (try replace hn := hn.ext hb); (try replace hx := hx.ext hb); clear hb))
  go_wp2_with (first | (go_at_call_of 23 vc; refine (sameGaussT [] vc _ _ (Held.at (E := encG) (xs := []) hH (List.Mem.head _)) (SlAt.nil _)).mono ?_; rintro e Y ⟨rfl, hb⟩; replace hH := hH.ext hb; replace hB := ext_trans hB hb; (try replace hn := hn.ext hb); (try replace hx := hx.ext hb); clear hb))
  go_ret
  exact ⟨rfl, hB⟩
end Go.Proofs.YtlogjgmfkjjhjaaGreatDoor
