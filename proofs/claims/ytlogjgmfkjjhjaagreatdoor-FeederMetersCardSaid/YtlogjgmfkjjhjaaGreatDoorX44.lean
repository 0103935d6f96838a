/-
  FeederMeters: the law's walk.
-/
import Derived.Test.YtlogjgmfkjjhjaaGreatDoorX39
import Derived.Test.YtlogjgmfkjjhjaaGreatDoorX42
import Derived.Test.YtlogjgmfkjjhjaaGreatDoorX43
set_option linter.unusedSimpArgs false
set_option linter.unusedVariables false
namespace Go.Proofs.YtlogjgmfkjjhjaaGreatDoor
open Go.RowKit

set_option maxRecDepth 100000 in
set_option maxHeartbeats 40000000 in
theorem feederMeters_any (l : List Nd) (around read : List (Int × Int)) (v va vr : Value) (w : World) (henv : Env w) (hs : SlAt encN 7 w v l) (ha : SlAt encG 2 w va around) (hr : SlAt encG 2 w vr read) :
    Calls Tryz.prog 4 #[v, va, vr] w fun e w' => e = .returned (.bool true) ∧ Below w.heap.size w w' := by
  have hB : Below w.heap.size w w := Below.refl _ _
  have haw := ha
  have hrw := hr
  obtain ⟨A2, c2, rfl, hc2, hm2, _⟩ := ha
  obtain ⟨A3, c3, rfl, hc3, hm3, _⟩ := hr
  cases hsh : shortB l
  · have hS : ∀ W, Below w.heap.size w W → Calls Tryz.prog 8 #[v] W fun e w' => e = .returned (.bool false) ∧ W = w' := fun W hW => by have := rShort_any l v W (hs.ext hW); rw [hsh] at this; exact this
    clear hsh
    have hH := Held.nil w
    go_enter Tryz.func4, Tryz.ntmps4
    go_wp2_with (first | (go_at_call 7; refine (awake_any _ (henv.ext hB)).mono ?_; rintro e Y ⟨rfl, hb⟩; replace hH := hH.ext hb; replace hB := ext_trans hB hb; (try replace hn := hn.ext hb); (try replace hea := hea.ext hb); (try replace her := her.ext hb); clear hb) | (go_at_call 8; refine (hS _ hB).mono ?_; rintro e Y ⟨rfl, rfl⟩))
    go_ret
    exact ⟨rfl, hB⟩
  have hS : ∀ W, Below w.heap.size w W → Calls Tryz.prog 8 #[v] W fun e w' => e = .returned (.bool true) ∧ W = w' := fun W hW => by have := rShort_any l v W (hs.ext hW); rw [hsh] at this; exact this
  obtain ⟨hlen, hok⟩ := shortB_len hsh
  clear hsh
  by_cases h20 : 20 < around.length
  · have hd : decide ((20 : Int) < (around.length : Int)) = true := by simp; omega
    clear h20
    have hH := Held.nil w
    go_enter Tryz.func4, Tryz.ntmps4
    go_wp2_with (first | (go_at_call 7; refine (awake_any _ (henv.ext hB)).mono ?_; rintro e Y ⟨rfl, hb⟩; replace hH := hH.ext hb; replace hB := ext_trans hB hb; (try replace hn := hn.ext hb); (try replace hea := hea.ext hb); (try replace her := her.ext hb); clear hb) | (go_at_call 8; refine (hS _ hB).mono ?_; rintro e Y ⟨rfl, rfl⟩))
    go_ret
    exact ⟨rfl, hB⟩
  have hd : decide ((20 : Int) < (around.length : Int)) = false := by simp; omega
  by_cases h21 : 20 < read.length
  · have hd2 : decide ((20 : Int) < (read.length : Int)) = true := by simp; omega
    clear h20 h21
    have hH := Held.nil w
    go_enter Tryz.func4, Tryz.ntmps4
    go_wp2_with (first | (go_at_call 7; refine (awake_any _ (henv.ext hB)).mono ?_; rintro e Y ⟨rfl, hb⟩; replace hH := hH.ext hb; replace hB := ext_trans hB hb; (try replace hn := hn.ext hb); (try replace hea := hea.ext hb); (try replace her := her.ext hb); clear hb) | (go_at_call 8; refine (hS _ hB).mono ?_; rintro e Y ⟨rfl, rfl⟩))
    go_ret
    exact ⟨rfl, hB⟩
  have hd2 : decide ((20 : Int) < (read.length : Int)) = false := by simp; omega
  have hno : ∀ W, Below w.heap.size w W → Calls Tryz.prog 10 #[v] W fun e w' => ∃ u, e = .returned u ∧ SlAt encN 7 w' u l ∧ Below W.heap.size W w' := fun W hW => (nodes_any l v (by omega) W (hs.ext hW)).mono fun e w' h => RetSl.at encN_len h
  have hen1 : ∀ W, Below w.heap.size w W → _ := fun W hW => ends_any around _ W (haw.ext hW) (by omega)
  have hen2 : ∀ W, Below w.heap.size w W → _ := fun W hW => ends_any read _ W (hrw.ext hW) (by omega)
  have hrc : ∀ W, Below w.heap.size w W → _ := fun W hW => rCheckNodes_any l v W (hs.ext hW) hok
  have hca1 : ∀ W, Below w.heap.size w W → _ := fun W hW => rCheckAround_any l v _ around W (hs.ext hW) (haw.ext hW)
  have hca2 : ∀ W, Below w.heap.size w W → _ := fun W hW => rCheckAround_any l v _ read W (hs.ext hW) (hrw.ext hW)
  have hft1 : ∀ u W, SlAt encI 1 W u [checkNodesV l, endsErr l around] → Calls Tryz.prog 14 #[u] W fun e w' => e = .returned (.int .i64 (firstV [checkNodesV l, endsErr l around])) ∧ Below W.heap.size W w' := fun u W hu => (rFirst_any _ u W hu).mono fun e w' h => ⟨h.1, h.2 ▸ Below.refl _ _⟩
  have hft2 : ∀ u W, SlAt encI 1 W u [firstV [checkNodesV l, endsErr l around], endsErr l read] → Calls Tryz.prog 14 #[u] W fun e w' => e = .returned (.int .i64 (firstV [firstV [checkNodesV l, endsErr l around], endsErr l read])) ∧ Below W.heap.size W w' := fun u W hu => (rFirst_any _ u W hu).mono fun e w' h => ⟨h.1, h.2 ▸ Below.refl _ _⟩
  have d1 := enclosedR_err l around
  have d2 := agreeR_err l around read
  have hn20 : around.length ≤ 1048576 := by omega
  have hn21 : read.length ≤ 1048576 := by omega
  clear h20 h21
  by_cases hon : firstV [checkNodesV l, endsErr l around] = 0
  · have hz := firstV_zero _ |>.1 hon
    have hbad : checkNodesV l = 0 := hz _ (by simp)
    have hea0 : endsErr l around = 0 := hz _ (by simp)
    have hgd := good_of hbad
    have hge := goodE_of hea0
    have c1 : (enclosedR l around).1 = encJL l around := by unfold enclosedR; rw [if_neg (by simp [hbad]), if_neg (by simp [hea0])]; exact enclosed_I hgd around
    have hre : ∀ W, Below w.heap.size w W → Calls Tryz.prog 28 #[v, Value.slice A2 around.length c2] W fun e w' => ∃ u', e = .returned u' ∧ SlAt encG 2 w' u' (encJL l around) ∧ Below W.heap.size W w' := fun W hW => (rEnclosed_any l v _ around hgd hge W (hs.ext hW) (haw.ext hW)).mono fun e w' h => RetSl.at encG_len h
    by_cases htw : endsErr l read = 0
    · have hgr := goodE_of htw
      have c2' : (agreeR l around read).1 = disL l around read := by unfold agreeR agreeE; rw [if_neg (by simp [hbad]), if_neg (by rw [hea0, htw]; decide)]; exact agree_I hgd hge hgr
      have hrd : ∀ W, Below w.heap.size w W → Calls Tryz.prog 29 #[v, Value.slice A2 around.length c2, Value.slice A3 read.length c3] W fun e w' => ∃ u', e = .returned u' ∧ SlAt encS 1 w' u' (disL l around read) ∧ Below W.heap.size W w' := fun W hW => (rDisagree_any l v _ _ around read hgd hge hgr.len W (hs.ext hW) (haw.ext hW) (hrw.ext hW)).mono fun e w' h => RetSl.at encS_len h
      rw [hon] at hft2 d1 d2
      rw [hon] at hft1
      rw [htw] at hft2 d2 hca2
      rw [hbad] at hft1 hrc
      rw [hea0] at hft1 hca1
      rw [show firstV [0, 0] = 0 from rfl] at hft2 d2
      have hxe := fun W u1 u2 (h1 : SlAt encN 7 W u1 l) (h2 : SlAt encG 2 W u2 around) => (Enclosed_any u1 u2 l around W h1 h2 hok hn20).mono fun e w' h => Ret2.at encG_len c1 d1 h
      have hxa := fun W u1 u2 u3 (h1 : SlAt encN 7 W u1 l) (h2 : SlAt encG 2 W u2 around) (h3 : SlAt encG 2 W u3 read) => (Agree_any u1 u2 u3 l around read W h1 h2 h3 hok hn20 hn21).mono fun e w' h => Ret2.at encS_len c2' d2 h
      generalize encJL l around = EN at hxe hre c1
      generalize disL l around read = DI at hxa hrd c2'
      clear c1 c2' d1 d2 hon htw hbad hea0 hz hge hgr
      go_enter Tryz.func4, Tryz.ntmps4
      have hH := Held.nil w
      go_wp2_with (first | (go_at_call 7; refine (awake_any _ (henv.ext hB)).mono ?_; rintro e Y ⟨rfl, hb⟩; replace hH := hH.ext hb; replace hB := ext_trans hB hb; (try replace hn := hn.ext hb); (try replace hea := hea.ext hb); (try replace her := her.ext hb); clear hb) | (go_at_call 8; refine (hS _ hB).mono ?_; rintro e Y ⟨rfl, rfl⟩))
      go_wp2_with (first | (go_at_call 10; refine (hno _ hB).mono ?_; rintro e Y ⟨vn, rfl, hn, hb⟩; replace hH := hH.ext hb; replace hB := ext_trans hB hb; (try replace hn := hn.ext hb); (try replace hea := hea.ext hb); (try replace her := her.ext hb); clear hb) | (go_at_call_of 25 (Value.slice A2 around.length c2); refine (hen1 _ hB).mono ?_; rintro e Y ⟨vea, rfl, hea, hb⟩; replace hH := hH.ext hb; replace hB := ext_trans hB hb; (try replace hn := hn.ext hb); (try replace hea := hea.ext hb); (try replace her := her.ext hb); clear hb))
      go_wp2_with (first | (go_at_call 24; refine (hxe _ _ _ hn hea).mono ?_; rintro e Y ⟨vx, rfl, hs1, hb⟩; replace hH := Held.cons hs1 (hH.ext hb); replace hB := ext_trans hB hb; (try clear hn); (try clear hea); (try clear her); clear hb hs1))
      go_wp2_with (first | (go_at_call 10; refine (hno _ hB).mono ?_; rintro e Y ⟨vn, rfl, hn, hb⟩; replace hH := hH.ext hb; replace hB := ext_trans hB hb; (try replace hn := hn.ext hb); (try replace hea := hea.ext hb); (try replace her := her.ext hb); clear hb) | (go_at_call_of 25 (Value.slice A2 around.length c2); refine (hen1 _ hB).mono ?_; rintro e Y ⟨vea, rfl, hea, hb⟩; replace hH := hH.ext hb; replace hB := ext_trans hB hb; (try replace hn := hn.ext hb); (try replace hea := hea.ext hb); (try replace her := her.ext hb); clear hb) | (go_at_call_of 25 (Value.slice A3 read.length c3); refine (hen2 _ hB).mono ?_; rintro e Y ⟨ver, rfl, her, hb⟩; replace hH := hH.ext hb; replace hB := ext_trans hB hb; (try replace hn := hn.ext hb); (try replace hea := hea.ext hb); (try replace her := her.ext hb); clear hb))
      go_wp2_with (first | (go_at_call 26; refine (hxa _ _ _ _ hn hea her).mono ?_; rintro e Y ⟨va1, rfl, hs1, hb⟩; replace hH := Held.cons hs1 (hH.ext hb); replace hB := ext_trans hB hb; (try clear hn); (try clear hea); (try clear her); clear hb hs1))
      go_wp2_with (first | (go_at_call 13; refine (hrc _ hB).mono ?_; rintro e Y ⟨rfl, hb⟩; replace hH := hH.ext hb; replace hB := ext_trans hB hb; (try replace hn := hn.ext hb); (try replace hea := hea.ext hb); (try replace her := her.ext hb); clear hb) | (go_at_call_of 27 (Value.slice A2 around.length c2); refine (hca1 _ hB).mono ?_; rintro e Y ⟨rfl, hb⟩; replace hH := hH.ext hb; replace hB := ext_trans hB hb; (try replace hn := hn.ext hb); (try replace hea := hea.ext hb); (try replace her := her.ext hb); clear hb))
      go_wp2_with (first | (go_at_call 14; refine (hft1 _ _ (slat_new encI_len (by first | rfl | simp) (by rfl) (by simp))).mono ?_; rintro e Y ⟨rfl, hb⟩; replace hH := (hH.alloc _).ext hb; replace hB := ext_trans (hB.alloc hB.size _) hb; clear hb))
      go_wp2_with (first | (go_at_call_of 27 (Value.slice A3 read.length c3); refine (hca2 _ hB).mono ?_; rintro e Y ⟨rfl, hb⟩; replace hH := hH.ext hb; replace hB := ext_trans hB hb; (try replace hn := hn.ext hb); (try replace hea := hea.ext hb); (try replace her := her.ext hb); clear hb))
      go_wp2_with (first | (go_at_call 14; refine (hft2 _ _ (slat_new encI_len (by first | rfl | simp) (by rfl) (by simp))).mono ?_; rintro e Y ⟨rfl, hb⟩; replace hH := (hH.alloc _).ext hb; replace hB := ext_trans (hB.alloc hB.size _) hb; clear hb))
      go_wp2_with (first | (go_at_call 28; refine (hre _ hB).mono ?_; rintro e Y ⟨vx2, rfl, hs1, hb⟩; replace hH := Held.cons hs1 (hH.ext hb); replace hB := ext_trans hB hb; (try clear hn); (try clear hea); (try clear her); clear hb hs1))
      go_wp2_with (first | (go_at_call 29; refine (hrd _ hB).mono ?_; rintro e Y ⟨va2, rfl, hs1, hb⟩; replace hH := Held.cons hs1 (hH.ext hb); replace hB := ext_trans hB hb; (try clear hn); (try clear hea); (try clear her); clear hb hs1))
      go_wp2_with (first | (go_at_call_of 30 vx; refine (sameIntervalsT EN vx _ _ (Held.at (E := encG) (xs := EN) hH (List.Mem.tail _ (List.Mem.tail _ (List.Mem.tail _ (List.Mem.head _))))) (Held.at (E := encG) (xs := EN) hH (List.Mem.tail _ (List.Mem.head _)))).mono ?_; rintro e Y ⟨rfl, hb⟩; replace hH := hH.ext hb; replace hB := ext_trans hB hb; (try replace hn := hn.ext hb); (try replace hea := hea.ext hb); (try replace her := her.ext hb); clear hb))
      go_wp2_with (first | (go_at_call_of 22 va1; refine (sameWordsT DI va1 _ _ (Held.at (E := encS) (xs := DI) hH (List.Mem.tail _ (List.Mem.tail _ (List.Mem.head _)))) (Held.at (E := encS) (xs := DI) hH (List.Mem.head _))).mono ?_; rintro e Y ⟨rfl, hb⟩; replace hH := hH.ext hb; replace hB := ext_trans hB hb; (try replace hn := hn.ext hb); (try replace hea := hea.ext hb); (try replace her := her.ext hb); clear hb))
      go_ret
      exact ⟨rfl, hB⟩
    have c2' : (agreeR l around read).1 = [] := by
      unfold agreeR agreeE
      rw [if_neg (by simp [hbad]), if_pos (by rw [hea0, firstV_two]; simpa using htw)]
    rw [hon] at hft2 d1 d2
    rw [hon] at hft1
    rw [hbad] at hft1 hrc
    rw [hea0] at hft1 hca1
    have hq : (endsErr l read == 0) = false := by simpa using htw
    rw [show firstV [0, endsErr l read] = endsErr l read from by rw [firstV_two]; simp] at hft2 d2
    have hxe := fun W u1 u2 (h1 : SlAt encN 7 W u1 l) (h2 : SlAt encG 2 W u2 around) => (Enclosed_any u1 u2 l around W h1 h2 hok hn20).mono fun e w' h => Ret2.at encG_len c1 d1 h
    have hxa := fun W u1 u2 u3 (h1 : SlAt encN 7 W u1 l) (h2 : SlAt encG 2 W u2 around) (h3 : SlAt encG 2 W u3 read) => (Agree_any u1 u2 u3 l around read W h1 h2 h3 hok hn20 hn21).mono fun e w' h => Ret2.at encS_len c2' d2 h
    generalize encJL l around = EN at hxe hre c1
    clear c1 c2' d1 d2 hon htw hbad hea0 hz hge
    generalize endsErr l read = er at hft2 hca2 hxa hq
    go_enter Tryz.func4, Tryz.ntmps4
    have hH := Held.nil w
    go_wp2_with (first | (go_at_call 7; refine (awake_any _ (henv.ext hB)).mono ?_; rintro e Y ⟨rfl, hb⟩; replace hH := hH.ext hb; replace hB := ext_trans hB hb; (try replace hn := hn.ext hb); (try replace hea := hea.ext hb); (try replace her := her.ext hb); clear hb) | (go_at_call 8; refine (hS _ hB).mono ?_; rintro e Y ⟨rfl, rfl⟩))
    go_wp2_with (first | (go_at_call 10; refine (hno _ hB).mono ?_; rintro e Y ⟨vn, rfl, hn, hb⟩; replace hH := hH.ext hb; replace hB := ext_trans hB hb; (try replace hn := hn.ext hb); (try replace hea := hea.ext hb); (try replace her := her.ext hb); clear hb) | (go_at_call_of 25 (Value.slice A2 around.length c2); refine (hen1 _ hB).mono ?_; rintro e Y ⟨vea, rfl, hea, hb⟩; replace hH := hH.ext hb; replace hB := ext_trans hB hb; (try replace hn := hn.ext hb); (try replace hea := hea.ext hb); (try replace her := her.ext hb); clear hb))
    go_wp2_with (first | (go_at_call 24; refine (hxe _ _ _ hn hea).mono ?_; rintro e Y ⟨vx, rfl, hs1, hb⟩; replace hH := Held.cons hs1 (hH.ext hb); replace hB := ext_trans hB hb; (try clear hn); (try clear hea); (try clear her); clear hb hs1))
    go_wp2_with (first | (go_at_call 10; refine (hno _ hB).mono ?_; rintro e Y ⟨vn, rfl, hn, hb⟩; replace hH := hH.ext hb; replace hB := ext_trans hB hb; (try replace hn := hn.ext hb); (try replace hea := hea.ext hb); (try replace her := her.ext hb); clear hb) | (go_at_call_of 25 (Value.slice A2 around.length c2); refine (hen1 _ hB).mono ?_; rintro e Y ⟨vea, rfl, hea, hb⟩; replace hH := hH.ext hb; replace hB := ext_trans hB hb; (try replace hn := hn.ext hb); (try replace hea := hea.ext hb); (try replace her := her.ext hb); clear hb) | (go_at_call_of 25 (Value.slice A3 read.length c3); refine (hen2 _ hB).mono ?_; rintro e Y ⟨ver, rfl, her, hb⟩; replace hH := hH.ext hb; replace hB := ext_trans hB hb; (try replace hn := hn.ext hb); (try replace hea := hea.ext hb); (try replace her := her.ext hb); clear hb))
    go_wp2_with (first | (go_at_call 26; refine (hxa _ _ _ _ hn hea her).mono ?_; rintro e Y ⟨va1, rfl, hs1, hb⟩; replace hH := Held.cons hs1 (hH.ext hb); replace hB := ext_trans hB hb; (try clear hn); (try clear hea); (try clear her); clear hb hs1))
    go_wp2_with (first | (go_at_call 13; refine (hrc _ hB).mono ?_; rintro e Y ⟨rfl, hb⟩; replace hH := hH.ext hb; replace hB := ext_trans hB hb; (try replace hn := hn.ext hb); (try replace hea := hea.ext hb); (try replace her := her.ext hb); clear hb) | (go_at_call_of 27 (Value.slice A2 around.length c2); refine (hca1 _ hB).mono ?_; rintro e Y ⟨rfl, hb⟩; replace hH := hH.ext hb; replace hB := ext_trans hB hb; (try replace hn := hn.ext hb); (try replace hea := hea.ext hb); (try replace her := her.ext hb); clear hb))
    go_wp2_with (first | (go_at_call 14; refine (hft1 _ _ (slat_new encI_len (by first | rfl | simp) (by rfl) (by simp))).mono ?_; rintro e Y ⟨rfl, hb⟩; replace hH := (hH.alloc _).ext hb; replace hB := ext_trans (hB.alloc hB.size _) hb; clear hb))
    go_wp2_with (first | (go_at_call_of 27 (Value.slice A3 read.length c3); refine (hca2 _ hB).mono ?_; rintro e Y ⟨rfl, hb⟩; replace hH := hH.ext hb; replace hB := ext_trans hB hb; (try replace hn := hn.ext hb); (try replace hea := hea.ext hb); (try replace her := her.ext hb); clear hb))
    go_wp2_with (first | (go_at_call 14; refine (hft2 _ _ (slat_new encI_len (by first | rfl | simp) (by rfl) (by simp))).mono ?_; rintro e Y ⟨rfl, hb⟩; replace hH := (hH.alloc _).ext hb; replace hB := ext_trans (hB.alloc hB.size _) hb; clear hb))
    go_wp2_with (first | (go_at_call 28; refine (hre _ hB).mono ?_; rintro e Y ⟨vx2, rfl, hs1, hb⟩; replace hH := Held.cons hs1 (hH.ext hb); replace hB := ext_trans hB hb; (try clear hn); (try clear hea); (try clear her); clear hb hs1))
    go_wp2_with (first | (go_at_call_of 30 vx; refine (sameIntervalsT EN vx _ _ (Held.at (E := encG) (xs := EN) hH (List.Mem.tail _ (List.Mem.tail _ (List.Mem.head _)))) (Held.at (E := encG) (xs := EN) hH (List.Mem.head _))).mono ?_; rintro e Y ⟨rfl, hb⟩; replace hH := hH.ext hb; replace hB := ext_trans hB hb; (try replace hn := hn.ext hb); (try replace hea := hea.ext hb); (try replace her := her.ext hb); clear hb))
    go_wp2_with (first | (go_at_call_of 22 va1; refine (sameWordsT [] va1 _ _ (Held.at (E := encS) (xs := []) hH (List.Mem.tail _ (List.Mem.head _))) (SlAt.nil _)).mono ?_; rintro e Y ⟨rfl, hb⟩; replace hH := hH.ext hb; replace hB := ext_trans hB hb; (try replace hn := hn.ext hb); (try replace hea := hea.ext hb); (try replace her := her.ext hb); clear hb))
    go_ret
    exact ⟨rfl, hB⟩
  have c1 : (enclosedR l around).1 = [] := by
    unfold enclosedR
    split
    · rfl
    · rename_i h
      rw [if_pos (fun h2 => hon (by rw [firstV_two]; simp at h; simp [h, h2]))]
  have c2' : (agreeR l around read).1 = [] := by
    unfold agreeR agreeE
    split
    · rfl
    · rename_i h
      rw [if_pos (fun h2 => hon (by
        have := firstV_zero _ |>.1 h2
        have h3 := this (endsErr l around) (by simp)
        rw [firstV_two]; simp at h; simp [h, h3]))]
  have hq : (firstV [checkNodesV l, endsErr l around] == 0) = false := by simpa using hon
  rw [show firstV [firstV [checkNodesV l, endsErr l around], endsErr l read] = firstV [checkNodesV l, endsErr l around] from by rw [firstV_two (firstV _)]; rw [if_pos hon]] at hft2 d2
  have hxe := fun W u1 u2 (h1 : SlAt encN 7 W u1 l) (h2 : SlAt encG 2 W u2 around) => (Enclosed_any u1 u2 l around W h1 h2 hok hn20).mono fun e w' h => Ret2.at encG_len c1 d1 h
  have hxa := fun W u1 u2 u3 (h1 : SlAt encN 7 W u1 l) (h2 : SlAt encG 2 W u2 around) (h3 : SlAt encG 2 W u3 read) => (Agree_any u1 u2 u3 l around read W h1 h2 h3 hok hn20 hn21).mono fun e w' h => Ret2.at encS_len c2' d2 h
  clear c1 c2' d1 d2 hon
  generalize firstV [checkNodesV l, endsErr l around] = on at hft1 hft2 hxe hxa hq
  generalize checkNodesV l = bad at hft1 hrc
  generalize endsErr l around = ea at hft1 hca1
  generalize endsErr l read = er at hft2 hca2
  go_enter Tryz.func4, Tryz.ntmps4
  have hH := Held.nil w
  go_wp2_with (first | (go_at_call 7; refine (awake_any _ (henv.ext hB)).mono ?_; rintro e Y ⟨rfl, hb⟩; replace hH := hH.ext hb; replace hB := ext_trans hB hb; (try replace hn := hn.ext hb); (try replace hea := hea.ext hb); (try replace her := her.ext hb); clear hb) | (go_at_call 8; refine (hS _ hB).mono ?_; rintro e Y ⟨rfl, rfl⟩))
  go_wp2_with (first | (go_at_call 10; refine (hno _ hB).mono ?_; rintro e Y ⟨vn, rfl, hn, hb⟩; replace hH := hH.ext hb; replace hB := ext_trans hB hb; (try replace hn := hn.ext hb); (try replace hea := hea.ext hb); (try replace her := her.ext hb); clear hb) | (go_at_call_of 25 (Value.slice A2 around.length c2); refine (hen1 _ hB).mono ?_; rintro e Y ⟨vea, rfl, hea, hb⟩; replace hH := hH.ext hb; replace hB := ext_trans hB hb; (try replace hn := hn.ext hb); (try replace hea := hea.ext hb); (try replace her := her.ext hb); clear hb))
  go_wp2_with (first | (go_at_call 24; refine (hxe _ _ _ hn hea).mono ?_; rintro e Y ⟨vx, rfl, hs1, hb⟩; replace hH := Held.cons hs1 (hH.ext hb); replace hB := ext_trans hB hb; (try clear hn); (try clear hea); (try clear her); clear hb hs1))
  go_wp2_with (first | (go_at_call 10; refine (hno _ hB).mono ?_; rintro e Y ⟨vn, rfl, hn, hb⟩; replace hH := hH.ext hb; replace hB := ext_trans hB hb; (try replace hn := hn.ext hb); (try replace hea := hea.ext hb); (try replace her := her.ext hb); clear hb) | (go_at_call_of 25 (Value.slice A2 around.length c2); refine (hen1 _ hB).mono ?_; rintro e Y ⟨vea, rfl, hea, hb⟩; replace hH := hH.ext hb; replace hB := ext_trans hB hb; (try replace hn := hn.ext hb); (try replace hea := hea.ext hb); (try replace her := her.ext hb); clear hb) | (go_at_call_of 25 (Value.slice A3 read.length c3); refine (hen2 _ hB).mono ?_; rintro e Y ⟨ver, rfl, her, hb⟩; replace hH := hH.ext hb; replace hB := ext_trans hB hb; (try replace hn := hn.ext hb); (try replace hea := hea.ext hb); (try replace her := her.ext hb); clear hb))
  go_wp2_with (first | (go_at_call 26; refine (hxa _ _ _ _ hn hea her).mono ?_; rintro e Y ⟨va1, rfl, hs1, hb⟩; replace hH := Held.cons hs1 (hH.ext hb); replace hB := ext_trans hB hb; (try clear hn); (try clear hea); (try clear her); clear hb hs1))
  go_wp2_with (first | (go_at_call 13; refine (hrc _ hB).mono ?_; rintro e Y ⟨rfl, hb⟩; replace hH := hH.ext hb; replace hB := ext_trans hB hb; (try replace hn := hn.ext hb); (try replace hea := hea.ext hb); (try replace her := her.ext hb); clear hb) | (go_at_call_of 27 (Value.slice A2 around.length c2); refine (hca1 _ hB).mono ?_; rintro e Y ⟨rfl, hb⟩; replace hH := hH.ext hb; replace hB := ext_trans hB hb; (try replace hn := hn.ext hb); (try replace hea := hea.ext hb); (try replace her := her.ext hb); clear hb))
  go_wp2_with (first | (go_at_call 14; refine (hft1 _ _ (slat_new encI_len (by first | rfl | simp) (by rfl) (by simp))).mono ?_; rintro e Y ⟨rfl, hb⟩; replace hH := (hH.alloc _).ext hb; replace hB := ext_trans (hB.alloc hB.size _) hb; clear hb))
  go_wp2_with (first | (go_at_call_of 27 (Value.slice A3 read.length c3); refine (hca2 _ hB).mono ?_; rintro e Y ⟨rfl, hb⟩; replace hH := hH.ext hb; replace hB := ext_trans hB hb; (try replace hn := hn.ext hb); (try replace hea := hea.ext hb); (try replace her := her.ext hb); clear hb))
  go_wp2_with (first | (go_at_call 14; refine (hft2 _ _ (slat_new encI_len (by first | rfl | simp) (by rfl) (by simp))).mono ?_; rintro e Y ⟨rfl, hb⟩; replace hH := (hH.alloc _).ext hb; replace hB := ext_trans (hB.alloc hB.size _) hb; clear hb))
  go_wp2_with (first | (go_at_call_of 30 vx; refine (sameIntervalsT [] vx _ _ (Held.at (E := encG) (xs := []) hH (List.Mem.tail _ (List.Mem.head _))) (SlAt.nil _)).mono ?_; rintro e Y ⟨rfl, hb⟩; replace hH := hH.ext hb; replace hB := ext_trans hB hb; (try replace hn := hn.ext hb); (try replace hea := hea.ext hb); (try replace her := her.ext hb); clear hb))
  go_wp2_with (first | (go_at_call_of 22 va1; refine (sameWordsT [] va1 _ _ (Held.at (E := encS) (xs := []) hH (List.Mem.head _)) (SlAt.nil _)).mono ?_; rintro e Y ⟨rfl, hb⟩; replace hH := hH.ext hb; replace hB := ext_trans hB hb; (try replace hn := hn.ext hb); (try replace hea := hea.ext hb); (try replace her := her.ext hb); clear hb))
  go_ret
  exact ⟨rfl, hB⟩
end Go.Proofs.YtlogjgmfkjjhjaaGreatDoor
