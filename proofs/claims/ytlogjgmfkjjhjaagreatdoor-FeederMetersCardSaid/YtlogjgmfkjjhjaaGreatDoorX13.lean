/-
  feeder.CheckRelays.
  Grids: Grid.check, Grid.checkNode.
-/
import Derived.Test.YtlogjgmfkjjhjaaGreatDoorX01
import Derived.Test.YtlogjgmfkjjhjaaGreatDoorX12
set_option linter.unusedSimpArgs false
set_option linter.unusedVariables false
namespace Go.Proofs.YtlogjgmfkjjhjaaGreatDoor
open Go.RowKit

/-- the names that a set holds -/
def knownF (xs : List ByteArray) : ByteArray → Option Value := fun s => if hasS xs s then some (.bool true) else none
theorem knownF_put (xs : List ByteArray) (s : ByteArray) : putF (knownF xs) s (.bool true) = knownF (xs ++ [s]) := by
  funext t
  unfold putF knownF
  by_cases e : t = s
  · subst e; simp [hasS]
  · rw [if_neg e]
    have : hasS (xs ++ [s]) t = hasS xs t := by simp [hasS, e]
    rw [this]
theorem knownF_nil : (fun _ => none : ByteArray → Option Value) = knownF [] := by funext t; simp [knownF, hasS]
theorem MapV.known {K b n : Nat} {w : World} {xs : List ByteArray} (h : MapV K b n w (knownF xs)) (hK : Tryz.prog.underlying K = some .string) (hT : Tryz.prog.underlying 165 = some (.map K 4)) {s : ByteArray} (hs : s.size ≤ maxLen) :
    (Instr.lookup 165 (.map (some b)) (.string s) false).run Tryz.prog w = .ok (.bool (hasS xs s)) w := by
  rw [h.run hK hT (Tryz.zeroValue4 w) hs]
  unfold knownF
  cases hasS xs s <;> rfl

def relErr (l : List Nd) (names nodes : List ByteArray) (r : Rl) : Int := firstV [whenV (!isNameB r.name) 8, whenV (hasS names r.name) 9, whenV (decide (findI l r.node < 0)) 10, whenV (hasS nodes r.node) 31, ptsErr r.pts]
def relGo (l : List Nd) : List Rl → List Rl → Int
  | _, [] => 0
  | before, r :: rs => if relErr l (before.map Rl.name) (before.map Rl.node) r ≠ 0 then relErr l (before.map Rl.name) (before.map Rl.node) r else relGo l (before ++ [r]) rs
def relaysE (l : List Nd) (rs : List Rl) : Int := firstV [checkNodesV l, whenV (decide (16 < rs.length)) 5]
def relaysV (l : List Nd) (rs : List Rl) : Int := if relaysE l rs ≠ 0 then relaysE l rs else relGo l [] rs
theorem relGo_step (l : List Nd) (rs : List Rl) (k : Nat) (hk : k < rs.length) : relGo l (rs.take k) (rs.drop k) = if relErr l ((rs.take k).map Rl.name) ((rs.take k).map Rl.node) rs[k] ≠ 0 then relErr l ((rs.take k).map Rl.name) ((rs.take k).map Rl.node) rs[k] else relGo l (rs.take (k + 1)) (rs.drop (k + 1)) := by
  rw [List.drop_eq_getElem_cons hk, relGo, List.take_succ_eq_append_getElem hk]

/-- names that Go can hold, and points that lie in memory -/
structure RelsAt (w : World) (rs : List Rl) : Prop where
  name : ∀ r ∈ rs, r.name.size ≤ 1048576
  node : ∀ r ∈ rs, r.node.size ≤ 1048576
  pts : ∀ r ∈ rs, SlAt encG 2 w r.pv r.pts
theorem RelsAt.ext {w w1 : World} {rs : List Rl} (h : RelsAt w rs) (hb : Below w.heap.size w w1) : RelsAt w1 rs := ⟨h.name, h.node, fun r hr => (h.pts r hr).ext hb⟩

theorem keepMM3 {w W W1 : World} {a0 a1 a2 : Addr} {u0 u1 u2 : Value} {K b1 n1 b2 n2 : Nat} {f1 f2 : ByteArray → Option Value} (h : W.cell? a0 = some u0 ∧ W.cell? a1 = some u1 ∧ W.cell? a2 = some u2 ∧ MapV K b1 n1 W f1 ∧ MapV K b2 n2 W f2 ∧ Below w.heap.size w W) (hb : Below W.heap.size W W1) :
    W1.cell? a0 = some u0 ∧ W1.cell? a1 = some u1 ∧ W1.cell? a2 = some u2 ∧ MapV K b1 n1 W1 f1 ∧ MapV K b2 n2 W1 f2 ∧ Below w.heap.size w W1 :=
  ⟨ext_cell hb h.1, ext_cell hb h.2.1, ext_cell hb h.2.2.1, h.2.2.2.1.ext hb, h.2.2.2.2.1.ext hb, ext_trans h.2.2.2.2.2 hb⟩

set_option maxHeartbeats 8000000 in
theorem checkRelays_any (v vr : Value) (l : List Nd) (rs : List Rl) (w : World) (hs : SlAt encN 7 w v l) (hr0 : SlAt encR 3 w vr rs) (hok : Names l) (hra : RelsAt w rs) :
    Calls Tryz.prog 39 #[v, vr] w fun e w' => e = .returned (.int .i64 (relaysV l rs)) ∧ Below w.heap.size w w' := by
  have hsw := hs
  have hrw := hr0
  obtain ⟨A, c, rfl, hc1, hc2, hr⟩ := hs
  obtain ⟨A', c', rfl, hc1', hc2', hr'⟩ := hr0
  clear hr
  have hlen : rs.length ≤ 9223372036854775807 := by omega
  have hc := checkNodes_any l _ w hsw hok
  have hz : checkNodesV l = 0 → _ := good_of
  have hV : relaysV l rs = if firstV [checkNodesV l, whenV (decide (16 < rs.length)) 5] ≠ 0 then firstV [checkNodesV l, whenV (decide (16 < rs.length)) 5] else relGo l [] rs := rfl
  generalize checkNodesV l = e0 at hc hz hV
  have hcast : decide ((16 : Int) < (rs.length : Int)) = decide (16 < rs.length) := by congr 1; simp; omega
  cases hq16 : decide (16 < rs.length)
  all_goals
    rw [hq16] at hV hcast
    cases hq : (firstV [e0, whenV (decide (16 < rs.length)) 5] != 0)
  · rw [hq16] at hq
    rw [if_neg (by simpa using hq)] at hV
    have hV2 : relaysV l rs = relGo l (rs.take 0) (rs.drop 0) := hV
    have HV := Lib.hid hV2
    clear hV hV2 hz
    go_enter Tryz.func39, Tryz.ntmps39
    have hmm := @run_makeMap Tryz.prog
    go_wp2_with (first
      | (go_at_call 21; refine hc.mono ?_; rintro e w1 ⟨rfl, hb1⟩; have hb1s := hb1.size; have hb2 := hb1.alloc hb1s (.cells #[.int .i64 e0, .int .i64 (whenV false 5)] 26))
      | (go_at_call 82; refine (when_any _ _ _).mono ?_; rintro e w3 ⟨rfl, rfl⟩)
      | (go_at_call 81; refine (first_any [_, _] _ _ (slat_new encI_len (by simp) rfl (by simp))).mono ?_; rintro e w3 ⟨rfl, rfl⟩))
    have m1 := (MapV.new 9 (w1.alloc (.cells #[.int .i64 e0, .int .i64 (whenV false 5)] 26))).ext (ext_alloc _ (.map #[] 0))
    have m2 := MapV.new 9 ((w1.alloc (.cells #[.int .i64 e0, .int .i64 (whenV false 5)] 26)).alloc (.map #[] 0))
    have hb3 := (hb2.alloc hb2.size (.map #[] 0)).alloc (Nat.le_trans hb2.size (ext_alloc _ _).size) (.map #[] 0)
    have hb4 := ext_trans (ext_alloc (w1.alloc (.cells #[.int .i64 e0, .int .i64 (whenV false 5)] 26)) (.map #[] 0)) (ext_alloc _ (.map #[] 0))
    rw [knownF_nil] at m1 m2
    rw [World.size_alloc] at m2
    generalize hW3 : w1.alloc (.cells #[.int .i64 e0, .int .i64 (whenV false 5)] 26) = W3 at m1 m2 hb2 hb3 hb4
    have HW3 := Lib.hid hW3
    have hz3 : W3.heap.size = w1.heap.size + 1 := by rw [← hW3]; simp
    rw [hz3] at m1 m2
    clear hW3 hc hmm
    have uK := Tryz.underlying9
    have uT := Tryz.underlying165
    have hcl : 16 ≥ rs.length := by simpa using hq16
    have HZ3 := Lib.hid hz3
    clear hz3 hcast hq16
    go_loopw [26] (fun i wr => ∃ k : Nat, k ≤ rs.length ∧ i = .int .i64 k ∧ Below w.heap.size w wr ∧ Below W3.heap.size W3 wr ∧ MapV 9 (w1.heap.size + 1) k wr (knownF ((rs.take k).map Rl.name)) ∧ MapV 9 (w1.heap.size + 1 + 1) k wr (knownF ((rs.take k).map Rl.node)) ∧ Hid (relaysV l rs = relGo l (rs.take k) (rs.drop k))) (fun i _ => rs.length - (intOf i).toNat)
    case atStart =>
      have e3 := HW3.out
      subst e3
      exact ⟨0, Nat.zero_le _, rfl, hb3, hb4, m1, m2, HV⟩
    case round =>
      obtain ⟨k, hk, rfl, hb, hbm, g1, g2, hst0⟩ := hrel
      clear HV m1 m2 hb3 hb4 hq HW3
      by_cases hlt : k < rs.length
      · obtain ⟨b, off, rfl, hbl, hcell⟩ := hr' (by omega)
        have hx : rs[k]? = some rs[k] := List.getElem?_eq_getElem hlt
        have hst := relGo_step l rs k hlt
        rw [← hst0.out] at hst
        have hsn := hra.name _ (List.getElem_mem hlt)
        have hsd := hra.node _ (List.getElem_mem hlt)
        have hpt := fun W hW => checkPoints_any rs[k] W ((hra.pts _ (List.getElem_mem hlt)).ext hW)
        obtain ⟨pa, pn, pc, hpv⟩ := (hra.pts _ (List.getElem_mem hlt)).isSlice
        have hfi := fun W hW => find_any l _ rs[k].node W (hsw.ext hW)
        have hin := fun W => isName_any rs[k].name W (by omega)
        have htn : (rs.take (k + 1)).map Rl.name = (rs.take k).map Rl.name ++ [rs[k].name] := map_take_succ Rl.name rs k hlt
        have htd : (rs.take (k + 1)).map Rl.node = (rs.take k).map Rl.node ++ [rs[k].node] := map_take_succ Rl.node rs k hlt
        have c0 := ext_cell hb (hcell k _ hx 0 _ rfl)
        have c1 := ext_cell hb (hcell k _ hx 1 _ rfl)
        have c2 := ext_cell hb (hcell k _ hx 2 _ rfl)
        rw [Nat.add_zero] at c0
        have hre : relErr l ((rs.take k).map Rl.name) ((rs.take k).map Rl.node) rs[k] = firstV [whenV (!isNameB rs[k].name) 8, whenV (hasS ((rs.take k).map Rl.name) rs[k].name) 9, whenV (decide (findI l rs[k].node < 0)) 10, whenV (hasS ((rs.take k).map Rl.node) rs[k].node) 31, ptsErr rs[k].pts] := rfl
        rw [hre] at hst
        generalize rs[k] = r at hst hsn hsd hpt hfi hin htn htd c0 c1 c2 hpv
        generalize (rs.take k).map Rl.name = N1 at hst g1 htn
        generalize (rs.take k).map Rl.node = N2 at hst g2 htd
        have hsz := hb.size
        have HTN := Lib.hid htn
        have HTD := Lib.hid htd
        clear hx hcell hr' htn htd hre hst0
        generalize hpe : ptsErr r.pts = pe at hst hpt
        clear hpe
        unfold encR at hpt
        rw [hpv] at hpt c2
        clear hpv
        go_wp2
        generalize hW : World.alloc wr _ = W
        have hbW : Below wr.heap.size wr W := by rw [← hW]; exact ext_alloc _ _
        have r0 : W.cell? ⟨wr.heap.size, 0, none⟩ = some (.string r.name) := by rw [← hW]; simp [World.cell?_alloc_new]
        have r1 : W.cell? ⟨wr.heap.size, 1, none⟩ = some (.string r.node) := by rw [← hW]; simp [World.cell?_alloc_new]
        have r2 : W.cell? ⟨wr.heap.size, 2, none⟩ = some (.slice pa pn pc) := by rw [← hW]; simp [World.cell?_alloc_new]
        clear hW
        have e1 := g1.ext hbW
        have e2 := g2.ext hbW
        have hbw := ext_trans hb hbW
        have hm1 : r.name.size ≤ maxLen := by simp only [maxLen]; omega
        have hm2 : r.node.size ≤ maxLen := by simp only [maxLen]; omega
        have dB0 : Below W.heap.size W W := Below.refl _ _
        generalize isNameB r.name = bn at hst hin
        generalize findI l r.node = fi at hst hfi
        have HST := Lib.hid hst
        clear hst
        cases hqf : decide (fi < 0)
        · rw [hqf] at HST
          refine wp_region_plan (fun w' => w'.cell? ⟨wr.heap.size, 0, none⟩ = some (.string r.name) ∧ w'.cell? ⟨wr.heap.size, 1, none⟩ = some (.string r.node) ∧ w'.cell? ⟨wr.heap.size, 2, none⟩ = some (.slice pa pn pc) ∧ MapV 9 (w1.heap.size + 1) k w' (knownF N1) ∧ MapV 9 (w1.heap.size + 1 + 1) k w' (knownF N2) ∧ Below W.heap.size W w') [2, 4, 9, 13, 15, 20, 22, 23, 24] [0, 1, 5, 6, 7, 8, 10, 11, 12, 16, 17, 18, 19, 21, 2, 3, 4, 9, 13, 14, 15, 20, 22, 23, 24, 25] (by kernel_rfl) (by kernel_rfl) (by ((first | assumption | exact keepMM3 (by assumption) (by assumption) | exact keepMM3 (by assumption) (ext_alloc _ _) | exact keepMM3 (by assumption) (ext_drew _) | exact keepMM3 ⟨by assumption, by assumption, by assumption, by assumption, by assumption, by assumption⟩ (ext_drew _) | go_keep))) (fun hSw => ?_)
          repeat (first
            | (refine wpPlan_pas rfl rfl (fun K hK => ?_)
               apply Exists.intro
               refine ⟨?_, ?_⟩
               · first | exact pasOk_no rfl | (apply pasOk_yes rfl; intro wS hS; obtain ⟨s0, s1, s2, s3, s4, s5⟩ := hS; have q1 := s3.known uK uT hm1; have q2 := s4.known uK uT hm2; go_simp; first | done | exact rfl | ((try simp only [↓IntWalk.iteOmega]); (try go_bits); (try go_simp); first | done | exact rfl))
               go_simp
               refine hK _ ?_
               clear hK K)
            | (refine wpPlan_no rfl rfl rfl (by assumption) (fun K hK => ?_)
               go_simp
               refine hK _ ?_
               clear hK K)
            | (refine wpPlan_act rfl rfl rfl (fun K hK => ?_)
               go_wp2_with (first | (go_at_call 98; refine (hin _).mono ?_; rintro e wA ⟨rfl, hbA⟩) | (go_at_call 82; refine (when_any _ _ _).mono ?_; rintro e wA ⟨rfl, rfl⟩) | (go_at_call 89; refine (hfi _ (ext_trans hbw hSw.2.2.2.2.2)).mono ?_; rintro e wA ⟨rfl, hbA⟩) | (go_at_call 99; refine (hpt _ (ext_trans hbw hSw.2.2.2.2.2)).mono ?_; rintro e wA ⟨rfl, hbA⟩) | (go_at_call 81; refine (first_any [_, _, _, _, _] _ _ (slat_new encI_len (by simp) rfl (by simp))).mono ?_; rintro e wA ⟨rfl, rfl⟩))
               refine OnlyK.go (hK _ _ (by ((first | assumption | exact keepMM3 (by assumption) (by assumption) | exact keepMM3 (by assumption) (ext_alloc _ _) | exact keepMM3 (by assumption) (ext_drew _) | exact keepMM3 ⟨by assumption, by assumption, by assumption, by assumption, by assumption, by assumption⟩ (ext_drew _) | go_keep))) (fun hSw => ?_))
               clear hK K))
          refine wpPlan_nil ?_
          generalize World.alloc _ (Obj.cells _ 26) = W5 at hSw ⊢
          obtain ⟨t0, t1, _, g3, g4, hbS⟩ := hSw
          have hbT := ext_trans hbw hbS
          have hbM := ext_trans hbm (ext_trans hbW hbS)
          have h3w := HZ3.out
          have hbMs := hbM.size
          have hbTs := hbT.size
          generalize firstV [whenV (!bn) 8, whenV (hasS N1 r.name) 9, whenV false 10, whenV (hasS N2 r.node) 31, pe] = e1 at HST ⊢
          cases hq : (e1 != 0)
          · have hst : relaysV l rs = relGo l (rs.take (k + 1)) (rs.drop (k + 1)) := by rw [HST.out, if_neg (by simpa using hq)]
            have HS2 := Lib.hid hst
            clear hst
            have H3W := Lib.hid h3w
            clear h3w
            go_wp2
            have hbMd : Below W3.heap.size W3 W5.drew := hbM.drew
            have hbTd : Below w.heap.size w W5.drew := hbT.drew
            have hwr5 : wr.heap.size < W5.heap.size := World.block_lt_of_cell? _ _ t0
            refine wp_region_plan (fun w' => w'.cell? ⟨wr.heap.size, 0, none⟩ = some (.string r.name) ∧ w'.cell? ⟨wr.heap.size, 1, none⟩ = some (.string r.node) ∧ Below W3.heap.size W3 w') [6, 7] [0, 1, 2, 3, 4, 5, 6, 7] (by kernel_rfl) (by kernel_rfl) (by ((first | assumption | exact keep2 (by assumption) (by assumption) | exact keep2 (by assumption) (ext_alloc _ _) | exact keep2 (by assumption) (ext_drew _) | exact keep2 ⟨by assumption, by assumption, by assumption⟩ (ext_drew _) | go_keep))) (fun hSw => ?_)
            repeat (first
              | (refine wpPlan_pas rfl rfl (fun K hK => ?_)
                 apply Exists.intro
                 refine ⟨?_, ?_⟩
                 · first | exact pasOk_no rfl | (apply pasOk_yes rfl; intro wS hS; obtain ⟨s0, s1, s2⟩ := hS; go_simp; first | done | exact rfl | ((try simp only [↓IntWalk.iteOmega]); (try go_bits); (try go_simp); first | done | exact rfl))
                 go_simp
                 refine hK _ ?_
                 clear hK K)
              | (refine wpPlan_no rfl rfl rfl (by assumption) (fun K hK => ?_)
                 go_simp
                 refine hK _ ?_
                 clear hK K)
              | (refine wpPlan_act rfl rfl rfl (fun K hK => ?_)
                 go_wp2_with (first | (at_mapUpdate; refine wpList_mapV (w := w8) (b := w1.heap.size + 1 + 1) (n := k) rfl _ _ _ _ rfl uK uT rfl g6 (by simp only [maxLen]; omega) r.node (.bool true) rfl rfl hm2 ?_; intro w9 g7 hg9; have g8 := g5.kept hg9 (by simp); have hb9 := hb8.grown hg9 hb8.size (fun j e => by cases e; have := H3W.out; omega); have hb9w := hb8w.grown hg9 hb8w.size (fun j e => by cases e; omega); have hS9 : _ ∧ _ ∧ _ := ⟨cell_grown hg9 hS8.1 (by simp; have := g2.lt; omega), cell_grown hg9 hS8.2.1 (by simp; have := g2.lt; omega), hb9⟩) | (at_mapUpdate; refine wpList_mapV (w := World.drew W5) (b := w1.heap.size + 1) (n := k) rfl _ _ _ _ rfl uK uT rfl g3 (by simp only [maxLen]; omega) r.name (.bool true) rfl rfl hm1 ?_; intro w8 g5 hg8; have g6 := MapV.kept (w := World.drew W5) g4 hg8 (by simp); have hb8 := hbMd.grown hg8 hbMs (fun j e => by cases e; have := H3W.out; omega); have hb8w := hbTd.grown hg8 hbTs (fun j e => by cases e; omega); have hS8 : _ ∧ _ ∧ _ := ⟨cell_grown (w := World.drew W5) hg8 t0 (by simp; have := g1.lt; omega), cell_grown (w := World.drew W5) hg8 t1 (by simp; have := g1.lt; omega), hb8⟩))
                 refine OnlyK.go (hK _ _ (by ((first | assumption | exact keep2 (by assumption) (by assumption) | exact keep2 (by assumption) (ext_alloc _ _) | exact keep2 (by assumption) (ext_drew _) | exact keep2 ⟨by assumption, by assumption, by assumption⟩ (ext_drew _) | go_keep))) (fun hSw => ?_))
                 clear hK K))
            refine wpPlan_nil ?_
            go_wp2
            go_roundw
            case rel => exact ⟨k + 1, by omega, by go_num, hb9w, hb9, by rw [HTN.out, ← knownF_put]; exact g8, by rw [HTD.out, ← knownF_put]; exact g7, HS2⟩
            case measure => simp [intOf]; omega
          · have hst : relaysV l rs = e1 := by rw [HST.out, if_pos (by simpa using hq)]
            have HS2 := Lib.hid hst
            clear hst
            go_wp2
            go_ret
            exact ⟨by rw [HS2.out]; rfl, hbT⟩
        · rw [hqf] at HST
          refine wp_region_plan (fun w' => w'.cell? ⟨wr.heap.size, 0, none⟩ = some (.string r.name) ∧ w'.cell? ⟨wr.heap.size, 1, none⟩ = some (.string r.node) ∧ w'.cell? ⟨wr.heap.size, 2, none⟩ = some (.slice pa pn pc) ∧ MapV 9 (w1.heap.size + 1) k w' (knownF N1) ∧ MapV 9 (w1.heap.size + 1 + 1) k w' (knownF N2) ∧ Below W.heap.size W w') [2, 4, 9, 13, 15, 20, 22, 23, 24] [0, 1, 5, 6, 7, 8, 10, 11, 12, 16, 17, 18, 19, 21, 2, 3, 4, 9, 13, 14, 15, 20, 22, 23, 24, 25] (by kernel_rfl) (by kernel_rfl) (by ((first | assumption | exact keepMM3 (by assumption) (by assumption) | exact keepMM3 (by assumption) (ext_alloc _ _) | exact keepMM3 (by assumption) (ext_drew _) | exact keepMM3 ⟨by assumption, by assumption, by assumption, by assumption, by assumption, by assumption⟩ (ext_drew _) | go_keep))) (fun hSw => ?_)
          repeat (first
            | (refine wpPlan_pas rfl rfl (fun K hK => ?_)
               apply Exists.intro
               refine ⟨?_, ?_⟩
               · first | exact pasOk_no rfl | (apply pasOk_yes rfl; intro wS hS; obtain ⟨s0, s1, s2, s3, s4, s5⟩ := hS; have q1 := s3.known uK uT hm1; have q2 := s4.known uK uT hm2; go_simp; first | done | exact rfl | ((try simp only [↓IntWalk.iteOmega]); (try go_bits); (try go_simp); first | done | exact rfl))
               go_simp
               refine hK _ ?_
               clear hK K)
            | (refine wpPlan_no rfl rfl rfl (by assumption) (fun K hK => ?_)
               go_simp
               refine hK _ ?_
               clear hK K)
            | (refine wpPlan_act rfl rfl rfl (fun K hK => ?_)
               go_wp2_with (first | (go_at_call 98; refine (hin _).mono ?_; rintro e wA ⟨rfl, hbA⟩) | (go_at_call 82; refine (when_any _ _ _).mono ?_; rintro e wA ⟨rfl, rfl⟩) | (go_at_call 89; refine (hfi _ (ext_trans hbw hSw.2.2.2.2.2)).mono ?_; rintro e wA ⟨rfl, hbA⟩) | (go_at_call 99; refine (hpt _ (ext_trans hbw hSw.2.2.2.2.2)).mono ?_; rintro e wA ⟨rfl, hbA⟩) | (go_at_call 81; refine (first_any [_, _, _, _, _] _ _ (slat_new encI_len (by simp) rfl (by simp))).mono ?_; rintro e wA ⟨rfl, rfl⟩))
               refine OnlyK.go (hK _ _ (by ((first | assumption | exact keepMM3 (by assumption) (by assumption) | exact keepMM3 (by assumption) (ext_alloc _ _) | exact keepMM3 (by assumption) (ext_drew _) | exact keepMM3 ⟨by assumption, by assumption, by assumption, by assumption, by assumption, by assumption⟩ (ext_drew _) | go_keep))) (fun hSw => ?_))
               clear hK K))
          refine wpPlan_nil ?_
          generalize World.alloc _ (Obj.cells _ 26) = W5 at hSw ⊢
          obtain ⟨t0, t1, _, g3, g4, hbS⟩ := hSw
          have hbT := ext_trans hbw hbS
          have hbM := ext_trans hbm (ext_trans hbW hbS)
          have h3w := HZ3.out
          have hbMs := hbM.size
          have hbTs := hbT.size
          generalize firstV [whenV (!bn) 8, whenV (hasS N1 r.name) 9, whenV true 10, whenV (hasS N2 r.node) 31, pe] = e1 at HST ⊢
          cases hq : (e1 != 0)
          · have hst : relaysV l rs = relGo l (rs.take (k + 1)) (rs.drop (k + 1)) := by rw [HST.out, if_neg (by simpa using hq)]
            have HS2 := Lib.hid hst
            clear hst
            have H3W := Lib.hid h3w
            clear h3w
            go_wp2
            have hbMd : Below W3.heap.size W3 W5.drew := hbM.drew
            have hbTd : Below w.heap.size w W5.drew := hbT.drew
            have hwr5 : wr.heap.size < W5.heap.size := World.block_lt_of_cell? _ _ t0
            refine wp_region_plan (fun w' => w'.cell? ⟨wr.heap.size, 0, none⟩ = some (.string r.name) ∧ w'.cell? ⟨wr.heap.size, 1, none⟩ = some (.string r.node) ∧ Below W3.heap.size W3 w') [6, 7] [0, 1, 2, 3, 4, 5, 6, 7] (by kernel_rfl) (by kernel_rfl) (by ((first | assumption | exact keep2 (by assumption) (by assumption) | exact keep2 (by assumption) (ext_alloc _ _) | exact keep2 (by assumption) (ext_drew _) | exact keep2 ⟨by assumption, by assumption, by assumption⟩ (ext_drew _) | go_keep))) (fun hSw => ?_)
            repeat (first
              | (refine wpPlan_pas rfl rfl (fun K hK => ?_)
                 apply Exists.intro
                 refine ⟨?_, ?_⟩
                 · first | exact pasOk_no rfl | (apply pasOk_yes rfl; intro wS hS; obtain ⟨s0, s1, s2⟩ := hS; go_simp; first | done | exact rfl | ((try simp only [↓IntWalk.iteOmega]); (try go_bits); (try go_simp); first | done | exact rfl))
                 go_simp
                 refine hK _ ?_
                 clear hK K)
              | (refine wpPlan_no rfl rfl rfl (by assumption) (fun K hK => ?_)
                 go_simp
                 refine hK _ ?_
                 clear hK K)
              | (refine wpPlan_act rfl rfl rfl (fun K hK => ?_)
                 go_wp2_with (first | (at_mapUpdate; refine wpList_mapV (w := w8) (b := w1.heap.size + 1 + 1) (n := k) rfl _ _ _ _ rfl uK uT rfl g6 (by simp only [maxLen]; omega) r.node (.bool true) rfl rfl hm2 ?_; intro w9 g7 hg9; have g8 := g5.kept hg9 (by simp); have hb9 := hb8.grown hg9 hb8.size (fun j e => by cases e; have := H3W.out; omega); have hb9w := hb8w.grown hg9 hb8w.size (fun j e => by cases e; omega); have hS9 : _ ∧ _ ∧ _ := ⟨cell_grown hg9 hS8.1 (by simp; have := g2.lt; omega), cell_grown hg9 hS8.2.1 (by simp; have := g2.lt; omega), hb9⟩) | (at_mapUpdate; refine wpList_mapV (w := World.drew W5) (b := w1.heap.size + 1) (n := k) rfl _ _ _ _ rfl uK uT rfl g3 (by simp only [maxLen]; omega) r.name (.bool true) rfl rfl hm1 ?_; intro w8 g5 hg8; have g6 := MapV.kept (w := World.drew W5) g4 hg8 (by simp); have hb8 := hbMd.grown hg8 hbMs (fun j e => by cases e; have := H3W.out; omega); have hb8w := hbTd.grown hg8 hbTs (fun j e => by cases e; omega); have hS8 : _ ∧ _ ∧ _ := ⟨cell_grown (w := World.drew W5) hg8 t0 (by simp; have := g1.lt; omega), cell_grown (w := World.drew W5) hg8 t1 (by simp; have := g1.lt; omega), hb8⟩))
                 refine OnlyK.go (hK _ _ (by ((first | assumption | exact keep2 (by assumption) (by assumption) | exact keep2 (by assumption) (ext_alloc _ _) | exact keep2 (by assumption) (ext_drew _) | exact keep2 ⟨by assumption, by assumption, by assumption⟩ (ext_drew _) | go_keep))) (fun hSw => ?_))
                 clear hK K))
            refine wpPlan_nil ?_
            go_wp2
            go_roundw
            case rel => exact ⟨k + 1, by omega, by go_num, hb9w, hb9, by rw [HTN.out, ← knownF_put]; exact g8, by rw [HTD.out, ← knownF_put]; exact g7, HS2⟩
            case measure => simp [intOf]; omega
          · have hst : relaysV l rs = e1 := by rw [HST.out, if_pos (by simpa using hq)]
            have HS2 := Lib.hid hst
            clear hst
            go_wp2
            go_ret
            exact ⟨by rw [HS2.out]; rfl, hbT⟩
      · have hst : relaysV l rs = 0 := by rw [hst0.out, List.drop_of_length_le (by omega)]; rfl
        have HS2 := Lib.hid hst
        clear hst
        go_wp2
        go_ret
        exact ⟨by rw [HS2.out]; rfl, hb⟩
  · rw [hq16] at hq
    rw [if_pos (by simpa using hq)] at hV
    have HV := Lib.hid hV
    have hd16 : decide ((16 : Int) < (rs.length : Int)) = false := hcast
    clear hV
    clear hz hcast hq16
    go_enter Tryz.func39, Tryz.ntmps39
    go_wp2_with (first
      | (go_at_call 21; refine hc.mono ?_; rintro e w1 ⟨rfl, hb1⟩; have hb1s := hb1.size; have hb2 := hb1.alloc hb1s (.cells #[.int .i64 e0, .int .i64 (whenV false 5)] 26))
      | (go_at_call 82; refine (when_any _ _ _).mono ?_; rintro e w3 ⟨rfl, rfl⟩)
      | (go_at_call 81; refine (first_any [_, _] _ _ (slat_new encI_len (by simp) rfl (by simp))).mono ?_; rintro e w3 ⟨rfl, rfl⟩))
    go_ret
    exact ⟨by rw [HV.out]; rfl, hb2⟩
  · exfalso
    rw [hq16] at hq
    by_cases h0 : e0 = 0
    · subst h0; exact absurd hq (by decide)
    · simp [firstV, h0] at hq
  · rw [hq16] at hq
    rw [if_pos (by simpa using hq)] at hV
    have HV := Lib.hid hV
    have hd16 : decide ((16 : Int) < (rs.length : Int)) = true := hcast
    clear hV
    clear hz hcast hq16
    go_enter Tryz.func39, Tryz.ntmps39
    go_wp2_with (first
      | (go_at_call 21; refine hc.mono ?_; rintro e w1 ⟨rfl, hb1⟩; have hb1s := hb1.size; have hb2 := hb1.alloc hb1s (.cells #[.int .i64 e0, .int .i64 (whenV true 5)] 26))
      | (go_at_call 82; refine (when_any _ _ _).mono ?_; rintro e w3 ⟨rfl, rfl⟩)
      | (go_at_call 81; refine (first_any [_, _] _ _ (slat_new encI_len (by simp) rfl (by simp))).mono ?_; rintro e w3 ⟨rfl, rfl⟩))
    go_ret
    exact ⟨by rw [HV.out]; rfl, hb2⟩
end Go.Proofs.YtlogjgmfkjjhjaaGreatDoor
namespace Go.Proofs.YtlogjgmfkjjhjaaGreatDoor
open Go.RowKit

/-- a grid: its nodes and relays, with the slice values that they are read from -/
structure Gr where
  nv : Value
  nodes : List Nd
  rv : Value
  rels : List Rl
  st : Int
def encGr (g : Gr) : List Value := [g.nv, g.rv, .int .i64 g.st]
structure GrAt (w : World) (g : Gr) : Prop where
  nodes : SlAt encN 7 w g.nv g.nodes
  rels : SlAt encR 3 w g.rv g.rels
  ok : Names g.nodes
  at_ : RelsAt w g.rels
theorem GrAt.ext {w w1 : World} {g : Gr} (h : GrAt w g) (hb : Below w.heap.size w w1) : GrAt w1 g := ⟨h.nodes.ext hb, h.rels.ext hb, h.ok, h.at_.ext hb⟩

def gridV (g : Gr) : Int := firstV [relaysV g.nodes g.rels, withinV g.st 0 100000000]
set_option maxHeartbeats 4000000 in
theorem gridCheck_any (g : Gr) (w : World) (hg : GrAt w g) :
    Calls Tryz.prog 111 #[.agg (encGr g).toArray] w fun e w' => e = .returned (.int .i64 (gridV g)) ∧ Below w.heap.size w w' := by
  unfold encGr
  obtain ⟨nv, nodes, rv, rels, st⟩ := g
  have hcr := fun W hW => checkRelays_any nv rv nodes rels W ((hg.ext hW).nodes) ((hg.ext hW).rels) hg.ok (hg.ext hW).at_
  have hV : gridV ⟨nv, nodes, rv, rels, st⟩ = firstV [relaysV nodes rels, withinV st 0 100000000] := rfl
  rw [hV]
  clear hV
  obtain ⟨A, n, c, rfl⟩ := hg.nodes.isSlice
  obtain ⟨A', n', c', rfl⟩ := hg.rels.isSlice
  clear hg
  generalize relaysV nodes rels = e0 at hcr ⊢
  go_enter Tryz.func111, Tryz.ntmps111
  go_wp2
  generalize hW : World.alloc w _ = W
  have hbW : Below w.heap.size w W := by rw [← hW]; exact ext_alloc _ _
  have r0 : W.cell? ⟨w.heap.size, 0, none⟩ = some (.slice A n c) := by rw [← hW]; simp [World.cell?_alloc_new]
  have r1 : W.cell? ⟨w.heap.size, 1, none⟩ = some (.slice A' n' c') := by rw [← hW]; simp [World.cell?_alloc_new]
  have r2 : W.cell? ⟨w.heap.size, 2, none⟩ = some (.int .i64 st) := by rw [← hW]; simp [World.cell?_alloc_new]
  clear hW
  have dB0 : Below W.heap.size W W := Below.refl _ _
  refine wp_region_plan (fun w' => w'.cell? ⟨w.heap.size, 0, none⟩ = some (.slice A n c) ∧ w'.cell? ⟨w.heap.size, 1, none⟩ = some (.slice A' n' c') ∧ w'.cell? ⟨w.heap.size, 2, none⟩ = some (.int .i64 st) ∧ Below W.heap.size W w') [4, 7, 8, 9] [0, 1, 2, 3, 5, 6, 4, 7, 8, 9, 10] (by kernel_rfl) (by kernel_rfl) (by ((first | assumption | exact keep3 (by assumption) (by assumption) | exact keep3 (by assumption) (ext_alloc _ _) | exact keep3 (by assumption) (ext_drew _) | exact keep3 ⟨by assumption, by assumption, by assumption, by assumption⟩ (ext_drew _) | go_keep))) (fun hSw => ?_)
  repeat (first
    | (refine wpPlan_pas rfl rfl (fun K hK => ?_)
       apply Exists.intro
       refine ⟨?_, ?_⟩
       · first | exact pasOk_no rfl | (apply pasOk_yes rfl; intro wS hS; obtain ⟨s0, s1, s2, s3⟩ := hS; go_simp; first | done | exact rfl | ((try simp only [↓IntWalk.iteOmega]); (try go_bits); (try go_simp); first | done | exact rfl))
       go_simp
       refine hK _ ?_
       clear hK K)
    | (refine wpPlan_no rfl rfl rfl (by assumption) (fun K hK => ?_)
       go_simp
       refine hK _ ?_
       clear hK K)
    | (refine wpPlan_act rfl rfl rfl (fun K hK => ?_)
       go_wp2_with (first | (go_at_call 39; refine (hcr _ (ext_trans hbW hSw.2.2.2)).mono ?_; rintro e wA ⟨rfl, hbA⟩) | (go_at_call 88; refine (within_any _ _ _ _).mono ?_; rintro e w1 ⟨rfl, rfl⟩) | (go_at_call 81; refine (first_any [_, _] _ _ (slat_new encI_len (by simp) rfl (by simp))).mono ?_; rintro e wA ⟨rfl, rfl⟩))
       refine OnlyK.go (hK _ _ (by ((first | assumption | exact keep3 (by assumption) (by assumption) | exact keep3 (by assumption) (ext_alloc _ _) | exact keep3 (by assumption) (ext_drew _) | exact keep3 ⟨by assumption, by assumption, by assumption, by assumption⟩ (ext_drew _) | go_keep))) (fun hSw => ?_))
       clear hK K))
  refine wpPlan_nil ?_
  go_wp2
  go_ret
  exact ⟨rfl, ext_trans hbW (held3 hSw)⟩

def gridNodeV (g : Gr) (s : ByteArray) : Int := if gridV g ≠ 0 then gridV g else whenV (decide (findI g.nodes s < 0)) 10
set_option maxHeartbeats 4000000 in
theorem gridNode_any (g : Gr) (s : ByteArray) (w : World) (hg : GrAt w g) :
    Calls Tryz.prog 91 #[.agg (encGr g).toArray, .string s] w fun e w' => e = .returned (.int .i64 (gridNodeV g s)) ∧ Below w.heap.size w w' := by
  have hck := fun W hW => gridCheck_any g W (hg.ext hW)
  have hfd := fun W hW => find_any g.nodes g.nv s W (hg.ext hW).nodes
  have hV : gridNodeV g s = if gridV g ≠ 0 then gridV g else whenV (decide (findI g.nodes s < 0)) 10 := rfl
  rw [hV]
  clear hV
  unfold encGr at hck ⊢
  obtain ⟨nv, nodes, rv, rels, st⟩ := g
  simp only at hck hfd ⊢
  obtain ⟨A, n, c, rfl⟩ := hg.nodes.isSlice
  obtain ⟨A', n', c', rfl⟩ := hg.rels.isSlice
  clear hg
  generalize gridV _ = e0 at hck ⊢
  generalize findI nodes s = fi at hfd ⊢
  have hbW : Below w.heap.size w (w.alloc (.cells #[.slice A n c, .slice A' n' c', .int .i64 st] 67)) := ext_alloc _ _
  have r0 := (BoxC.new w 67 #[.slice A n c, .slice A' n' c', .int .i64 st]).cell 0 _ rfl
  go_enter Tryz.func91, Tryz.ntmps91
  cases hqf : decide (fi < 0)
  all_goals
    cases hq : (e0 != 0)
    · rw [if_neg (by simpa using hq)]
      go_wp2_with (first
        | (go_at_call 111; refine (hck _ hbW).mono ?_; rintro e wA ⟨rfl, hbA⟩; have hbB := ext_trans hbW hbA; have rA := ext_cell hbA r0)
        | (go_at_call 89; refine (hfd _ hbB).mono ?_; rintro e wC ⟨rfl, hbC⟩; have hbD := ext_trans hbB hbC)
        | (go_at_call 82; refine (when_any _ _ _).mono ?_; rintro e w3 ⟨rfl, rfl⟩))
      go_ret
      exact ⟨rfl, hbD⟩
    · rw [if_pos (by simpa using hq)]
      go_wp2_with (go_at_call 111; refine (hck _ hbW).mono ?_; rintro e wA ⟨rfl, hbA⟩; have hbB := ext_trans hbW hbA)
      go_ret
      exact ⟨rfl, hbB⟩
end Go.Proofs.YtlogjgmfkjjhjaaGreatDoor
