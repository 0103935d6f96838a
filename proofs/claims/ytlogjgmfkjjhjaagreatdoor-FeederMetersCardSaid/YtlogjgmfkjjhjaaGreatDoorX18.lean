/-
  feeder.Unselective.
  The times of trips: what sorting keeps, and that valid relays trip within their bounds.
  Grid.opens.
-/
import Derived.Test.YtlogjgmfkjjhjaaGreatDoorX17
import Derived.Test.YtlogjgmfkjjhjaaGreatDoorX16
import Derived.WalkMore
set_option linter.unusedSimpArgs false
set_option linter.unusedVariables false
namespace Go.Proofs.YtlogjgmfkjjhjaaGreatDoor
open Go.RowKit

def unselE (g : Gr) (m : Int) : Int := firstV [gridV g, withinV m 0 100000]
def unselN (g : Gr) (m : Int) : List ByteArray := pickN (fun i => !(selN g (g.nodes.getD i default).name m)) g.nodes g.nodes.length
def unselR (g : Gr) (m : Int) : List ByteArray × Int := if unselE g m ≠ 0 then ([], unselE g m) else (unselN g m, 0)
/-- the times of the trips stay within what the relays may say -/
def TimesOk (g : Gr) : Prop := gridV g = 0 → ∀ s, ∀ t ∈ tripsN g s, 0 ≤ t.time ∧ t.time ≤ 100000

set_option maxHeartbeats 8000000 in
theorem Unselective_any (g : Gr) (m : Int) (w : World) (hg : GrAt w g) (h12 : g.rels.length ≤ 12) (hT : TimesOk g) :
    Calls Tryz.prog 63 #[.agg (encGr g).toArray, .int .i64 m] w (Ret2 encS 1 9 (unselR g m) w) := by
  have hck := fun W hW => gridCheck_any g W (hg.ext hW)
  have hse := fun (h0 : gridV g = 0) (W : World) (hW : Below w.heap.size w W) (s : ByteArray) => isSelective_any g s m W (hg.ext hW) (gridV_zero h0).1 h12 (gridV_zero h0).2.2.1 (by have := (gridV_zero h0).2.2.2; omega) (hT h0 s)
  have hgd := fun (h0 : gridV g = 0) => (gridV_zero h0).1
  have hV : unselR g m = if firstV [gridV g, withinV m 0 100000] ≠ 0 then ([], firstV [gridV g, withinV m 0 100000]) else (unselN g m, 0) := rfl
  have hN : unselN g m = pickN (fun i => !(selN g (g.nodes.getD i default).name m)) g.nodes g.nodes.length := rfl
  rw [hV, hN]
  clear hV hN hT
  have hnd := hg.nodes
  generalize gridV g = e0 at hck hse hgd ⊢
  generalize hS : (fun s => selN g s m) = S
  have hS2 : ∀ s, selN g s m = S s := fun s => by rw [← hS]
  simp only [hS2] at hse ⊢
  clear hS hS2
  unfold encGr at hck hse ⊢
  obtain ⟨nv, nodes, rv, rels, st⟩ := g
  simp only at hck hse hnd h12 hgd ⊢
  have hnw := hnd
  obtain ⟨A, c, rfl, hc1, hc2, hr⟩ := hnd
  obtain ⟨A', n', c', rfl⟩ := hg.rels.isSlice
  clear hg
  have hbW : Below w.heap.size w (w.alloc (.cells #[.slice A nodes.length c, .slice A' n' c', .int .i64 st] 67)) := ext_alloc _ _
  have x0 := BoxC.new w 67 #[.slice A nodes.length c, .slice A' n' c', .int .i64 st]
  have p0 := x0.cell 0 _ rfl
  have p1 := x0.cell 1 _ rfl
  have p2 := x0.cell 2 _ rfl
  clear x0
  go_enter Tryz.func63, Tryz.ntmps63
  generalize hwv : withinV m 0 100000 = wv at ⊢
  have hwi := fun W => within_any m 0 100000 W
  rw [hwv] at hwi
  cases hq : (firstV [e0, wv] != 0)
  · have he : firstV [e0, wv] = 0 := by simpa using hq
    rw [if_neg (by simpa using he)]
    obtain ⟨rfl, rfl⟩ : e0 = 0 ∧ wv = 0 := by simpa [firstV_zero] using he
    clear hwv he
    have hgd := hgd rfl
    have hse2 := fun W hW s => hse rfl W hW s
    clear hse
    have hln := hgd.len1
    go_wp2_with (first
      | (go_at_call 111; refine (hck _ hbW).mono ?_; rintro e wA ⟨rfl, hbA⟩; have hbB := ext_trans hbW hbA; have q0 := ext_cell hbA p0; have q1 := ext_cell hbA p1; have q2 := ext_cell hbA p2; have y0 := fun o => ext_cell (ext_alloc wA o) q0; have y1 := fun o => ext_cell (ext_alloc wA o) q1; have y2 := fun o => ext_cell (ext_alloc wA o) q2)
      | (go_at_call 88; refine (hwi _).mono ?_; rintro e w3 ⟨rfl, rfl⟩)
      | (go_at_call 81; refine (first_any [_, _] _ _ (slat_new encI_len (by simp) rfl (by simp))).mono ?_; rintro e w3 ⟨rfl, rfl⟩))
    generalize hW : World.alloc wA _ = w4
    have hbB2 : Below w.heap.size w w4 := by rw [← hW]; exact hbB.alloc hbB.size _
    have y0' := y0; have y1' := y1; have y2' := y2
    clear y0 y1 y2
    have y0 := y0' (.cells #[.int .i64 0, .int .i64 0] 26)
    have y1 := y1' (.cells #[.int .i64 0, .int .i64 0] 26)
    have y2 := y2' (.cells #[.int .i64 0, .int .i64 0] 26)
    have e4 : wA.alloc (.cells #[.int .i64 0, .int .i64 0] 26) = w4 := hW
    rw [e4] at y0 y1 y2
    clear e4 hW y0' y1' y2'
    clear hck hwi p0 p1 p2 q0 q1 q2 hbA hbB hgd hq
    go_loopw [22, 7] (fun i o wr => ∃ k : Nat, k ≤ nodes.length ∧ i = .int .i64 k ∧ Below w4.heap.size w4 wr ∧ Own encS 1 w4.heap.size 9 wr o (pickN (fun i => !(S (nodes.getD i default).name)) nodes k) ∧ Hid (pickN (fun i => !(S (nodes.getD i default).name)) nodes k = [] → o = .slice none 0 0)) (fun i _ _ => nodes.length - (intOf i).toNat)
    case atStart => exact ⟨0, Nat.zero_le _, rfl, Below.refl _ _, Own.nil _, fun _ => rfl⟩
    case round =>
      obtain ⟨k, hk, rfl, hb, ho, hnil⟩ := hrel
      by_cases hlt : k < nodes.length
      · obtain ⟨b1, o1, rfl, hbl, hcell⟩ := hr (by omega)
        have hx : nodes[k]? = some (nodes.getD k default) := by rw [List.getD_eq_getElem?_getD, List.getElem?_eq_getElem hlt]; rfl
        have hst : pickN (fun i => !(S (nodes.getD i default).name)) nodes (k + 1) = pickN (fun i => !(S (nodes.getD i default).name)) nodes k ++ (if (!(S (nodes.getD k default).name)) = true then [(nodes.getD k default).name] else []) := pickN_succ _ nodes k
        have hpl := pickN_len (fun i => !(S (nodes.getD i default).name)) nodes k
        have hbw := ext_trans hbB2 hb
        have hsc := fun W hW => hse2 W hW (nodes.getD k default).name
        obtain ⟨c0, c1, c2, c3, c4, c5, c6⟩ := nodeCells (fun i u hu => ext_cell hbw (hcell k _ hx i u hu))
        have z0 := fun o => ext_cell (hb.alloc hb.size o) y0
        have z1 := fun o => ext_cell (hb.alloc hb.size o) y1
        have z2 := fun o => ext_cell (hb.alloc hb.size o) y2
        generalize nodes.getD k default = x at hst hsc c0 c1 c2 c3 c4 c5 c6
        have hsz := hb.size
        have hbX := hb.alloc hsz (.cells #[.string x.name, .string x.parent, .int .i64 x.re, .int .i64 x.im, .int .i64 x.lim, .int .i64 x.cre, .int .i64 x.cim] 125)
        have hbY := hbw.alloc hbw.size (.cells #[.string x.name, .string x.parent, .int .i64 x.re, .int .i64 x.im, .int .i64 x.lim, .int .i64 x.cre, .int .i64 x.cim] 125)
        have u0 := (BoxC.new wr 125 #[.string x.name, .string x.parent, .int .i64 x.re, .int .i64 x.im, .int .i64 x.lim, .int .i64 x.cre, .int .i64 x.cim]).cell 0 _ rfl
        have hoX := ho.alloc (.cells #[.string x.name, .string x.parent, .int .i64 x.re, .int .i64 x.im, .int .i64 x.lim, .int .i64 x.cre, .int .i64 x.cim] 125)
        have HST := Lib.hid hst
        have HPL := Lib.hid hpl
        clear hst hpl hx hcell hr
        generalize pickN (fun i => !(S (nodes.getD i default).name)) nodes k = ys at ho hoX hnil HST HPL
        cases hq : S x.name
        · rw [hq] at hsc
          have hs2 := HST.out
          rw [hq] at hs2
          have HS2 := Lib.hid hs2
          clear hs2
          go_wp2_with (first
            | (go_at_call 112; refine (hsc _ hbY).mono ?_; rintro e w5 ⟨rfl, hb5⟩; have hb6 := ext_trans hbX hb5; have hb6s := hb6.size; have ho6 := hoX.ext hb5; have u1 := ext_cell hb5 u0)
            | (at_builtin; refine own_append (w0 := w4) rfl _ _ 25 (.string ByteArray.empty) 16 rfl Tryz.underlying25 infoS rfl (by decide) (by decide) encS_len _ ys x.name _ rfl rfl rfl (by simp [encS, Value.oneCell']) ho6 hb6 hb6s (by have := HPL.out; omega) ?_; intro v1 w7 hown hbv hgv hnn))
          go_roundw
          case rel => exact ⟨k + 1, by omega, by go_num, hbv, by rw [HS2.out]; exact hown, fun h => by rw [HS2.out] at h; simp at h⟩
          case measure => simp [intOf]; omega
        · rw [hq] at hsc
          have hs2 := HST.out
          rw [hq] at hs2
          have HS2 := Lib.hid hs2
          clear hs2
          go_wp2_with (go_at_call 112; refine (hsc _ hbY).mono ?_; rintro e w5 ⟨rfl, hb5⟩; have hb6 := ext_trans hbX hb5; have ho6 := hoX.ext hb5)
          go_roundw
          case rel => exact ⟨k + 1, by omega, by go_num, hb6, by rw [HS2.out]; simpa using ho6, fun h => by rw [HS2.out] at h; exact hnil.out (by simpa using h)⟩
          case measure => simp [intOf]; omega
      · obtain rfl : k = nodes.length := by omega
        go_wp2
        go_ret2
        exact ⟨_, rfl, ho.mono hbB2.size, hbB2.trans (hb.mono hbB2.size), hnil.out⟩
  · have he : firstV [e0, wv] ≠ 0 := by simpa using hq
    rw [if_pos he]
    go_wp2_with (first
      | (go_at_call 111; refine (hck _ hbW).mono ?_; rintro e wA ⟨rfl, hbA⟩; have hbB := ext_trans hbW hbA; have hbB2 := hbB.alloc hbB.size (.cells #[.int .i64 e0, .int .i64 wv] 26))
      | (go_at_call 88; refine (hwi _).mono ?_; rintro e w3 ⟨rfl, rfl⟩)
      | (go_at_call 81; refine (first_any [_, _] _ _ (slat_new encI_len (by simp) rfl (by simp))).mono ?_; rintro e w3 ⟨rfl, rfl⟩))
    go_ret2
    exact ⟨_, rfl, Own.nil _, hbB2, fun _ => rfl⟩
end Go.Proofs.YtlogjgmfkjjhjaaGreatDoor
namespace Go.Proofs.YtlogjgmfkjjhjaaGreatDoor
open Go.RowKit Go.Sort

section
variable {α : Type} [Inhabited α]
theorem mem_swp {d : Array α} {i j : Nat} (hi : i < d.size) (hj : j < d.size) {x : α} (h : x ∈ swp d i j) : x ∈ d := by
  obtain ⟨k, hk, e⟩ := Array.getElem_of_mem h
  have hs := size_swp d i j
  have hg := swp_get d hi hj k
  rw [getElem!_pos (swp d i j) k hk, e] at hg
  have hk2 : k < d.size := by rw [← hs]; exact hk
  rw [getElem!_pos d i hi, getElem!_pos d j hj, getElem!_pos d k hk2] at hg
  rw [hg]
  split
  · exact Array.getElem_mem hi
  · split
    · exact Array.getElem_mem hj
    · exact Array.getElem_mem hk2
theorem mem_insInner (lt : α → α → Bool) (a : Nat) : ∀ (j : Nat) (d : Array α), j < d.size → ∀ x ∈ insInner lt a j d, x ∈ d
  | 0, d, _, x, h => h
  | j + 1, d, hj, x, h => by
    unfold insInner at h
    split at h
    · exact mem_swp hj (by omega) (mem_insInner lt a j _ (by rw [size_swp]; omega) x h)
    · exact h
theorem mem_insOuter (lt : α → α → Bool) (a b : Nat) : ∀ (m i : Nat) (d : Array α), b - i ≤ m → b ≤ d.size → ∀ x ∈ insOuter lt a b i d, x ∈ d
  | 0, i, d, hm, _, x, h => by unfold insOuter at h; rw [if_neg (by omega)] at h; exact h
  | m + 1, i, d, hm, hb, x, h => by
    unfold insOuter at h
    split at h
    · exact mem_insInner lt a i d (by omega) x (mem_insOuter lt a b m (i + 1) _ (by omega) (by rw [size_insInner]; exact hb) x h)
    · exact h
end
theorem mem_sortT {xs : List Tp} {t : Tp} (h : t ∈ sortT xs) : t ∈ xs := by
  unfold sortT at h
  rw [Array.mem_toList_iff] at h
  have := mem_insOuter (ltOf compareV) 0 xs.toArray.size _ _ _ (Nat.le_refl _) (Nat.le_refl _) t h
  simpa using this
theorem timeV_mem (lv : Int) : ∀ (pts : List (Int × Int)) (o : Int × Bool), (pts.foldl (timeStep lv) o).1 = o.1 ∨ ∃ p ∈ pts, (pts.foldl (timeStep lv) o).1 = p.2
  | [], o => .inl rfl
  | p :: r, o => by
    rw [List.foldl_cons]
    rcases timeV_mem lv r (timeStep lv o p) with h | ⟨q, hq, h⟩
    · rw [h]
      unfold timeStep
      split
      · exact .inr ⟨p, by simp, rfl⟩
      · exact .inl rfl
    · exact .inr ⟨q, by simp [hq], h⟩
theorem ptsGo_zero : ∀ (pts : List (Int × Int)) (last : Int × Int), ptsGo last pts = 0 → ∀ p ∈ pts, 0 ≤ p.2 ∧ p.2 ≤ 100000
  | [], _, _, p, hp => by cases hp
  | q :: r, last, h, p, hp => by
    unfold ptsGo at h
    split at h
    · rename_i hh; exact absurd h hh
    · rename_i hh
      have he : ptErr last q = 0 := by simpa using hh
      rcases List.mem_cons.1 hp with rfl | hp
      · simp only [ptErr, firstV_zero, List.mem_cons, List.mem_nil_iff, or_false, forall_eq_or_imp, forall_eq] at he
        exact withinV_zero.1 he.2.1
      · exact ptsGo_zero r q h p hp
theorem ptsErr_zero {pts : List (Int × Int)} (h : ptsErr pts = 0) : ∀ p ∈ pts, 0 ≤ p.2 ∧ p.2 ≤ 100000 := by
  unfold ptsErr at h
  split at h
  · rename_i hh; exact absurd h hh
  · exact ptsGo_zero _ _ h
theorem relGo_zero (l : List Nd) : ∀ (rs before : List Rl), relGo l before rs = 0 → ∀ r ∈ rs, ptsErr r.pts = 0
  | [], _, _, r, hr => by cases hr
  | q :: rs, before, h, r, hr => by
    unfold relGo at h
    split at h
    · rename_i hh; exact absurd h hh
    · rename_i hh
      have he : relErr l (before.map Rl.name) (before.map Rl.node) q = 0 := by simpa using hh
      rcases List.mem_cons.1 hr with rfl | hr
      · simp only [relErr, firstV_zero, List.mem_cons, List.mem_nil_iff, or_false, forall_eq_or_imp, forall_eq] at he
        exact he.2.2.2.2
      · exact relGo_zero l rs _ h r hr
theorem timesOk (g : Gr) : TimesOk g := by
  intro h0 s t ht
  have h1 := mem_sortT ht
  unfold rawTrips at h1
  obtain ⟨r, hr, h2⟩ := List.mem_flatMap.1 h1
  unfold tripStep at h2
  split at h2
  · have h3 := List.mem_singleton.1 h2
    subst h3
    simp only
    unfold gridV at h0
    simp only [firstV_zero, List.mem_cons, List.mem_nil_iff, or_false, forall_eq_or_imp, forall_eq] at h0
    have h4 := h0.1
    unfold relaysV at h4
    split at h4
    · rename_i hh; exact absurd h4 hh
    · have h5 := ptsErr_zero (relGo_zero _ _ _ h4 r hr)
      unfold timeV
      rcases timeV_mem (levelN g.nodes g.st s) r.pts (0, false) with h | ⟨p, hp, h⟩
      · rw [h]; exact ⟨by decide, by decide⟩
      · rw [h]; exact h5 p hp
  · cases h2
end Go.Proofs.YtlogjgmfkjjhjaaGreatDoor
namespace Go.Proofs.YtlogjgmfkjjhjaaGreatDoor
open Go.RowKit

set_option maxHeartbeats 8000000 in
theorem opens_any (g : Gr) (s : ByteArray) (failed : List ByteArray) (vf : Value) (w : World) (hg : GrAt w g) (hgd : Good g.nodes) (h12 : g.rels.length ≤ 12) (hst0 : 0 ≤ g.st) (hst1 : g.st ≤ 1000000000000) (hf : SlAt encS 1 w vf failed) :
    Calls Tryz.prog 102 #[.agg (encGr g).toArray, .string s, vf] w fun e w' => e = .returned (.tuple #[.agg (encTr (openT (firstOpen (tripsN g s) failed))).toArray, .string (openA (firstOpen (tripsN g s) failed)), .bool (openI (firstOpen (tripsN g s) failed))]) ∧ Below w.heap.size w w' := by
  have htr := fun W hW => trips_any g s W (hg.ext hW) hgd h12 hst0 hst1
  have hln := tripsN_len g s
  have hfw := hf
  obtain ⟨Af, nf, cf, rfl⟩ := hf.isSlice
  clear hf
  generalize tripsN g s = ts at htr hln ⊢
  have hFO : firstOpen ts failed = (ts.drop 0).find? (fun t => !hasS failed t.rel.node) := rfl
  generalize firstOpen ts failed = fo at hFO ⊢
  have HFO := Lib.hid hFO
  clear hFO
  unfold encGr at htr ⊢
  obtain ⟨nv, nodes, rv, rels, st⟩ := g
  simp only at htr hln h12 ⊢
  obtain ⟨A, n, c, rfl⟩ := hg.nodes.isSlice
  obtain ⟨A', n', c', rfl⟩ := hg.rels.isSlice
  clear hg hgd
  have hb4 : Below w.heap.size w ((((w.alloc (.cells #[.slice A n c, .slice A' n' c', .int .i64 st] 67)).alloc (.cells #[.string ByteArray.empty, .int .i64 0] 82)).alloc (.cells #[.string ByteArray.empty, .int .i64 0] 82)).alloc (.cells #[.string ByteArray.empty, .int .i64 0] 82)) := by (repeat (first | exact Below.refl _ _ | assumption | refine Below.drew ?_ | refine Below.alloc ?_ (by simp <;> omega) _ | refine Below.alloc ?_ (by simp) _ | refine Below.setCell ?_ (by simp) _))
  have e1 := RowC.new encTr_len (w.alloc (.cells #[.slice A n c, .slice A' n' c', .int .i64 st] 67)) 82 (ByteArray.empty, 0)
  have e2 := RowC.new encTr_len ((w.alloc (.cells #[.slice A n c, .slice A' n' c', .int .i64 st] 67)).alloc (.cells (encTr (ByteArray.empty, 0)).toArray 82)) 82 (ByteArray.empty, 0)
  have e3 := RowC.new encTr_len (((w.alloc (.cells #[.slice A n c, .slice A' n' c', .int .i64 st] 67)).alloc (.cells (encTr (ByteArray.empty, 0)).toArray 82)).alloc (.cells (encTr (ByteArray.empty, 0)).toArray 82)) 82 (ByteArray.empty, 0)
  have e1' := (e1.ext (ext_alloc _ (.cells (encTr (ByteArray.empty, 0)).toArray 82))).ext (ext_alloc _ (.cells (encTr (ByteArray.empty, 0)).toArray 82))
  have e2' := e2.ext (ext_alloc _ (.cells (encTr (ByteArray.empty, 0)).toArray 82))
  simp only [World.size_alloc] at e1' e2' e3
  unfold encTr at e1' e2' e3
  clear e1 e2
  have hE := eqTrip
  go_enter Tryz.func102, Tryz.ntmps102
  go_wp2
  go_step3
  go_wp2
  go_step3
  go_wp2_with (go_at_call 93; refine (htr _ hb4).mono ?_; rintro e w1 ⟨v1, rfl, hts, hb1⟩; have hb5 := ext_trans hb4 hb1; obtain ⟨A1, n1, c1, hv1⟩ := hts.isSlice; subst hv1)
  have r1 : RowC encTr 2 (w.heap.size + 1) 0 w1 [(ByteArray.empty, 0)] := e1'.ext hb1
  have r2 : RowC encTr 2 (w.heap.size + 1 + 1) 0 w1 [(ByteArray.empty, 0)] := e2'.ext hb1
  have r3 : RowC encTr 2 (w.heap.size + 1 + 1 + 1) 0 w1 [(ByteArray.empty, 0)] := e3.ext hb1
  have hzz := hts.isSlice
  have hfx := hfw.ext hb5
  have hlen : n1 = ts.length := by obtain ⟨_, _, ee, _⟩ := hts; cases ee; rfl
  subst hlen
  clear e1' e2' e3 htr hb4 hb1
  obtain ⟨A1', c1', ee, hc1, hc2, hr⟩ := hts
  cases ee
  clear hzz
  go_loopw [19, 11] (fun i a wr => ∃ k : Nat, k ≤ ts.length ∧ i = .int .i64 k ∧ a = .string ByteArray.empty ∧ Below w1.heap.size w1 wr ∧ Hid (fo = (ts.drop k).find? (fun t => !hasS failed t.rel.node))) (fun i _ _ => ts.length - (intOf i).toNat)
  case atStart => exact ⟨0, Nat.zero_le _, rfl, rfl, Below.refl _ _, HFO⟩
  case round =>
    obtain ⟨k, hk, rfl, rfl, hb, hz⟩ := hrel
    by_cases hlt : k < ts.length
    · obtain ⟨b, off, rfl, hbl, hcell⟩ := hr (by omega)
      have hx : ts[k]? = some ts[k] := List.getElem?_eq_getElem hlt
      have hdr : ts.drop k = ts[k] :: ts.drop (k + 1) := List.drop_eq_getElem_cons hlt
      have hzo := hz.out
      rw [hdr] at hzo
      have c0 := ext_cell hb (hcell k _ hx 0 _ rfl)
      have c1 := ext_cell hb (hcell k _ hx 1 _ rfl)
      have c2 := ext_cell hb (hcell k _ hx 2 _ rfl)
      have c3 := ext_cell hb (hcell k _ hx 3 _ rfl)
      have c4 := ext_cell hb (hcell k _ hx 4 _ rfl)
      have c5 := ext_cell hb (hcell k _ hx 5 _ rfl)
      rw [Nat.add_zero] at c0
      unfold Rl.pv at c2
      have hct := fun (W : World) (hW : Below w1.heap.size w1 W) => containsS_any failed _ ts[k].rel.node W (hfx.ext hW)
      generalize ts[k] = x at hx hzo c0 c1 c2 c3 c4 c5 hct
      have hsz := hb.size
      have hbX := hb.alloc hsz (.cells #[.string x.rel.name, .string x.rel.node, .slice x.rel.pa x.rel.pts.length x.rel.pc, .string x.rel.name, .int .i64 x.time, .int .i64 x.far] 154)
      have xB := BoxC.new wr 154 #[.string x.rel.name, .string x.rel.node, .slice x.rel.pa x.rel.pts.length x.rel.pc, .string x.rel.name, .int .i64 x.time, .int .i64 x.far]
      have y1 := xB.cell 1 _ rfl
      have y3 := xB.cell 3 _ rfl
      have y4 := xB.cell 4 _ rfl
      clear hx hdr hcell hr hz
      cases hq : hasS failed x.rel.node
      · rw [hq] at hct
        have hfo : fo = some x := by rw [hzo, List.find?_cons_of_pos (by simp [hq])]
        have HF := Lib.hid hfo
        clear hfo hzo HFO
        go_wp2_with (go_at_call 119; refine (hct _ hbX).mono ?_; rintro e w3 ⟨rfl, rfl⟩)
        have s1 := r1.ext hbX
        have s2 := r2.ext hbX
        have s3 := r3.ext hbX
        have hbY := ext_trans hb5 hbX
        have hbYs := hbY.size
        have hwr := r3.1
        have hwr2 := hb.size
        generalize World.alloc wr _ = W at y1 y3 y4 s1 s2 s3 hbY hbX ⊢
        have dB0 : Below W.heap.size W W := Below.refl _ _
        have s3d : RowC encTr 2 (w.heap.size + 1 + 1 + 1) 0 W.drew [(ByteArray.empty, 0)] := s3
        have hkeep : ∀ w7 : World, Below (w.heap.size + 1 + 1 + 1) W.drew w7 → (∀ j, j ≠ w.heap.size + 1 + 1 + 1 → w7.heap[j]? = W.drew.heap[j]?) → w7.cell? ⟨wr.heap.size, 1, none⟩ = some (.string x.rel.node) ∧ w7.cell? ⟨wr.heap.size, 3, none⟩ = some (.string x.rel.name) ∧ w7.cell? ⟨wr.heap.size, 4, none⟩ = some (.int .i64 x.time) ∧ Below w.heap.size w w7 := fun w7 h7 ho => by
          have he : w7.heap[wr.heap.size]? = W.heap[wr.heap.size]? := ho _ (by omega)
          have hc : ∀ o, w7.cell? ⟨wr.heap.size, o, none⟩ = W.cell? ⟨wr.heap.size, o, none⟩ := fun o => by simp only [World.cell?, he]
          exact ⟨(hc 1).trans y1, (hc 3).trans y3, (hc 4).trans y4, Below.trans (b := W) hbY (Below.mono (⟨h7.os, h7.tape, h7.output, h7.size, h7.block⟩ : Below (w.heap.size + 1 + 1 + 1) W w7) (Nat.le_trans (Nat.le_add_right _ 1) (Nat.le_trans (Nat.le_add_right _ 1) (Nat.le_add_right _ 1))))⟩
        refine wp_region_plan (fun w' => w'.cell? ⟨wr.heap.size, 1, none⟩ = some (.string x.rel.node) ∧ w'.cell? ⟨wr.heap.size, 3, none⟩ = some (.string x.rel.name) ∧ w'.cell? ⟨wr.heap.size, 4, none⟩ = some (.int .i64 x.time) ∧ Below w.heap.size w w') [5] [0, 1, 2, 3, 4, 5, 6] (by kernel_rfl) (by kernel_rfl) (by ((first | assumption | exact keep3 (by assumption) (by assumption) | exact keep3 (by assumption) (ext_alloc _ _) | exact keep3 (by assumption) (ext_drew _) | exact keep3 ⟨by assumption, by assumption, by assumption, by assumption⟩ (ext_drew _) | go_keep))) (fun hSw => ?_)
        repeat (first
          | (refine wpPlan_pas rfl rfl (fun K hK => ?_)
             apply Exists.intro
             refine ⟨?_, ?_⟩
             · first | exact pasOk_no rfl | (apply pasOk_yes rfl; intro wS hS; obtain ⟨s0, s1, s2, s3⟩ := hS; go_simp; first | done | exact rfl | ((try simp only [↓IntWalk.iteOmega]); (try go_bits); (try go_simp); first | done | exact rfl))
             go_simp
             refine hK _ ?_
             clear hK K)
          | (refine wpPlan_no rfl rfl rfl (by assumption) (fun K hK => ?_)
             go_simp
             refine hK _ ?_
             clear hK K)
          | (refine wpPlan_act rfl rfl rfl (fun K hK => ?_)
             go_wp2_with (first | ((refine wpList_store_row2 rfl 82 _ _ rfl encTr_len encTr_one sizeTr 0 (x.rel.name, x.time) s3d (by simp) rfl _ rfl rfl ?_); intro w7 hl7 hb7 hz7 ho7; (have hS7 := hkeep w7 hb7 ho7)))
             refine OnlyK.go (hK _ _ (by ((first | assumption | exact keep3 (by assumption) (by assumption) | exact keep3 (by assumption) (ext_alloc _ _) | exact keep3 (by assumption) (ext_drew _) | exact keep3 ⟨by assumption, by assumption, by assumption, by assumption⟩ (ext_drew _) | go_keep))) (fun hSw => ?_))
             clear hK K))
        refine wpPlan_nil ?_
        obtain ⟨_, _, _, hw7⟩ := hS7
        have t1 := RowC.other (w := W.drew) s1 hz7 (ho7 _ (by omega))
        have t2 := RowC.other (w := W.drew) s2 hz7 (ho7 _ (by omega))
        obtain ⟨g0, g1⟩ := RowC.t0 hl7
        obtain ⟨n0, n1⟩ := RowC.t0 t2
        have t1d : RowC encTr 2 (w.heap.size + 1) 0 w7.drew [(ByteArray.empty, 0)] := t1
        clear y1 y3 y4 s1 s2 s3 s3d hbY hbX hbYs hwr hwr2 hkeep hl7 hb7 hz7 ho7 dB0 hSw c0 c1 c2 c3 c4 c5 xB hct hb hbl hsz hfx hfw
        go_wp2
        have hkeep : ∀ w9 : World, Below (w.heap.size + 1) w7.drew w9 → (∀ j, j ≠ w.heap.size + 1 → w9.heap[j]? = w7.drew.heap[j]?) → w9.cell? ⟨w.heap.size + 1 + 1 + 1, 0, none⟩ = some (.string x.rel.name) ∧ w9.cell? ⟨w.heap.size + 1 + 1 + 1, 1, none⟩ = some (.int .i64 x.time) ∧ w9.cell? ⟨w.heap.size + 1 + 1, 0, none⟩ = some (.string ByteArray.empty) ∧ w9.cell? ⟨w.heap.size + 1 + 1, 1, none⟩ = some (.int .i64 0) ∧ Below w.heap.size w w9 := fun w9 h9 ho => by
          have hc : ∀ b o, b ≠ w.heap.size + 1 → w9.cell? ⟨b, o, none⟩ = w7.cell? ⟨b, o, none⟩ := fun b o hb => by
            have he : w9.heap[b]? = w7.heap[b]? := ho _ hb
            simp only [World.cell?, he]
          exact ⟨(hc _ 0 (by omega)).trans g0, (hc _ 1 (by omega)).trans g1, (hc _ 0 (by omega)).trans n0, (hc _ 1 (by omega)).trans n1, Below.trans (b := w7) hw7 (Below.mono (⟨h9.os, h9.tape, h9.output, h9.size, h9.block⟩ : Below (w.heap.size + 1) w7 w9) (Nat.le_add_right _ 1))⟩
        refine wp_region_plan (fun w' => w'.cell? ⟨w.heap.size + 1 + 1 + 1, 0, none⟩ = some (.string x.rel.name) ∧ w'.cell? ⟨w.heap.size + 1 + 1 + 1, 1, none⟩ = some (.int .i64 x.time) ∧ w'.cell? ⟨w.heap.size + 1 + 1, 0, none⟩ = some (.string ByteArray.empty) ∧ w'.cell? ⟨w.heap.size + 1 + 1, 1, none⟩ = some (.int .i64 0) ∧ Below w.heap.size w w') [5] [0, 1, 2, 3, 4, 5, 6, 7] (by kernel_rfl) (by kernel_rfl) (by ((first | assumption | exact keep4 (by assumption) (by assumption) | exact keep4 (by assumption) (ext_alloc _ _) | exact keep4 (by assumption) (ext_drew _) | exact keep4 ⟨by assumption, by assumption, by assumption, by assumption, by assumption⟩ (ext_drew _) | go_keep))) (fun hSw => ?_)
        repeat (first
          | (refine wpPlan_pas rfl rfl (fun K hK => ?_)
             apply Exists.intro
             refine ⟨?_, ?_⟩
             · first | exact pasOk_no rfl | (apply pasOk_yes rfl; intro wS hS; obtain ⟨s0, s1, s2, s3, s4⟩ := hS; go_simp; first | done | exact rfl | ((try simp only [↓IntWalk.iteOmega]); (try go_bits); (try go_simp); first | done | exact rfl))
             go_simp
             refine hK _ ?_
             clear hK K)
          | (refine wpPlan_no rfl rfl rfl (by assumption) (fun K hK => ?_)
             go_simp
             refine hK _ ?_
             clear hK K)
          | (refine wpPlan_act rfl rfl rfl (fun K hK => ?_)
             go_wp2_with (first | ((refine wpList_store_row2 rfl 82 _ _ rfl encTr_len encTr_one sizeTr 0 (x.rel.name, x.time) t1d (by simp) rfl _ rfl rfl ?_); intro w9 hl9 hb9 hz9 ho9; (have hS9 := hkeep w9 hb9 ho9)))
             refine OnlyK.go (hK _ _ (by ((first | assumption | exact keep4 (by assumption) (by assumption) | exact keep4 (by assumption) (ext_alloc _ _) | exact keep4 (by assumption) (ext_drew _) | exact keep4 ⟨by assumption, by assumption, by assumption, by assumption, by assumption⟩ (ext_drew _) | go_keep))) (fun hSw => ?_))
             clear hK K))
        refine wpPlan_nil ?_
        obtain ⟨r0, r1⟩ := RowC.t0 hl9
        have hw9 := hS9.2.2.2.2
        have hI : openI fo = (!x.rel.name.toList.isEmpty || !x.time == 0) := by
          rw [HF.out]
          simp only [openI, openT, tripOf]
          cases h : x.rel.name.toList <;> simp
        have hT : openT fo = (x.rel.name, x.time) := by rw [HF.out]; rfl
        have hA : openA fo = x.rel.node := by rw [HF.out]; rfl
        have HI := Lib.hid hI
        have HT := Lib.hid hT
        have HA := Lib.hid hA
        clear hI hT hA
        go_wp2
        rw [HI.out, HT.out, HA.out]
        exact bodyPost_ret (v := .tuple #[.agg #[.string x.rel.name, .int .i64 x.time], .string x.rel.node, .bool (!x.rel.name.toList.isEmpty || !x.time == 0)]) (by simp [results, Tryz.results102, go_sem, r0, r1]) rfl ⟨rfl, hw9⟩
      · rw [hq] at hct
        have hfo : fo = (ts.drop (k + 1)).find? (fun t => !hasS failed t.rel.node) := by rw [hzo, List.find?_cons_of_neg (by simp [hq])]
        have HF := Lib.hid hfo
        clear hfo hzo HFO
        go_wp2_with (go_at_call 119; refine (hct _ hbX).mono ?_; rintro e w3 ⟨rfl, rfl⟩)
        go_roundw
        case rel => exact ⟨k + 1, by omega, by go_num, rfl, hbX, HF⟩
        case measure => simp [intOf]; omega
    · obtain rfl : k = ts.length := by omega
      have hfo : fo = none := by rw [hz.out, List.drop_of_length_le (by omega)]; rfl
      have HF := Lib.hid hfo
      clear hfo hz HFO
      have s1 := r1.ext hb
      have s2 := r2.ext hb
      have s3 := r3.ext hb
      have hw7 := ext_trans hb5 hb
      obtain ⟨g0, g1⟩ := RowC.t0 s3
      obtain ⟨n0, n1⟩ := RowC.t0 s2
      have t1d : RowC encTr 2 (w.heap.size + 1) 0 wr.drew [(ByteArray.empty, 0)] := s1
      go_wp2
      have hkeep : ∀ w9 : World, Below (w.heap.size + 1) wr.drew w9 → (∀ j, j ≠ w.heap.size + 1 → w9.heap[j]? = wr.drew.heap[j]?) → w9.cell? ⟨w.heap.size + 1 + 1 + 1, 0, none⟩ = some (.string ByteArray.empty) ∧ w9.cell? ⟨w.heap.size + 1 + 1 + 1, 1, none⟩ = some (.int .i64 0) ∧ w9.cell? ⟨w.heap.size + 1 + 1, 0, none⟩ = some (.string ByteArray.empty) ∧ w9.cell? ⟨w.heap.size + 1 + 1, 1, none⟩ = some (.int .i64 0) ∧ Below w.heap.size w w9 := fun w9 h9 ho => by
        have hc : ∀ b o, b ≠ w.heap.size + 1 → w9.cell? ⟨b, o, none⟩ = wr.cell? ⟨b, o, none⟩ := fun b o hb => by
          have he : w9.heap[b]? = wr.heap[b]? := ho _ hb
          simp only [World.cell?, he]
        exact ⟨(hc _ 0 (by omega)).trans g0, (hc _ 1 (by omega)).trans g1, (hc _ 0 (by omega)).trans n0, (hc _ 1 (by omega)).trans n1, Below.trans (b := wr) hw7 (Below.mono (⟨h9.os, h9.tape, h9.output, h9.size, h9.block⟩ : Below (w.heap.size + 1) wr w9) (Nat.le_add_right _ 1))⟩
      refine wp_region_plan (fun w' => w'.cell? ⟨w.heap.size + 1 + 1 + 1, 0, none⟩ = some (.string ByteArray.empty) ∧ w'.cell? ⟨w.heap.size + 1 + 1 + 1, 1, none⟩ = some (.int .i64 0) ∧ w'.cell? ⟨w.heap.size + 1 + 1, 0, none⟩ = some (.string ByteArray.empty) ∧ w'.cell? ⟨w.heap.size + 1 + 1, 1, none⟩ = some (.int .i64 0) ∧ Below w.heap.size w w') [5] [0, 1, 2, 3, 4, 5, 6, 7] (by kernel_rfl) (by kernel_rfl) (by ((first | assumption | exact keep4 (by assumption) (by assumption) | exact keep4 (by assumption) (ext_alloc _ _) | exact keep4 (by assumption) (ext_drew _) | exact keep4 ⟨by assumption, by assumption, by assumption, by assumption, by assumption⟩ (ext_drew _) | go_keep))) (fun hSw => ?_)
      repeat (first
        | (refine wpPlan_pas rfl rfl (fun K hK => ?_)
           apply Exists.intro
           refine ⟨?_, ?_⟩
           · first | exact pasOk_no rfl | (apply pasOk_yes rfl; intro wS hS; obtain ⟨s0, s1, s2, s3, s4⟩ := hS; go_simp; first | done | exact rfl | ((try simp only [↓IntWalk.iteOmega]); (try go_bits); (try go_simp); first | done | exact rfl))
           go_simp
           refine hK _ ?_
           clear hK K)
        | (refine wpPlan_no rfl rfl rfl (by assumption) (fun K hK => ?_)
           go_simp
           refine hK _ ?_
           clear hK K)
        | (refine wpPlan_act rfl rfl rfl (fun K hK => ?_)
           go_wp2_with (first | ((refine wpList_store_row2 rfl 82 _ _ rfl encTr_len encTr_one sizeTr 0 (ByteArray.empty, 0) t1d (by simp) rfl _ rfl rfl ?_); intro w9 hl9 hb9 hz9 ho9; (have hS9 := hkeep w9 hb9 ho9)))
           refine OnlyK.go (hK _ _ (by ((first | assumption | exact keep4 (by assumption) (by assumption) | exact keep4 (by assumption) (ext_alloc _ _) | exact keep4 (by assumption) (ext_drew _) | exact keep4 ⟨by assumption, by assumption, by assumption, by assumption, by assumption⟩ (ext_drew _) | go_keep))) (fun hSw => ?_))
           clear hK K))
      refine wpPlan_nil ?_
      obtain ⟨r0, r1⟩ := RowC.t0 hl9
      have hw9 := hS9.2.2.2.2
      have hI : openI fo = false := by rw [HF.out]; simp [openI, openT]
      have hT : openT fo = (ByteArray.empty, 0) := by rw [HF.out]; rfl
      have hA : openA fo = ByteArray.empty := by rw [HF.out]; rfl
      have HI := Lib.hid hI
      have HT := Lib.hid hT
      have HA := Lib.hid hA
      clear hI hT hA
      go_wp2
      rw [HI.out, HT.out, HA.out]
      exact bodyPost_ret (v := .tuple #[.agg #[.string ByteArray.empty, .int .i64 0], .string ByteArray.empty, .bool false]) (by simp [results, Tryz.results102, go_sem, r0, r1]) rfl ⟨rfl, hw9⟩
end Go.Proofs.YtlogjgmfkjjhjaaGreatDoor
