/-
  feeder.Opens, feeder.Dead.
  feeder.meets, feeder.Live.
-/
import Derived.Test.YtlogjgmfkjjhjaaGreatDoorX18
import Derived.Test.YtlogjgmfkjjhjaaGreatDoorX17
set_option linter.unusedSimpArgs false
set_option linter.unusedVariables false
namespace Go.Proofs.YtlogjgmfkjjhjaaGreatDoor
open Go.RowKit

def opensFo (g : Gr) (s : ByteArray) (failed : List ByteArray) : Option Tp := firstOpen (tripsN g s) failed
def opensR (g : Gr) (s : ByteArray) (failed : List ByteArray) : (ByteArray × Int) × Int := if failedV g s failed ≠ 0 then ((ByteArray.empty, 0), failedV g s failed) else (openT (opensFo g s failed), whenV (!openI (opensFo g s failed)) 7)
theorem failedV_zero {g : Gr} {s : ByteArray} {failed : List ByteArray} (h : failedV g s failed = 0) : gridNodeV g s = 0 := by
  unfold failedV at h
  split at h
  · rename_i hh; exact absurd h hh
  · rename_i hh; simpa using hh

set_option maxHeartbeats 4000000 in
theorem Opens_any (g : Gr) (s : ByteArray) (failed : List ByteArray) (vf : Value) (w : World) (hg : GrAt w g) (h12 : g.rels.length ≤ 12) (hf : SlAt encS 1 w vf failed) :
    Calls Tryz.prog 45 #[.agg (encGr g).toArray, .string s, vf] w fun e w' => e = .returned (.tuple #[.agg (encTr (opensR g s failed).1).toArray, .int .i64 (opensR g s failed).2]) ∧ Below w.heap.size w w' := by
  have hck := fun W hW => checkFailed_any g s failed vf W (hg.ext hW) (hf.ext hW)
  have htr := fun (h0 : failedV g s failed = 0) (W : World) (hW : Below w.heap.size w W) => opens_any g s failed vf W (hg.ext hW) (gridV_zero (gridNodeV_zero (failedV_zero h0)).1).1 h12 (gridV_zero (gridNodeV_zero (failedV_zero h0)).1).2.2.1 (by have := (gridV_zero (gridNodeV_zero (failedV_zero h0)).1).2.2.2; omega) (hf.ext hW)
  have hV : opensR g s failed = if failedV g s failed ≠ 0 then ((ByteArray.empty, 0), failedV g s failed) else (openT (firstOpen (tripsN g s) failed), whenV (!openI (firstOpen (tripsN g s) failed)) 7) := rfl
  rw [hV]
  clear hV
  obtain ⟨Af, nf, cf, rfl⟩ := hf.isSlice
  clear hf
  generalize failedV g s failed = e0 at hck htr ⊢
  generalize firstOpen (tripsN g s) failed = fo at htr ⊢
  unfold encGr at hck htr ⊢
  obtain ⟨nv, nodes, rv, rels, st⟩ := g
  simp only at hck htr h12 ⊢
  obtain ⟨A, n, c, rfl⟩ := hg.nodes.isSlice
  obtain ⟨A', n', c', rfl⟩ := hg.rels.isSlice
  clear hg
  have hbW : Below w.heap.size w ((w.alloc (.cells #[.slice A n c, .slice A' n' c', .int .i64 st] 67)).alloc (.cells #[.string ByteArray.empty, .int .i64 0] 82)) := by (repeat (first | exact Below.refl _ _ | assumption | refine Below.drew ?_ | refine Below.alloc ?_ (by simp <;> omega) _ | refine Below.alloc ?_ (by simp) _ | refine Below.setCell ?_ (by simp) _))
  have x0 := (BoxC.new w 67 #[.slice A n c, .slice A' n' c', .int .i64 st]).alloc (.cells #[.string ByteArray.empty, .int .i64 0] 82)
  have p0 := x0.cell 0 _ rfl
  have p1 := x0.cell 1 _ rfl
  have p2 := x0.cell 2 _ rfl
  have e1 := RowC.new encTr_len (w.alloc (.cells #[.slice A n c, .slice A' n' c', .int .i64 st] 67)) 82 (ByteArray.empty, 0)
  unfold encTr at e1 htr ⊢
  simp only [World.size_alloc] at e1
  clear x0
  generalize hT : openT fo = tr at htr ⊢
  generalize openA fo = ta at htr ⊢
  generalize openI fo = ti at htr ⊢
  clear hT
  go_enter Tryz.func45, Tryz.ntmps45
  cases hq : (e0 != 0)
  · obtain rfl : e0 = 0 := by simpa using hq
    have htr2 := fun (W : World) hW => htr rfl W hW
    clear htr
    rw [if_neg (by simp)]
    go_wp2_with (first
      | (go_at_call 101; refine (hck _ hbW).mono ?_; rintro e wA ⟨rfl, hbA⟩; have hbB := ext_trans hbW hbA; have q0 := ext_cell hbA p0; have q1 := ext_cell hbA p1; have q2 := ext_cell hbA p2; have r1 : RowC encTr 2 (w.heap.size + 1) 0 wA [(ByteArray.empty, 0)] := e1.ext hbA)
      | (go_at_call 102; refine (htr2 _ hbB).mono ?_; rintro e wC ⟨rfl, hbC⟩; have hbD := ext_trans hbB hbC; have r2 := r1.ext hbC))
    have x9 := BoxC.new wC 82 #[.string tr.1, .int .i64 tr.2]
    have z0 := x9.cell 0 _ rfl
    have z1 := x9.cell 1 _ rfl
    have hlt : w.heap.size + 1 < wC.heap.size := r2.1
    have r3 := r2.ext (ext_alloc wC (.cells #[.string tr.1, .int .i64 tr.2] 82))
    have hbE := hbD.alloc hbD.size (.cells #[.string tr.1, .int .i64 tr.2] 82)
    clear x9 r1 r2 hbA hbB q0 q1 q2
    generalize World.alloc wC _ = W at z0 z1 r3 hbE ⊢
    have r3d : RowC encTr 2 (w.heap.size + 1) 0 W.drew [(ByteArray.empty, 0)] := r3
    have hkeep : ∀ w9 : World, Below (w.heap.size + 1) W.drew w9 → (∀ j, j ≠ w.heap.size + 1 → w9.heap[j]? = W.drew.heap[j]?) → w9.cell? ⟨wC.heap.size, 0, none⟩ = some (.string tr.1) ∧ w9.cell? ⟨wC.heap.size, 1, none⟩ = some (.int .i64 tr.2) ∧ Below w.heap.size w w9 := fun w9 h9 ho => by
      have hc : ∀ o, w9.cell? ⟨wC.heap.size, o, none⟩ = W.cell? ⟨wC.heap.size, o, none⟩ := fun o => by
        have he : w9.heap[wC.heap.size]? = W.heap[wC.heap.size]? := ho _ (by omega)
        simp only [World.cell?, he]
      exact ⟨(hc 0).trans z0, (hc 1).trans z1, Below.trans (b := W) hbE (Below.mono (⟨h9.os, h9.tape, h9.output, h9.size, h9.block⟩ : Below (w.heap.size + 1) W w9) (Nat.le_add_right _ 1))⟩
    refine wp_region_plan (fun w' => w'.cell? ⟨wC.heap.size, 0, none⟩ = some (.string tr.1) ∧ w'.cell? ⟨wC.heap.size, 1, none⟩ = some (.int .i64 tr.2) ∧ Below w.heap.size w w') [3, 4] [0, 1, 2, 3, 4, 5] (by kernel_rfl) (by kernel_rfl) (by ((first | assumption | exact keep2 (by assumption) (by assumption) | exact keep2 (by assumption) (ext_alloc _ _) | exact keep2 (by assumption) (ext_drew _) | exact keep2 ⟨by assumption, by assumption, by assumption⟩ (ext_drew _) | go_keep))) (fun hSw => ?_)
    repeat (first
      | (refine wpPlan_pas rfl rfl (fun K hK => ?_)
         apply Exists.intro
         refine ⟨?_, ?_⟩
         · first | exact pasOk_no rfl | (apply pasOk_yes rfl; intro wS hS; obtain ⟨s0, s1, s2⟩ := hS; go_simp; first | done | exact rfl | ((try simp only [↓IntWalk.iteOmega]); (try go_bits); (try go_simp); first | done | exact rfl))
         go_simp
         refine hK _ ?_
         clear hK K)
      | (refine wpPlan_no rfl rfl rfl (by assumption) (fun K hK => ?_)
         go_simp
         refine hK _ ?_
         clear hK K)
      | (refine wpPlan_act rfl rfl rfl (fun K hK => ?_)
         go_wp2_with (first | (go_at_call 82; refine (when_any _ _ _).mono ?_; rintro e w1 ⟨rfl, rfl⟩) | (refine wpList_store_row2 rfl 82 _ _ rfl encTr_len encTr_one sizeTr 0 tr r3d (by simp) rfl _ rfl rfl ?_; intro w9 hl9 hb9 hz9 ho9; have hS9 := hkeep w9 hb9 ho9))
         refine OnlyK.go (hK _ _ (by ((first | assumption | exact keep2 (by assumption) (by assumption) | exact keep2 (by assumption) (ext_alloc _ _) | exact keep2 (by assumption) (ext_drew _) | exact keep2 ⟨by assumption, by assumption, by assumption⟩ (ext_drew _) | go_keep))) (fun hSw => ?_))
         clear hK K))
    refine wpPlan_nil ?_
    obtain ⟨g0, g1⟩ := RowC.t0 hl9
    have hw9 := hS9.2.2
    clear hS9 hkeep hSw
    go_wp2
    exact bodyPost_ret (v := .tuple #[.agg #[.string tr.1, .int .i64 tr.2], .int .i64 (whenV (!ti) 7)]) (by simp [results, Tryz.results45, go_sem, g0, g1]) rfl ⟨rfl, hw9⟩
  · rw [if_pos (by simpa using hq)]
    go_wp2_with (first
      | (go_at_call 101; refine (hck _ hbW).mono ?_; rintro e wA ⟨rfl, hbA⟩; have hbB := ext_trans hbW hbA; have r1 : RowC encTr 2 (w.heap.size + 1) 0 wA [(ByteArray.empty, 0)] := e1.ext hbA)
      | (refine wpList_store_row2 rfl 82 _ _ rfl encTr_len encTr_one sizeTr 0 (ByteArray.empty, 0) r1 (by simp) rfl _ rfl rfl ?_; intro w9 hl9 hb9 hz9 ho9))
    obtain ⟨g0, g1⟩ := RowC.t0 hl9
    have hw9 : Below w.heap.size w w9 := Below.trans hbB (hb9.mono (Nat.le_add_right _ 1))
    exact bodyPost_ret (v := .tuple #[.agg #[.string ByteArray.empty, .int .i64 0], .int .i64 e0]) (by simp [results, Tryz.results45, go_sem, g0, g1]) rfl ⟨rfl, hw9⟩

def deadN (g : Gr) (s : ByteArray) (failed : List ByteArray) : List ByteArray := if openI (opensFo g s failed) then (branchN g.nodes (openA (opensFo g s failed))).map Nd.name else g.nodes.map Nd.name
def deadR (g : Gr) (s : ByteArray) (failed : List ByteArray) : List ByteArray × Int := if failedV g s failed ≠ 0 then ([], failedV g s failed) else (deadN g s failed, 0)

set_option maxHeartbeats 4000000 in
theorem Dead_any (g : Gr) (s : ByteArray) (failed : List ByteArray) (vf : Value) (w : World) (hg : GrAt w g) (h12 : g.rels.length ≤ 12) (hf : SlAt encS 1 w vf failed) :
    Calls Tryz.prog 47 #[.agg (encGr g).toArray, .string s, vf] w (Ret2 encS 1 9 (deadR g s failed) w) := by
  have hck := fun W hW => checkFailed_any g s failed vf W (hg.ext hW) (hf.ext hW)
  have htr := fun (h0 : failedV g s failed = 0) (W : World) (hW : Below w.heap.size w W) => opens_any g s failed vf W (hg.ext hW) (gridV_zero (gridNodeV_zero (failedV_zero h0)).1).1 h12 (gridV_zero (gridNodeV_zero (failedV_zero h0)).1).2.2.1 (by have := (gridV_zero (gridNodeV_zero (failedV_zero h0)).1).2.2.2; omega) (hf.ext hW)
  have hgd := fun (h0 : failedV g s failed = 0) => (gridV_zero (gridNodeV_zero (failedV_zero h0)).1).1
  have hV : deadR g s failed = if failedV g s failed ≠ 0 then ([], failedV g s failed) else (if openI (firstOpen (tripsN g s) failed) then (branchN g.nodes (openA (firstOpen (tripsN g s) failed))).map Nd.name else g.nodes.map Nd.name, 0) := rfl
  rw [hV]
  clear hV
  have el := enters_of Tryz.func74 (by kernel_rfl) rfl
  obtain ⟨Af, nf, cf, rfl⟩ := hf.isSlice
  clear hf
  generalize failedV g s failed = e0 at hck htr hgd ⊢
  generalize firstOpen (tripsN g s) failed = fo at htr ⊢
  unfold encGr at hck htr ⊢
  have hnw := hg.nodes
  obtain ⟨nv, nodes, rv, rels, st⟩ := g
  simp only at hck htr h12 hgd hnw ⊢
  obtain ⟨A, n, c, rfl⟩ := hnw.isSlice
  obtain ⟨A', n', c', rfl⟩ := hg.rels.isSlice
  clear hg
  have hbW : Below w.heap.size w (w.alloc (.cells #[.slice A n c, .slice A' n' c', .int .i64 st] 67)) := by (repeat (first | exact Below.refl _ _ | assumption | refine Below.drew ?_ | refine Below.alloc ?_ (by simp <;> omega) _ | refine Below.alloc ?_ (by simp) _ | refine Below.setCell ?_ (by simp) _))
  have x0 := (BoxC.new w 67 #[.slice A n c, .slice A' n' c', .int .i64 st])
  have p0 := x0.cell 0 _ rfl
  have p1 := x0.cell 1 _ rfl
  have p2 := x0.cell 2 _ rfl
  unfold encTr at htr
  clear x0
  generalize openT fo = tr at htr
  generalize openA fo = ta at htr ⊢
  generalize openI fo = ti at htr ⊢
  go_enter Tryz.func47, Tryz.ntmps47
  cases hq : (e0 != 0)
  · obtain rfl : e0 = 0 := by simpa using hq
    have htr2 := fun (W : World) hW => htr rfl W hW
    have hgd := hgd rfl
    have hbr := fun W hW => branch_any _ nodes ta hgd.acyc hgd.len0 hgd.len W (hnw.ext hW)
    have hl16 := hgd.len1
    clear htr
    rw [if_neg (by simp)]
    cases ti
    · rw [if_neg (by simp)]
      go_wp2_with (first
        | (go_at_call 101; refine (hck _ hbW).mono ?_; rintro e wA ⟨rfl, hbA⟩; have hbB := ext_trans hbW hbA; have q0 := ext_cell hbA p0; have q1 := ext_cell hbA p1; have q2 := ext_cell hbA p2)
        | (go_at_call 102; refine (htr2 _ hbB).mono ?_; rintro e wC ⟨rfl, hbC⟩; have hbD := ext_trans hbB hbC; have z0 := ext_cell (hbC.alloc hbC.size (.cells #[.string tr.1, .int .i64 tr.2] 82)) q0; have z1 := ext_cell (hbC.alloc hbC.size (.cells #[.string tr.1, .int .i64 tr.2] 82)) q1; have z2 := ext_cell (hbC.alloc hbC.size (.cells #[.string tr.1, .int .i64 tr.2] 82)) q2; have hbE := hbD.alloc hbD.size (.cells #[.string tr.1, .int .i64 tr.2] 82))
        | (go_at_call 72; refine (mappedNS Nd.name _ el nodes _ _ (hnw.ext hbE) (by omega) (label_fn _ _)).mono ?_; rintro e w3 ⟨v3, rfl, ho3, hb5, hn3⟩))
      go_ret2
      exact ⟨_, rfl, ho3.mono hbE.size, ext_trans hbE hb5, hn3⟩
    · rw [if_pos rfl]
      go_wp2_with (first
        | (go_at_call 101; refine (hck _ hbW).mono ?_; rintro e wA ⟨rfl, hbA⟩; have hbB := ext_trans hbW hbA; have q0 := ext_cell hbA p0; have q1 := ext_cell hbA p1; have q2 := ext_cell hbA p2)
        | (go_at_call 102; refine (htr2 _ hbB).mono ?_; rintro e wC ⟨rfl, hbC⟩; have hbD := ext_trans hbB hbC; have z0 := ext_cell (hbC.alloc hbC.size (.cells #[.string tr.1, .int .i64 tr.2] 82)) q0; have z1 := ext_cell (hbC.alloc hbC.size (.cells #[.string tr.1, .int .i64 tr.2] 82)) q1; have z2 := ext_cell (hbC.alloc hbC.size (.cells #[.string tr.1, .int .i64 tr.2] 82)) q2; have hbE := hbD.alloc hbD.size (.cells #[.string tr.1, .int .i64 tr.2] 82))
        | (go_at_call 73; refine (hbr _ hbE).mono ?_; rintro e w2 ⟨b, c', rfl, hbc, hbc2, hbb, hrow, hb2⟩; have hb3 := ext_trans hbE hb2)
        | (go_at_call 72; refine (mappedNS Nd.name _ el (branchN nodes ta) _ _ (hrow.slat hbc (by omega)) (by omega) (label_fn _ _)).mono ?_; rintro e w3 ⟨v3, rfl, ho3, hb5, hn3⟩))
      go_ret2
      exact ⟨_, rfl, ho3.mono hb3.size, ext_trans hb3 hb5, hn3⟩
  · rw [if_pos (by simpa using hq)]
    go_wp2_with (go_at_call 101; refine (hck _ hbW).mono ?_; rintro e wA ⟨rfl, hbA⟩; have hbB := ext_trans hbW hbA)
    go_ret2
    exact ⟨_, rfl, Own.nil _, hbB, fun _ => rfl⟩
end Go.Proofs.YtlogjgmfkjjhjaaGreatDoor
namespace Go.Proofs.YtlogjgmfkjjhjaaGreatDoor
open Go.RowKit

theorem meets1_any (lb : Nat) (v : Value) (some_ : List ByteArray) (s : ByteArray) (w : World) (hc : w.cell? ⟨lb, 0, none⟩ = some v) (hs : SlAt encS 1 w v some_) :
    Calls Tryz.prog 159 #[.string s, .pointer (some ⟨lb, 0, none⟩)] w fun e w' => e = .returned (.bool (hasS some_ s)) ∧ Below w.heap.size w w' := by
  have hct := containsS_any some_ v s w hs
  obtain ⟨A, n, c, rfl⟩ := hs.isSlice
  clear hs
  go_enter Tryz.func159, Tryz.ntmps159
  go_wp2_with (go_at_call 119; refine hct.mono ?_; rintro e w' ⟨rfl, rfl⟩)
  go_ret
  exact ⟨rfl, Below.refl _ _⟩

def meetsB (l : List Nd) (s : ByteArray) (some_ : List ByteArray) : Bool := (namesN l s).any (hasS some_)
set_option maxHeartbeats 2000000 in
theorem meets_any (v vs : Value) (l : List Nd) (s : ByteArray) (some_ : List ByteArray) (hac : Acyc l) (hl : l.length ≤ 1048576) (w : World) (hs : SlAt encN 7 w v l) (hf : SlAt encS 1 w vs some_) :
    Calls Tryz.prog 121 #[v, .string s, vs] w fun e w' => e = .returned (.bool (meetsB l s some_)) ∧ Below w.heap.size w w' := by
  have hnm := fun W hW => names_any v l s hac hl W (hs.ext hW)
  have hcf := fun (W : World) (v' : Value) (hc : W.cell? ⟨w.heap.size, 0, none⟩ = some vs) (hW : Below w.heap.size w W) (hv : SlAt encS 1 W v' (namesN l s)) =>
    containsFuncSS (hasS some_) 159 #[.pointer (some ⟨w.heap.size, 0, none⟩)] (enters_of Tryz.func159 (by kernel_rfl) rfl) (namesN l s) v' W hv
      (fun W' x _ hb => meets1_any w.heap.size vs some_ x W' (ext_cell hb hc) (hf.ext (ext_trans hW hb)))
  have hV : meetsB l s some_ = (namesN l s).any (hasS some_) := rfl
  rw [hV]
  clear hV
  generalize (namesN l s).any (hasS some_) = r at hcf ⊢
  obtain ⟨A, n, c, rfl⟩ := hs.isSlice
  obtain ⟨As, ns, cs, rfl⟩ := hf.isSlice
  clear hs hf
  have p0 := (BoxC.new w 25 #[.slice As ns cs]).cell 0 _ rfl
  have hbW : Below w.heap.size w (w.alloc (.cells #[.slice As ns cs] 25)) := ext_alloc _ _
  go_enter Tryz.func121, Tryz.ntmps121
  go_wp2_with (first
    | (go_at_call 71; refine (hnm _ hbW).mono ?_; rintro e w1 ⟨v1, rfl, ho1, hb1, hn1⟩; have q0 := ext_cell hb1 p0; have hb2 := ext_trans hbW hb1; have hws := ho1.slat encS_len; obtain ⟨A1, c1, rfl⟩ := ho1.slice)
    | (go_at_call 158; refine (hcf _ _ q0 hb2 hws).mono ?_; rintro e w3 ⟨rfl, hb3⟩))
  go_ret
  exact ⟨rfl, ext_trans hb2 hb3⟩

def liveE (l : List Nd) (opn : List ByteArray) : Int := firstV [checkNodesV l, namesErr (fun s => decide (0 ≤ findI l s)) opn]
def liveN (l : List Nd) (opn : List ByteArray) : List ByteArray := pickN (fun i => !(meetsB l (l.getD i default).name opn)) l l.length
def liveR (l : List Nd) (opn : List ByteArray) : List ByteArray × Int := if liveE l opn ≠ 0 then ([], liveE l opn) else (liveN l opn, 0)

set_option maxHeartbeats 8000000 in
theorem Live_any (v vo : Value) (l : List Nd) (opn : List ByteArray) (w : World) (hs : SlAt encN 7 w v l) (hok : Names l) (hf : SlAt encS 1 w vo opn) :
    Calls Tryz.prog 65 #[v, vo] w (Ret2 encS 1 9 (liveR l opn) w) := by
  have hc := checkNodes_any l v w hs hok
  have hz : checkNodesV l = 0 → _ := good_of
  have hin := fun W => isNode_any v hs.isSlice W
  have hcn := fun W (hW : Below w.heap.size w W) => checkNames_any (lb := #[.pointer (some ⟨W.heap.size, 0, none⟩)]) (fun s => decide (0 ≤ findI l s)) _ (enters_of Tryz.func157 (by kernel_rfl) rfl) opn vo (W.alloc (.cells #[v] 29)) (hf.ext (hW.alloc hW.size _)) (isNode_fn v l opn W (hs.ext hW))
  have hmt := fun (hg : Good l) (W : World) (hW : Below w.heap.size w W) (s : ByteArray) => meets_any v vo l s opn hg.acyc hg.len W (hs.ext hW) (hf.ext hW)
  have hV : liveR l opn = if firstV [checkNodesV l, namesErr (fun s => decide (0 ≤ findI l s)) opn] ≠ 0 then ([], firstV [checkNodesV l, namesErr (fun s => decide (0 ≤ findI l s)) opn]) else (liveN l opn, 0) := rfl
  have hN : liveN l opn = pickN (fun i => !(meetsB l (l.getD i default).name opn)) l l.length := rfl
  rw [hV, hN]
  clear hV hN
  generalize checkNodesV l = e0 at hc hz ⊢
  generalize namesErr (fun s => decide (0 ≤ findI l s)) opn = e1 at hcn ⊢
  generalize hS : (fun s => meetsB l s opn) = S
  have hS2 : ∀ s, meetsB l s opn = S s := fun s => by rw [← hS]
  simp only [hS2] at hmt ⊢
  clear hS hS2
  obtain ⟨A, c, rfl, hc1, hc2, hr⟩ := hs
  obtain ⟨As, ns, cs, rfl⟩ := hf.isSlice
  clear hf
  go_enter Tryz.func65, Tryz.ntmps65
  cases hq : (firstV [e0, e1] != 0)
  · have he : firstV [e0, e1] = 0 := by simpa using hq
    rw [if_neg (by simpa using he)]
    obtain ⟨rfl, rfl⟩ : e0 = 0 ∧ e1 = 0 := by simpa [firstV_zero] using he
    clear he
    have hg := hz rfl
    have hln := hg.len1
    have hmt2 := fun W hW s => hmt hg W hW s
    clear hz hmt
    go_wp2_with (first
      | (go_at_call 21; refine hc.mono ?_; rintro e wA ⟨rfl, hbA⟩)
      | (go_at_call 120; refine (hin _).mono ?_; rintro e wC ⟨rfl, rfl⟩)
      | (go_at_call 113; refine (hcn _ hbA).mono ?_; rintro e wD ⟨rfl, hbD⟩; have hbE := ext_trans (hbA.alloc hbA.size _) hbD)
      | (go_at_call 81; refine (first_any [_, _] _ _ (slat_new encI_len (by simp) rfl (by simp))).mono ?_; rintro e w3 ⟨rfl, rfl⟩))
    generalize hW : World.alloc wD _ = w4
    have hbB2 : Below w.heap.size w w4 := by rw [← hW]; exact hbE.alloc hbE.size _
    clear hW hc hin hcn hbA hbD hbE hg hq
    go_loopw [22, 7] (fun i o wr => ∃ k : Nat, k ≤ l.length ∧ i = .int .i64 k ∧ Below w4.heap.size w4 wr ∧ Own encS 1 w4.heap.size 9 wr o (pickN (fun i => !(S (l.getD i default).name)) l k) ∧ Hid (pickN (fun i => !(S (l.getD i default).name)) l k = [] → o = .slice none 0 0)) (fun i _ _ => l.length - (intOf i).toNat)
    case atStart => exact ⟨0, Nat.zero_le _, rfl, Below.refl _ _, Own.nil _, fun _ => rfl⟩
    case round =>
      obtain ⟨k, hk, rfl, hb, ho, hnil⟩ := hrel
      by_cases hlt : k < l.length
      · obtain ⟨b1, o1, rfl, hbl, hcell⟩ := hr (by omega)
        have hx : l[k]? = some (l.getD k default) := by rw [List.getD_eq_getElem?_getD, List.getElem?_eq_getElem hlt]; rfl
        have hst : pickN (fun i => !(S (l.getD i default).name)) l (k + 1) = pickN (fun i => !(S (l.getD i default).name)) l k ++ (if (!(S (l.getD k default).name)) = true then [(l.getD k default).name] else []) := pickN_succ _ l k
        have hpl := pickN_len (fun i => !(S (l.getD i default).name)) l k
        have hbw := ext_trans hbB2 hb
        have hsc := fun W hW => hmt2 W hW (l.getD k default).name
        have c0 := ext_cell hbw (hcell k _ hx 0 _ rfl)
        rw [Nat.add_zero] at c0
        generalize l.getD k default = x at hst hsc c0
        have hsz := hb.size
        have HST := Lib.hid hst
        have HPL := Lib.hid hpl
        clear hst hpl hx hcell hr
        generalize pickN (fun i => !(S (l.getD i default).name)) l k = ys at ho hnil HST HPL
        cases hq : S x.name
        · rw [hq] at hsc
          have hs2 := HST.out
          rw [hq] at hs2
          have HS2 := Lib.hid hs2
          clear hs2
          go_wp2_with (first
            | (go_at_call 121; refine (hsc _ hbw).mono ?_; rintro e w5 ⟨rfl, hb5⟩; have hb6 := ext_trans hb hb5; have hb6s := hb6.size; have ho6 := ho.ext hb5; have u1 := ext_cell hb5 c0)
            | (at_builtin; refine own_append (w0 := w4) rfl _ _ 25 (.string ByteArray.empty) 16 rfl Tryz.underlying25 infoS rfl (by decide) (by decide) encS_len _ ys x.name _ rfl rfl rfl (by simp [encS, Value.oneCell']) ho6 hb6 hb6s (by have := HPL.out; omega) ?_; intro v1 w7 hown hbv hgv hnn))
          go_roundw
          case rel => exact ⟨k + 1, by omega, by go_num, hbv, by rw [HS2.out]; exact hown, fun h => by rw [HS2.out] at h; simp at h⟩
          case measure => simp [intOf]; omega
        · rw [hq] at hsc
          have hs2 := HST.out
          rw [hq] at hs2
          have HS2 := Lib.hid hs2
          clear hs2
          go_wp2_with (go_at_call 121; refine (hsc _ hbw).mono ?_; rintro e w5 ⟨rfl, hb5⟩; have hb6 := ext_trans hb hb5; have ho6 := ho.ext hb5)
          go_roundw
          case rel => exact ⟨k + 1, by omega, by go_num, hb6, by rw [HS2.out]; simpa using ho6, fun h => by rw [HS2.out] at h; exact hnil.out (by simpa using h)⟩
          case measure => simp [intOf]; omega
      · obtain rfl : k = l.length := by omega
        go_wp2
        go_ret2
        exact ⟨_, rfl, ho.mono hbB2.size, hbB2.trans (hb.mono hbB2.size), hnil.out⟩
  · have he : firstV [e0, e1] ≠ 0 := by simpa using hq
    rw [if_pos he]
    clear hmt
    go_wp2_with (first
      | (go_at_call 21; refine hc.mono ?_; rintro e wA ⟨rfl, hbA⟩)
      | (go_at_call 120; refine (hin _).mono ?_; rintro e wC ⟨rfl, rfl⟩)
      | (go_at_call 113; refine (hcn _ hbA).mono ?_; rintro e wD ⟨rfl, hbD⟩; have hbE := ext_trans (hbA.alloc hbA.size _) hbD; have hbF := hbE.alloc hbE.size (.cells #[.int .i64 e0, .int .i64 e1] 26))
      | (go_at_call 81; refine (first_any [_, _] _ _ (slat_new encI_len (by simp) rfl (by simp))).mono ?_; rintro e w3 ⟨rfl, rfl⟩))
    go_ret2
    exact ⟨_, rfl, Own.nil _, hbF, fun _ => rfl⟩
end Go.Proofs.YtlogjgmfkjjhjaaGreatDoor
