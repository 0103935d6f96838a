/-
  slices.IndexFunc and slices.ContainsFunc at relays, trips and strings.
  Grid.isSelective with its closures.
-/
import Derived.Test.YtlogjgmfkjjhjaaGreatDoorX16
set_option linter.unusedSimpArgs false
set_option linter.unusedVariables false
namespace Go.Proofs.YtlogjgmfkjjhjaaGreatDoor
open Go.RowKit

set_option maxHeartbeats 1000000 in
theorem indexFuncR (p : Rl → Bool) (g : Nat) (lb : Array Value) (eg : ∀ args w, (callFunc g args).run Tryz.prog w = .ok (.enter g args) w) (xs : List Rl) (v : Value) (w : World)
    (hs : SlAt encR 3 w v xs) (hp : PredB g lb (fun x => .agg (encR x).toArray) p xs w) :
    Calls Tryz.prog 155 #[v, .func (.func g) #[] lb] w fun e w' => e = .returned (.int .i64 (idxI p xs)) ∧ Below w.heap.size w w' := by
  obtain ⟨A, c, rfl, hc, hm, hr⟩ := hs
  have hlen : xs.length ≤ 9223372036854775807 := by omega
  go_enter Tryz.func155, Tryz.ntmps155
  go_wp2
  go_loopw [8] (fun i wr => ∃ k : Nat, k ≤ xs.length ∧ i = .int .i64 k ∧ Below w.heap.size w wr ∧ Hid (∀ j y, j < k → xs[j]? = some y → p y = false)) (fun i _ => xs.length - (intOf i).toNat)
  case atStart => exact ⟨0, Nat.zero_le _, rfl, Below.refl _ _, fun j y hj => absurd hj (Nat.not_lt_zero _)⟩
  case round =>
    obtain ⟨k, hk, rfl, hb, hz⟩ := hrel
    by_cases hlt : k < xs.length
    · obtain ⟨b, off, rfl, hbl, hcell⟩ := hr (by omega)
      have hx : xs[k]? = some xs[k] := List.getElem?_eq_getElem hlt
      have hcall := hp wr xs[k] (List.getElem_mem hlt) hb
      generalize xs[k] = x at hx hcall
      have c0 := ext_cell hb (hcell k x hx 0 _ rfl); have c1 := ext_cell hb (hcell k x hx 1 _ rfl); have c2 := ext_cell hb (hcell k x hx 2 _ rfl); rw [Nat.add_zero] at c0; unfold Rl.pv at c2
      have HX := Lib.hid hx
      clear hcell hr hp hx
      unfold encR Rl.pv at hcall
      cases hq : p x
      · rw [hq] at hcall
        have HQ := Lib.hid hq
        clear hq
        go_wp2_with (go_at_fn g; refine hcall.mono ?_; rintro e w' ⟨rfl, hb'⟩)
        go_roundw
        case rel => exact ⟨k + 1, by omega, by go_num, hb.trans (hb'.mono hb.size), fun j y hj hy => by
          by_cases e : j = k
          · subst e; have := HX.out; rw [hy] at this; cases this; exact HQ.out
          · exact hz.out j y (by omega) hy⟩
        case measure => simp [intOf]; omega
      · rw [hq] at hcall
        have HQ := Lib.hid hq
        clear hq
        go_wp2_with (go_at_fn g; refine hcall.mono ?_; rintro e w' ⟨rfl, hb'⟩)
        go_ret
        refine ⟨?_, hb.trans (hb'.mono hb.size)⟩
        rw [idxI, idxFrom_hit p xs 0 k x HX.out HQ.out hz.out, Nat.zero_add]; rfl
    · obtain rfl : k = xs.length := by omega
      go_wp2
      go_ret
      refine ⟨?_, hb⟩
      rw [idxI, idxFrom_miss p xs 0]
      · rfl
      · intro x hx
        obtain ⟨j, hj, e⟩ := List.getElem_of_mem hx
        exact hz.out j x hj (by rw [List.getElem?_eq_getElem hj, e])
set_option maxHeartbeats 1000000 in
theorem indexFuncT (p : Tp → Bool) (g : Nat) (lb : Array Value) (eg : ∀ args w, (callFunc g args).run Tryz.prog w = .ok (.enter g args) w) (xs : List Tp) (v : Value) (w : World)
    (hs : SlAt encT 6 w v xs) (hp : PredB g lb (fun x => .agg (encT x).toArray) p xs w) :
    Calls Tryz.prog 156 #[v, .func (.func g) #[] lb] w fun e w' => e = .returned (.int .i64 (idxI p xs)) ∧ Below w.heap.size w w' := by
  obtain ⟨A, c, rfl, hc, hm, hr⟩ := hs
  have hlen : xs.length ≤ 9223372036854775807 := by omega
  go_enter Tryz.func156, Tryz.ntmps156
  go_wp2
  go_loopw [8] (fun i wr => ∃ k : Nat, k ≤ xs.length ∧ i = .int .i64 k ∧ Below w.heap.size w wr ∧ Hid (∀ j y, j < k → xs[j]? = some y → p y = false)) (fun i _ => xs.length - (intOf i).toNat)
  case atStart => exact ⟨0, Nat.zero_le _, rfl, Below.refl _ _, fun j y hj => absurd hj (Nat.not_lt_zero _)⟩
  case round =>
    obtain ⟨k, hk, rfl, hb, hz⟩ := hrel
    by_cases hlt : k < xs.length
    · obtain ⟨b, off, rfl, hbl, hcell⟩ := hr (by omega)
      have hx : xs[k]? = some xs[k] := List.getElem?_eq_getElem hlt
      have hcall := hp wr xs[k] (List.getElem_mem hlt) hb
      generalize xs[k] = x at hx hcall
      have c0 := ext_cell hb (hcell k x hx 0 _ rfl); have c1 := ext_cell hb (hcell k x hx 1 _ rfl); have c2 := ext_cell hb (hcell k x hx 2 _ rfl); have c3 := ext_cell hb (hcell k x hx 3 _ rfl); have c4 := ext_cell hb (hcell k x hx 4 _ rfl); have c5 := ext_cell hb (hcell k x hx 5 _ rfl); rw [Nat.add_zero] at c0; unfold Rl.pv at c2
      have HX := Lib.hid hx
      clear hcell hr hp hx
      unfold encT Rl.pv at hcall
      cases hq : p x
      · rw [hq] at hcall
        have HQ := Lib.hid hq
        clear hq
        go_wp2_with (go_at_fn g; refine hcall.mono ?_; rintro e w' ⟨rfl, hb'⟩)
        go_roundw
        case rel => exact ⟨k + 1, by omega, by go_num, hb.trans (hb'.mono hb.size), fun j y hj hy => by
          by_cases e : j = k
          · subst e; have := HX.out; rw [hy] at this; cases this; exact HQ.out
          · exact hz.out j y (by omega) hy⟩
        case measure => simp [intOf]; omega
      · rw [hq] at hcall
        have HQ := Lib.hid hq
        clear hq
        go_wp2_with (go_at_fn g; refine hcall.mono ?_; rintro e w' ⟨rfl, hb'⟩)
        go_ret
        refine ⟨?_, hb.trans (hb'.mono hb.size)⟩
        rw [idxI, idxFrom_hit p xs 0 k x HX.out HQ.out hz.out, Nat.zero_add]; rfl
    · obtain rfl : k = xs.length := by omega
      go_wp2
      go_ret
      refine ⟨?_, hb⟩
      rw [idxI, idxFrom_miss p xs 0]
      · rfl
      · intro x hx
        obtain ⟨j, hj, e⟩ := List.getElem_of_mem hx
        exact hz.out j x hj (by rw [List.getElem?_eq_getElem hj, e])
set_option maxHeartbeats 1000000 in
theorem indexFuncSS (p : ByteArray → Bool) (g : Nat) (lb : Array Value) (eg : ∀ args w, (callFunc g args).run Tryz.prog w = .ok (.enter g args) w) (xs : List ByteArray) (v : Value) (w : World)
    (hs : SlAt encS 1 w v xs) (hp : PredB g lb Value.string p xs w) :
    Calls Tryz.prog 152 #[v, .func (.func g) #[] lb] w fun e w' => e = .returned (.int .i64 (idxI p xs)) ∧ Below w.heap.size w w' := by
  obtain ⟨A, c, rfl, hc, hm, hr⟩ := hs
  have hlen : xs.length ≤ 9223372036854775807 := by omega
  go_enter Tryz.func152, Tryz.ntmps152
  go_wp2
  go_loopw [8] (fun i wr => ∃ k : Nat, k ≤ xs.length ∧ i = .int .i64 k ∧ Below w.heap.size w wr ∧ Hid (∀ j y, j < k → xs[j]? = some y → p y = false)) (fun i _ => xs.length - (intOf i).toNat)
  case atStart => exact ⟨0, Nat.zero_le _, rfl, Below.refl _ _, fun j y hj => absurd hj (Nat.not_lt_zero _)⟩
  case round =>
    obtain ⟨k, hk, rfl, hb, hz⟩ := hrel
    by_cases hlt : k < xs.length
    · obtain ⟨b, off, rfl, hbl, hcell⟩ := hr (by omega)
      have hx : xs[k]? = some xs[k] := List.getElem?_eq_getElem hlt
      have hcall := hp wr xs[k] (List.getElem_mem hlt) hb
      generalize xs[k] = x at hx hcall
      have c0 := ext_cell hb (hcell k x hx 0 _ rfl); rw [Nat.add_zero, Nat.mul_one] at c0
      have HX := Lib.hid hx
      clear hcell hr hp hx
      skip
      cases hq : p x
      · rw [hq] at hcall
        have HQ := Lib.hid hq
        clear hq
        go_wp2_with (go_at_fn g; refine hcall.mono ?_; rintro e w' ⟨rfl, hb'⟩)
        go_roundw
        case rel => exact ⟨k + 1, by omega, by go_num, hb.trans (hb'.mono hb.size), fun j y hj hy => by
          by_cases e : j = k
          · subst e; have := HX.out; rw [hy] at this; cases this; exact HQ.out
          · exact hz.out j y (by omega) hy⟩
        case measure => simp [intOf]; omega
      · rw [hq] at hcall
        have HQ := Lib.hid hq
        clear hq
        go_wp2_with (go_at_fn g; refine hcall.mono ?_; rintro e w' ⟨rfl, hb'⟩)
        go_ret
        refine ⟨?_, hb.trans (hb'.mono hb.size)⟩
        rw [idxI, idxFrom_hit p xs 0 k x HX.out HQ.out hz.out, Nat.zero_add]; rfl
    · obtain rfl : k = xs.length := by omega
      go_wp2
      go_ret
      refine ⟨?_, hb⟩
      rw [idxI, idxFrom_miss p xs 0]
      · rfl
      · intro x hx
        obtain ⟨j, hj, e⟩ := List.getElem_of_mem hx
        exact hz.out j x hj (by rw [List.getElem?_eq_getElem hj, e])
theorem containsFuncR (p : Rl → Bool) (g : Nat) (lb : Array Value) (eg : ∀ args w, (callFunc g args).run Tryz.prog w = .ok (.enter g args) w) (xs : List Rl) (v : Value) (w : World)
    (hs : SlAt encR 3 w v xs) (hp : PredB g lb (fun x => .agg (encR x).toArray) p xs w) :
    Calls Tryz.prog 115 #[v, .func (.func g) #[] lb] w fun e w' => e = .returned (.bool (xs.any p)) ∧ Below w.heap.size w w' := by
  have hi := idxFrom_any p xs 0
  have hcall := indexFuncR p g lb eg xs v w hs hp
  obtain ⟨A, n, c, rfl⟩ := hs.isSlice
  clear hs hp
  have H := Lib.hid hi
  clear hi
  go_enter Tryz.func115, Tryz.ntmps115
  go_wp2_with (go_at_call 155; refine hcall.mono ?_; rintro e w1 ⟨rfl, hb1⟩)
  go_ret
  refine ⟨?_, hb1⟩
  rw [← H.out]
  rfl
theorem containsFuncT (p : Tp → Bool) (g : Nat) (lb : Array Value) (eg : ∀ args w, (callFunc g args).run Tryz.prog w = .ok (.enter g args) w) (xs : List Tp) (v : Value) (w : World)
    (hs : SlAt encT 6 w v xs) (hp : PredB g lb (fun x => .agg (encT x).toArray) p xs w) :
    Calls Tryz.prog 117 #[v, .func (.func g) #[] lb] w fun e w' => e = .returned (.bool (xs.any p)) ∧ Below w.heap.size w w' := by
  have hi := idxFrom_any p xs 0
  have hcall := indexFuncT p g lb eg xs v w hs hp
  obtain ⟨A, n, c, rfl⟩ := hs.isSlice
  clear hs hp
  have H := Lib.hid hi
  clear hi
  go_enter Tryz.func117, Tryz.ntmps117
  go_wp2_with (go_at_call 156; refine hcall.mono ?_; rintro e w1 ⟨rfl, hb1⟩)
  go_ret
  refine ⟨?_, hb1⟩
  rw [← H.out]
  rfl
theorem containsFuncSS (p : ByteArray → Bool) (g : Nat) (lb : Array Value) (eg : ∀ args w, (callFunc g args).run Tryz.prog w = .ok (.enter g args) w) (xs : List ByteArray) (v : Value) (w : World)
    (hs : SlAt encS 1 w v xs) (hp : PredB g lb Value.string p xs w) :
    Calls Tryz.prog 158 #[v, .func (.func g) #[] lb] w fun e w' => e = .returned (.bool (xs.any p)) ∧ Below w.heap.size w w' := by
  have hi := idxFrom_any p xs 0
  have hcall := indexFuncSS p g lb eg xs v w hs hp
  obtain ⟨A, n, c, rfl⟩ := hs.isSlice
  clear hs hp
  have H := Lib.hid hi
  clear hi
  go_enter Tryz.func158, Tryz.ntmps158
  go_wp2_with (go_at_call 152; refine hcall.mono ?_; rintro e w1 ⟨rfl, hb1⟩)
  go_ret
  refine ⟨?_, hb1⟩
  rw [← H.out]
  rfl
end Go.Proofs.YtlogjgmfkjjhjaaGreatDoor
namespace Go.Proofs.YtlogjgmfkjjhjaaGreatDoor
open Go.RowKit

theorem isSel11_any (r : Rl) (s : ByteArray) (a : Addr) (w : World) (hc : w.cell? a = some (.string s)) :
    Calls Tryz.prog 154 #[.agg (encR r).toArray, .pointer (some a)] w fun e w' => e = .returned (.bool (decide (r.node = s))) ∧ Below w.heap.size w w' := by
  have hb := World.block_lt_of_cell? w a hc
  unfold encR Rl.pv
  go_enter Tryz.func154, Tryz.ntmps154
  go_wp2
  go_ret
  exact ⟨by simp [beq_str], by (repeat (first | exact Below.refl _ _ | assumption | refine Below.drew ?_ | refine Below.alloc ?_ (by simp <;> omega) _ | refine Below.alloc ?_ (by simp) _ | refine Below.setCell ?_ (by simp) _))⟩
theorem isSel1_any (lb : Nat) (v : Value) (rels : List Rl) (s : ByteArray) (w : World) (hc : w.cell? ⟨lb, 1, none⟩ = some v) (hs : SlAt encR 3 w v rels) :
    Calls Tryz.prog 153 #[.string s, .pointer (some ⟨lb, 0, none⟩)] w fun e w' => e = .returned (.bool (rels.any fun r => decide (r.node = s))) ∧ Below w.heap.size w w' := by
  have hcall := containsFuncR (fun r => decide (r.node = s)) 154 #[.pointer (some ⟨w.heap.size, 0, none⟩)] (enters_of Tryz.func154 (by kernel_rfl) rfl) rels v (w.alloc (.cells #[.string s] 9)) (hs.alloc _)
    (fun W x _ hb => isSel11_any x s _ W (ext_cell hb (by simp)))
  obtain ⟨A, n, c, rfl⟩ := hs.isSlice
  clear hs
  have hc' := ext_cell (ext_alloc w (.cells #[.string s] 9)) hc
  go_enter Tryz.func153, Tryz.ntmps153
  go_wp2_with (go_at_call 115; refine hcall.mono ?_; rintro e w' ⟨rfl, hb'⟩)
  go_ret
  exact ⟨rfl, ext_trans (ext_alloc _ _) hb'⟩

/-- how far the nearest relay of a way is, or -1 -/
def nearS (g : Gr) (s : ByteArray) : Int := idxI (fun t => g.rels.any fun r => decide (r.node = t)) (namesN g.nodes s)
def selB (l : List Tp) (near m : Int) : Bool := match l with
  | [] => false
  | [a] => decide (a.far = near)
  | a :: b :: _ => decide (a.far = near) && decide (m ≤ b.time - a.time)
def selN (g : Gr) (s : ByteArray) (m : Int) : Bool := selB (tripsN g s) (nearS g s) m

set_option maxHeartbeats 4000000 in
theorem isSelective_any (g : Gr) (s : ByteArray) (m : Int) (w : World) (hg : GrAt w g) (hgd : Good g.nodes) (h12 : g.rels.length ≤ 12) (hst0 : 0 ≤ g.st) (hst1 : g.st ≤ 1000000000000) (hT : ∀ t ∈ tripsN g s, 0 ≤ t.time ∧ t.time ≤ 100000) :
    Calls Tryz.prog 112 #[.agg (encGr g).toArray, .string s, .int .i64 m] w fun e w' => e = .returned (.bool (selN g s m)) ∧ Below w.heap.size w w' := by
  have hnm := fun W hW => names_any g.nv g.nodes s hgd.acyc hgd.len W (hg.ext hW).nodes
  have htr := fun W hW => trips_any g s W (hg.ext hW) hgd h12 hst0 hst1
  have hV : selN g s m = selB (tripsN g s) (nearS g s) m := rfl
  have hN : nearS g s = idxI (fun t => g.rels.any fun r => decide (r.node = t)) (namesN g.nodes s) := rfl
  have hrl := hg.rels
  have hif := fun (W : World) (v : Value) (hc : W.cell? ⟨w.heap.size, 1, none⟩ = some g.rv) (hW : Below w.heap.size w W) (hv : SlAt encS 1 W v (namesN g.nodes s)) =>
    indexFuncSS (fun t => g.rels.any fun r => decide (r.node = t)) 153 #[.pointer (some ⟨w.heap.size, 0, none⟩)] (enters_of Tryz.func153 (by kernel_rfl) rfl) (namesN g.nodes s) v W hv
      (fun W' x _ hb => isSel1_any w.heap.size g.rv g.rels x W' (ext_cell hb hc) (hrl.ext (ext_trans hW hb)))
  rw [← hN] at hif
  rw [hV]
  clear hV hN hrl
  generalize nearS g s = nr at hif ⊢
  generalize tripsN g s = ts at htr hT ⊢
  unfold encGr at htr ⊢
  obtain ⟨nv, nodes, rv, rels, st⟩ := g
  simp only at hnm htr hif h12 ⊢
  obtain ⟨A, n, c, rfl⟩ := hg.nodes.isSlice
  obtain ⟨A', n', c', rfl⟩ := hg.rels.isSlice
  clear hg hgd
  generalize namesN nodes s = way at hnm hif
  have hbW : Below w.heap.size w (w.alloc (.cells #[.slice A n c, .slice A' n' c', .int .i64 st] 67)) := ext_alloc _ _
  have x0 := BoxC.new w 67 #[.slice A n c, .slice A' n' c', .int .i64 st]
  have p0 := x0.cell 0 _ rfl
  have p1 := x0.cell 1 _ rfl
  have p2 := x0.cell 2 _ rfl
  go_enter Tryz.func112, Tryz.ntmps112
  rcases ts with _ | ⟨t0, _ | ⟨t1, tr⟩⟩
  · unfold selB
    go_wp2_with (first
      | (go_at_call 71; refine (hnm _ hbW).mono ?_; rintro e w1 ⟨v1, rfl, ho1, hb1, hn1⟩; have q0 := ext_cell hb1 p0; have q1 := ext_cell hb1 p1; have q2 := ext_cell hb1 p2; have hb2 := ext_trans hbW hb1; have hws := ho1.slat encS_len; obtain ⟨A1, c1, rfl⟩ := ho1.slice)
      | (go_at_call 152; refine (hif _ _ q1 hb2 hws).mono ?_; rintro e w3 ⟨rfl, hb3⟩; have q3 := ext_cell hb3 q0; have q4 := ext_cell hb3 q1; have q5 := ext_cell hb3 q2; have hb4 := ext_trans hb2 hb3)
      | (go_at_call 93; refine (htr _ hb4).mono ?_; rintro e w5 ⟨v5, rfl, ⟨A5, c5, rfl, hc5, hc6, hr5⟩, hb5⟩; have hb6 := ext_trans hb4 hb5))
    go_ret
    exact ⟨rfl, hb6⟩
  · have hB : selB [t0] nr m = decide (t0.far = nr) := rfl
    rw [hB]
    clear hB
    cases hq : (t0.far != nr)
    · obtain rfl : t0.far = nr := by simpa using hq
      rw [decide_eq_true rfl]
      go_wp2_with (first
        | (go_at_call 71; refine (hnm _ hbW).mono ?_; rintro e w1 ⟨v1, rfl, ho1, hb1, hn1⟩; have q0 := ext_cell hb1 p0; have q1 := ext_cell hb1 p1; have q2 := ext_cell hb1 p2; have hb2 := ext_trans hbW hb1; have hws := ho1.slat encS_len; obtain ⟨A1, c1, rfl⟩ := ho1.slice)
        | (go_at_call 152; refine (hif _ _ q1 hb2 hws).mono ?_; rintro e w3 ⟨rfl, hb3⟩; have q3 := ext_cell hb3 q0; have q4 := ext_cell hb3 q1; have q5 := ext_cell hb3 q2; have hb4 := ext_trans hb2 hb3)
        | (go_at_call 93; refine (htr _ hb4).mono ?_; rintro e w5 ⟨v5, rfl, ⟨A5, c5, rfl, hc5, hc6, hr5⟩, hb5⟩; have hb6 := ext_trans hb4 hb5; obtain ⟨b5, o5, rfl, hb5l, hcell5⟩ := hr5 (by simp); have f4 : w5.cell? ⟨b5, o5 + 4, none⟩ = some (.int .i64 t0.time) := hcell5 0 t0 rfl 4 _ rfl; have f5 : w5.cell? ⟨b5, o5 + 5, none⟩ = some (.int .i64 t0.far) := hcell5 0 t0 rfl 5 _ rfl; clear hr5 hcell5))
      refine wp_region_plan (fun w' => w'.cell? ⟨b5, o5 + 4, none⟩ = some (.int .i64 t0.time) ∧ Below w.heap.size w w') [] [0, 1, 2, 3, 4, 5, 6, 7, 8, 9, 10, 11, 12, 13, 14, 15, 16, 17, 18] (by kernel_rfl) (by kernel_rfl) (by ((first | assumption | exact keep1 (by assumption) (by assumption) | exact keep1 (by assumption) (ext_alloc _ _) | exact keep1 (by assumption) (ext_drew _) | exact keep1 ⟨by assumption, by assumption⟩ (ext_drew _) | go_keep))) (fun hSw => ?_)
      repeat (first
        | (refine wpPlan_pas rfl rfl (fun K hK => ?_)
           apply Exists.intro
           refine ⟨?_, ?_⟩
           · first | exact pasOk_no rfl | (apply pasOk_yes rfl; intro wS hS; obtain ⟨s0, s1⟩ := hS; go_simp; first | done | exact rfl | ((try simp only [↓IntWalk.iteOmega]); (try go_bits); (try go_simp); first | done | exact rfl))
           go_simp
           refine hK _ ?_
           clear hK K)
        | (refine wpPlan_no rfl rfl rfl (by assumption) (fun K hK => ?_)
           go_simp
           refine hK _ ?_
           clear hK K)
        | (refine wpPlan_act rfl rfl rfl (fun K hK => ?_)
           go_wp2
           refine OnlyK.go (hK _ _ (by ((first | assumption | exact keep1 (by assumption) (by assumption) | exact keep1 (by assumption) (ext_alloc _ _) | exact keep1 (by assumption) (ext_drew _) | exact keep1 ⟨by assumption, by assumption⟩ (ext_drew _) | go_keep))) (fun hSw => ?_))
           clear hK K))
      refine wpPlan_nil ?_
      clear hSw
      go_wp2
      go_ret
      exact ⟨rfl, hb6.drew⟩
    · rw [decide_eq_false (by simpa using hq)]
      go_wp2_with (first
        | (go_at_call 71; refine (hnm _ hbW).mono ?_; rintro e w1 ⟨v1, rfl, ho1, hb1, hn1⟩; have q0 := ext_cell hb1 p0; have q1 := ext_cell hb1 p1; have q2 := ext_cell hb1 p2; have hb2 := ext_trans hbW hb1; have hws := ho1.slat encS_len; obtain ⟨A1, c1, rfl⟩ := ho1.slice)
        | (go_at_call 152; refine (hif _ _ q1 hb2 hws).mono ?_; rintro e w3 ⟨rfl, hb3⟩; have q3 := ext_cell hb3 q0; have q4 := ext_cell hb3 q1; have q5 := ext_cell hb3 q2; have hb4 := ext_trans hb2 hb3)
        | (go_at_call 93; refine (htr _ hb4).mono ?_; rintro e w5 ⟨v5, rfl, ⟨A5, c5, rfl, hc5, hc6, hr5⟩, hb5⟩; have hb6 := ext_trans hb4 hb5; obtain ⟨b5, o5, rfl, hb5l, hcell5⟩ := hr5 (by simp); have f4 : w5.cell? ⟨b5, o5 + 4, none⟩ = some (.int .i64 t0.time) := hcell5 0 t0 rfl 4 _ rfl; have f5 : w5.cell? ⟨b5, o5 + 5, none⟩ = some (.int .i64 t0.far) := hcell5 0 t0 rfl 5 _ rfl; clear hr5 hcell5))
      go_ret
      exact ⟨rfl, hb6⟩
  · have hB : selB (t0 :: t1 :: tr) nr m = (decide (t0.far = nr) && decide (m ≤ t1.time - t0.time)) := rfl
    rw [hB]
    clear hB
    obtain ⟨a0, a1⟩ := hT t0 (by simp)
    obtain ⟨a2, a3⟩ := hT t1 (by simp)
    clear hT
    have hwr : IntKind.i64.wrap (t1.time - t0.time) = t1.time - t0.time := IntWalk.i64_in _ (by omega)
    cases hq : (t0.far != nr)
    · obtain rfl : t0.far = nr := by simpa using hq
      rw [decide_eq_true rfl, Bool.true_and]
      go_wp2_with (first
        | (go_at_call 71; refine (hnm _ hbW).mono ?_; rintro e w1 ⟨v1, rfl, ho1, hb1, hn1⟩; have q0 := ext_cell hb1 p0; have q1 := ext_cell hb1 p1; have q2 := ext_cell hb1 p2; have hb2 := ext_trans hbW hb1; have hws := ho1.slat encS_len; obtain ⟨A1, c1, rfl⟩ := ho1.slice)
        | (go_at_call 152; refine (hif _ _ q1 hb2 hws).mono ?_; rintro e w3 ⟨rfl, hb3⟩; have q3 := ext_cell hb3 q0; have q4 := ext_cell hb3 q1; have q5 := ext_cell hb3 q2; have hb4 := ext_trans hb2 hb3)
        | (go_at_call 93; refine (htr _ hb4).mono ?_; rintro e w5 ⟨v5, rfl, ⟨A5, c5, rfl, hc5, hc6, hr5⟩, hb5⟩; have hb6 := ext_trans hb4 hb5; obtain ⟨b5, o5, rfl, hb5l, hcell5⟩ := hr5 (by simp); have f4 : w5.cell? ⟨b5, o5 + 4, none⟩ = some (.int .i64 t0.time) := hcell5 0 t0 rfl 4 _ rfl; have f5 : w5.cell? ⟨b5, o5 + 5, none⟩ = some (.int .i64 t0.far) := hcell5 0 t0 rfl 5 _ rfl; have f10 : w5.cell? ⟨b5, o5 + 6 + 4, none⟩ = some (.int .i64 t1.time) := hcell5 1 t1 rfl 4 _ rfl; clear hr5 hcell5; (have hn5 : 2 ≤ (t0 :: t1 :: tr).length := by simp); (generalize (t0 :: t1 :: tr).length = n5 at hc5 hn5 ⊢); (have hn0 : ((n5 : Int) == 0) = false := beq_eq_false_iff_ne.2 (by omega)); (have hn1 : ((n5 : Int) == 1) = false := beq_eq_false_iff_ne.2 (by omega))))
      refine wp_region_plan (fun w' => w'.cell? ⟨b5, o5 + 4, none⟩ = some (.int .i64 t0.time) ∧ w'.cell? ⟨b5, o5 + 6 + 4, none⟩ = some (.int .i64 t1.time) ∧ Below w.heap.size w w') [] [0, 1, 2, 3, 4, 5, 6, 7, 8, 9, 10, 11, 12, 13, 14, 15, 16, 17, 18] (by kernel_rfl) (by kernel_rfl) (by ((first | assumption | exact keep2 (by assumption) (by assumption) | exact keep2 (by assumption) (ext_alloc _ _) | exact keep2 (by assumption) (ext_drew _) | exact keep2 ⟨by assumption, by assumption, by assumption⟩ (ext_drew _) | go_keep))) (fun hSw => ?_)
      repeat (first
        | (refine wpPlan_pas rfl rfl (fun K hK => ?_)
           apply Exists.intro
           refine ⟨?_, ?_⟩
           · first | exact pasOk_no rfl | (apply pasOk_yes rfl; intro wS hS; obtain ⟨s0, s1, s2⟩ := hS; go_simp; first | done | exact rfl | ((try simp only [↓IntWalk.iteOmega]); (try go_bits); (try go_simp); first | done | exact rfl))
           go_simp
           refine hK _ ?_
           clear hK K)
        | (refine wpPlan_no rfl rfl rfl (by assumption) (fun K hK => ?_)
           go_simp
           refine hK _ ?_
           clear hK K)
        | (refine wpPlan_act rfl rfl rfl (fun K hK => ?_)
           go_wp2
           refine OnlyK.go (hK _ _ (by ((first | assumption | exact keep2 (by assumption) (by assumption) | exact keep2 (by assumption) (ext_alloc _ _) | exact keep2 (by assumption) (ext_drew _) | exact keep2 ⟨by assumption, by assumption, by assumption⟩ (ext_drew _) | go_keep))) (fun hSw => ?_))
           clear hK K))
      refine wpPlan_nil ?_
      clear hSw
      go_wp2
      go_ret
      exact ⟨by simp, hb6.drew⟩
    · rw [decide_eq_false (by simpa using hq), Bool.false_and]
      go_wp2_with (first
        | (go_at_call 71; refine (hnm _ hbW).mono ?_; rintro e w1 ⟨v1, rfl, ho1, hb1, hn1⟩; have q0 := ext_cell hb1 p0; have q1 := ext_cell hb1 p1; have q2 := ext_cell hb1 p2; have hb2 := ext_trans hbW hb1; have hws := ho1.slat encS_len; obtain ⟨A1, c1, rfl⟩ := ho1.slice)
        | (go_at_call 152; refine (hif _ _ q1 hb2 hws).mono ?_; rintro e w3 ⟨rfl, hb3⟩; have q3 := ext_cell hb3 q0; have q4 := ext_cell hb3 q1; have q5 := ext_cell hb3 q2; have hb4 := ext_trans hb2 hb3)
        | (go_at_call 93; refine (htr _ hb4).mono ?_; rintro e w5 ⟨v5, rfl, ⟨A5, c5, rfl, hc5, hc6, hr5⟩, hb5⟩; have hb6 := ext_trans hb4 hb5; obtain ⟨b5, o5, rfl, hb5l, hcell5⟩ := hr5 (by simp); have f4 : w5.cell? ⟨b5, o5 + 4, none⟩ = some (.int .i64 t0.time) := hcell5 0 t0 rfl 4 _ rfl; have f5 : w5.cell? ⟨b5, o5 + 5, none⟩ = some (.int .i64 t0.far) := hcell5 0 t0 rfl 5 _ rfl; have f10 : w5.cell? ⟨b5, o5 + 6 + 4, none⟩ = some (.int .i64 t1.time) := hcell5 1 t1 rfl 4 _ rfl; clear hr5 hcell5; (have hn5 : 2 ≤ (t0 :: t1 :: tr).length := by simp); (generalize (t0 :: t1 :: tr).length = n5 at hc5 hn5 ⊢); (have hn0 : ((n5 : Int) == 0) = false := beq_eq_false_iff_ne.2 (by omega)); (have hn1 : ((n5 : Int) == 1) = false := beq_eq_false_iff_ne.2 (by omega))))
      go_ret
      exact ⟨rfl, hb6⟩
end Go.Proofs.YtlogjgmfkjjhjaaGreatDoor
