/-
  Grid.trips.
  feeder.Trips.
-/
import Derived.Test.YtlogjgmfkjjhjaaGreatDoorX14
set_option linter.unusedSimpArgs false
set_option linter.unusedVariables false
namespace Go.Proofs.YtlogjgmfkjjhjaaGreatDoor
open Go.RowKit

theorem sortT_nil : sortT [] = [] := List.eq_nil_of_length_eq_zero (by unfold sortT; rw [Array.length_toList, sorted_size]; rfl)
/-- what a relay adds -/
def tripStep (way : List ByteArray) (n : Int) (r : Rl) : List Tp := if (timeV n r.pts).2 && decide (0 ≤ idxI (fun x => decide (r.node = x)) way) then [⟨r, (timeV n r.pts).1, idxI (fun x => decide (r.node = x)) way⟩] else []
def rawTrips (way : List ByteArray) (n : Int) (rs : List Rl) : List Tp := rs.flatMap (tripStep way n)
theorem rawTrips_take (way : List ByteArray) (n : Int) (rs : List Rl) (k : Nat) (h : k < rs.length) : rawTrips way n (rs.take (k + 1)) = rawTrips way n (rs.take k) ++ tripStep way n rs[k] := by
  rw [List.take_succ_eq_append_getElem h, rawTrips, List.flatMap_append]; simp [rawTrips]
theorem rawTrips_len (way : List ByteArray) (n : Int) : ∀ (rs : List Rl), (rawTrips way n rs).length ≤ rs.length
  | [] => by simp [rawTrips]
  | r :: rs => by
    have := rawTrips_len way n rs
    have h1 : (tripStep way n r).length ≤ 1 := by unfold tripStep; split <;> simp
    unfold rawTrips at this ⊢
    rw [List.flatMap_cons, List.length_append, List.length_cons]
    omega
def tripsN (g : Gr) (s : ByteArray) : List Tp := sortT (rawTrips (namesN g.nodes s) (levelN g.nodes g.st s) g.rels)
theorem infoT : (Tryz.prog.info? 154).map (fun i => (i.zero, i.size, i.bytes)) = some (some (.agg #[.string ByteArray.empty, .string ByteArray.empty, .slice none 0 0, .string ByteArray.empty, .int .i64 0, .int .i64 0]), 6, 88) := by kernel_rfl

set_option maxHeartbeats 8000000 in
theorem trips_any (g : Gr) (s : ByteArray) (w : World) (hg : GrAt w g) (hgd : Good g.nodes) (h12 : g.rels.length ≤ 12) (hst0 : 0 ≤ g.st) (hst1 : g.st ≤ 1000000000000) :
    Calls Tryz.prog 93 #[.agg (encGr g).toArray, .string s] w fun e w' => ∃ v, e = .returned v ∧ SlAt encT 6 w' v (tripsN g s) ∧ Below w.heap.size w w' := by
  have hnm := fun W hW => names_any g.nv g.nodes s hgd.acyc hgd.len W (hg.ext hW).nodes
  have hlv := fun W hW => level_any g.nv g.nodes g.st s hgd.acyc hgd.len1 (fun x hx => ⟨(hgd.mem hx).re0, (hgd.mem hx).re1, (hgd.mem hx).im0, (hgd.mem hx).im1⟩) hst0 hst1 W (hg.ext hW).nodes
  have hV : tripsN g s = sortT (rawTrips (namesN g.nodes s) (levelN g.nodes g.st s) g.rels) := rfl
  have hra := hg.at_
  have hrl := hg.rels
  obtain ⟨nv, nodes, rv, rels, st⟩ := g
  simp only at hnm hlv hV hra hrl h12 ⊢
  unfold encGr
  simp only
  obtain ⟨A, n, c, rfl⟩ := hg.nodes.isSlice
  obtain ⟨A', c', rfl, hc1', hc2', hr'⟩ := hrl
  have HV := Lib.hid hV
  clear hV hg hgd
  generalize namesN nodes s = way at hnm HV
  generalize levelN nodes st s = lv at hlv HV
  have hb0 : Below w.heap.size w (w.alloc (.cells #[.slice A n c, .slice A' rels.length c', .int .i64 st] 67)) := ext_alloc _ _
  have x0 := BoxC.new w 67 #[.slice A n c, .slice A' rels.length c', .int .i64 st]
  have p0 := x0.cell 0 _ rfl
  have p1 := x0.cell 1 _ rfl
  have p2 := x0.cell 2 _ rfl
  go_enter Tryz.func93, Tryz.ntmps93
  go_wp2_with (first
    | (go_at_call 71; refine (hnm _ hb0).mono ?_; rintro e w1 ⟨v1, rfl, ho1, hb1, hn1⟩; have q0 := ext_cell hb1 p0; have q1 := ext_cell hb1 p1; have q2 := ext_cell hb1 p2; have hb2 := ext_trans hb0 hb1; have hws := ho1.slat encS_len; obtain ⟨A1, c1, rfl⟩ := ho1.slice)
    | (go_at_call 90; refine (hlv _ hb2).mono ?_; rintro e w2 ⟨rfl, hb3⟩; have r0 := ext_cell hb3 q0; have r1 := ext_cell hb3 q1; have r2 := ext_cell hb3 q2; have hb4 := ext_trans hb2 hb3; have hws2 := hws.ext hb3))
  clear hnm hlv x0 p0 p1 p2 q0 q1 q2 ho1 hws
  go_loopw [27, 7] (fun i o wr => ∃ k : Nat, k ≤ rels.length ∧ i = .int .i64 k ∧ Below w2.heap.size w2 wr ∧ Own encT 6 w2.heap.size 154 wr o (rawTrips way lv (rels.take k)) ∧ Hid (rawTrips way lv (rels.take k) = [] → o = .slice none 0 0)) (fun i _ _ => rels.length - (intOf i).toNat)
  case atStart => exact ⟨0, Nat.zero_le _, rfl, Below.refl _ _, Own.nil _, fun _ => rfl⟩
  case round =>
    obtain ⟨k, hk, rfl, hb, ho, hnil⟩ := hrel
    by_cases hlt : k < rels.length
    · obtain ⟨b, off, rfl, hbl, hcell⟩ := hr' (by omega)
      have hx : rels[k]? = some rels[k] := List.getElem?_eq_getElem hlt
      have hts := rawTrips_take way lv rels k hlt
      have hpl := rawTrips_len way lv (rels.take k)
      have hbw := ext_trans hb4 hb
      have hpt := hra.pts _ (List.getElem_mem hlt)
      have htm := fun W hW => time_any rels[k] lv W (hpt.ext hW)
      have hix := fun W (hW : Below w2.heap.size w2 W) => indexS_any way _ rels[k].node W (hws2.ext hW)
      have c0 := ext_cell hbw (hcell k _ hx 0 _ rfl)
      have c1' := ext_cell hbw (hcell k _ hx 1 _ rfl)
      have c2 := ext_cell hbw (hcell k _ hx 2 _ rfl)
      rw [Nat.add_zero] at c0
      unfold tripStep at hts
      generalize rels[k] = r at hx hts htm hix c0 c1' c2
      unfold encR Rl.pv at htm
      unfold Rl.pv at c2
      generalize timeV lv r.pts = tv at hts htm
      generalize idxI (fun x => decide (r.node = x)) way = fi at hts hix
      have hkl : (rels.take k).length ≤ k := by simp; omega
      have HTS := Lib.hid hts
      have HPL := Lib.hid hpl
      have HKL := Lib.hid hkl
      clear hcell hr' hx hts hpl hkl hpt
      generalize rawTrips way lv (rels.take k) = ys at ho hnil HTS HPL
      have hsz := hb.size
      have hbB := hb.alloc hsz (.cells #[.string r.name, .string r.node, .slice r.pa r.pts.length r.pc] 152)
      have hbC := hbw.alloc hbw.size (.cells #[.string r.name, .string r.node, .slice r.pa r.pts.length r.pc] 152)
      have xR := BoxC.new wr 152 #[.string r.name, .string r.node, .slice r.pa r.pts.length r.pc]
      have y0 := xR.cell 0 _ rfl
      have y1 := xR.cell 1 _ rfl
      have y2 := xR.cell 2 _ rfl
      have hoB := ho.alloc (.cells #[.string r.name, .string r.node, .slice r.pa r.pts.length r.pc] 152)
      obtain ⟨tt, sees⟩ := tv
      cases sees
      · have hq : rawTrips way lv (rels.take (k + 1)) = ys := by rw [HTS.out]; simp
        have HQ := Lib.hid hq
        clear hq
        go_wp2_with (first
          | (go_at_call 147; refine (hix _ hbB).mono ?_; rintro e w3 ⟨rfl, rfl⟩)
          | (go_at_call 148; refine (htm _ hbC).mono ?_; rintro e w3 ⟨rfl, hb3'⟩))
        go_roundw
        case rel => exact ⟨k + 1, by omega, by go_num, ext_trans hbB hb3', by rw [HQ.out]; exact hoB.ext hb3', fun h => hnil.out (by rw [HQ.out] at h; exact h)⟩
        case measure => simp [intOf]; omega
      · cases hqf : decide (0 ≤ fi)
        · have hq : rawTrips way lv (rels.take (k + 1)) = ys := by rw [HTS.out, hqf]; simp
          have HQ := Lib.hid hq
          clear hq
          go_wp2_with (first
          | (go_at_call 147; refine (hix _ hbB).mono ?_; rintro e w3 ⟨rfl, rfl⟩)
          | (go_at_call 148; refine (htm _ hbC).mono ?_; rintro e w3 ⟨rfl, hb3'⟩; have hbD := ext_trans hbB hb3'; have hbDs := hbD.size; have hoD := hoB.ext hb3'; have z0 := ext_cell hb3' y0; have z1 := ext_cell hb3' y1; have z2 := ext_cell hb3' y2))
          go_roundw
          case rel => exact ⟨k + 1, by omega, by go_num, hbD, by rw [HQ.out]; exact hoD, fun h => hnil.out (by rw [HQ.out] at h; exact h)⟩
          case measure => simp [intOf]; omega
        · have hq : rawTrips way lv (rels.take (k + 1)) = ys ++ [⟨r, tt, fi⟩] := by rw [HTS.out, hqf]; simp
          have HQ := Lib.hid hq
          clear hq
          go_wp2_with (first
          | (go_at_call 147; refine (hix _ hbB).mono ?_; rintro e w3 ⟨rfl, rfl⟩)
          | (go_at_call 148; refine (htm _ hbC).mono ?_; rintro e w3 ⟨rfl, hb3'⟩; have hbD := ext_trans hbB hb3'; have hbDs := hbD.size; have hoD := hoB.ext hb3'; have z0 := ext_cell hb3' y0; have z1 := ext_cell hb3' y1; have z2 := ext_cell hb3' y2)
          | (at_builtin; refine own_append (w0 := w2) rfl _ _ 155 _ 88 rfl Tryz.underlying155 infoT rfl (by decide) (by decide) encT_len _ ys ⟨r, tt, fi⟩ _ rfl rfl rfl (encT_one _) hoD hbD hbDs (by have := HPL.out; have := HKL.out; omega) ?_; intro v1 w5 hown hbv hgv hnn))
          go_roundw
          case rel => exact ⟨k + 1, by omega, by go_num, hbv, by rw [HQ.out]; exact hown, fun h => by rw [HQ.out] at h; simp at h⟩
          case measure => simp [intOf]; omega
    · obtain rfl : k = rels.length := by omega
      rw [List.take_of_length_le (Nat.le_refl _)] at ho hnil
      have hrl := rawTrips_len way lv rels
      generalize rawTrips way lv rels = ys at ho hnil HV hrl
      have hbs := hb4.size
      rcases ho.2 with ⟨rfl, h0⟩ | ⟨g, cap, cur, rfl, hbg, hh, _⟩
      · have hy : ys = [] := List.eq_nil_of_length_eq_zero h0
        subst hy
        clear ho hnil h0
        go_wp2_with (go_at_call 150; refine (sortNil_any _).mono ?_; rintro e w3 ⟨rfl, rfl⟩)
        go_ret
        refine ⟨_, rfl, ?_, ext_trans hb4 hb⟩
        rw [HV.out, sortT_nil]
        exact SlAt.nil _
      · have hgs : g < wr.heap.size := (Array.getElem?_eq_some_iff.1 hh).1
        have hso := sortT_any ys g cap w2.heap.size wr ho hgs hbg (by omega)
        clear ho hnil hh
        go_wp2_with (go_at_call 150; refine hso.mono ?_; rintro e w3 ⟨rfl, hsl, hb9⟩)
        go_ret
        refine ⟨_, rfl, ?_, hb4.trans ((hb.trans hb9).mono hbs)⟩
        rw [HV.out]
        exact hsl
end Go.Proofs.YtlogjgmfkjjhjaaGreatDoor
namespace Go.Proofs.YtlogjgmfkjjhjaaGreatDoor
open Go.RowKit

/-- a trip: a relay's name and a time -/
def encTr (t : ByteArray × Int) : List Value := [.string t.1, .int .i64 t.2]
theorem encTr_len (t : ByteArray × Int) : (encTr t).length = 2 := rfl
theorem infoTr : (Tryz.prog.info? 82).map (fun i => (i.zero, i.size, i.bytes)) = some (some (.agg #[.string ByteArray.empty, .int .i64 0]), 2, 24) := by kernel_rfl
set_option maxHeartbeats 2000000 in
theorem mappedTT {lb : Array Value} (f : Tp → ByteArray × Int) (g : Nat) (eg : ∀ args w, (callFunc g args).run Tryz.prog w = .ok (.enter g args) w) (xs : List Tp) (v : Value) (w : World)
    (hs : SlAt encT 6 w v xs) (hn : xs.length ≤ 1048576) (hp : FnB g lb (fun x : Tp => .agg (encT x).toArray) (fun z : ByteArray × Int => .agg #[.string z.1, .int .i64 z.2]) f xs w) :
    Calls Tryz.prog 92 #[v, .func (.func g) #[] lb] w (RetSl encTr 2 82 (xs.map f) w) := by
  obtain ⟨A, c, rfl, hc, hm, hr⟩ := hs
  have hlen : xs.length ≤ 9223372036854775807 := by omega
  go_enter Tryz.func92, Tryz.ntmps92
  go_wp2
  go_loopw [10, 5] (fun i o wr => ∃ k : Nat, k ≤ xs.length ∧ i = .int .i64 k ∧ Below w.heap.size w wr ∧ Own encTr 2 w.heap.size 82 wr o ((xs.take k).map f) ∧ Hid ((xs.take k).map f = [] → o = .slice none 0 0)) (fun i _ _ => xs.length - (intOf i).toNat)
  case atStart => exact ⟨0, Nat.zero_le _, rfl, Below.refl _ _, Own.nil _, fun _ => rfl⟩
  case round =>
    obtain ⟨k, hk, rfl, hb, ho, hnil⟩ := hrel
    by_cases hlt : k < xs.length
    · obtain ⟨b, off, rfl, hbl, hcell⟩ := hr (by omega)
      have hx : xs[k]? = some xs[k] := List.getElem?_eq_getElem hlt
      have hcall := fun W hW => hp W xs[k] (List.getElem_mem hlt) hW
      have hts := map_take_succ f xs k hlt
      generalize xs[k] = x at hx hcall hts
      have c0 := ext_cell hb (hcell k x hx 0 _ rfl)
      have c1 := ext_cell hb (hcell k x hx 1 _ rfl)
      have c2 := ext_cell hb (hcell k x hx 2 _ rfl)
      have c3 := ext_cell hb (hcell k x hx 3 _ rfl)
      have c4 := ext_cell hb (hcell k x hx 4 _ rfl)
      have c5 := ext_cell hb (hcell k x hx 5 _ rfl)
      unfold Rl.pv at c2
      rw [Nat.add_zero] at c0
      have hlt2 : ((xs.take k).map f).length = k := by simp; omega
      have HTS := Lib.hid hts
      have HL := Lib.hid hlt2
      clear hcell hr hp hx hts hlt2
      generalize (xs.take k).map f = ys at ho hnil HTS HL
      generalize f x = y at hcall HTS
      unfold encT Rl.pv at hcall
      have hsz := hb.size
      go_wp2_with (first
        | (go_at_fn g; refine (hcall _ (hb.alloc hsz _)).mono ?_; rintro e w1 ⟨rfl, hb1⟩; have hbw := ext_trans (hb.alloc hsz _) hb1; have ho1 := (ho.alloc (.cells #[.string x.rel.name, .string x.rel.node, .slice x.rel.pa x.rel.pts.length x.rel.pc, .string x.rel.name, .int .i64 x.time, .int .i64 x.far] 154)).ext hb1)
        | (at_builtin; refine own_append (w0 := w) rfl _ _ 62 (.agg #[.string ByteArray.empty, .int .i64 0]) 24 rfl Tryz.underlying62 infoTr rfl (by decide) (by decide) encTr_len _ ys y _ rfl rfl rfl (by simp [encTr, Value.oneCell']) ho1 hbw hbw.size (by have := HL.out; omega) ?_; intro v1 w2 hown hbv hgv hnn))
      go_roundw
      case rel => exact ⟨k + 1, by omega, by go_num, hbv, by rw [HTS.out]; exact hown, fun h => by rw [HTS.out] at h; simp at h⟩
      case measure => simp [intOf]; omega
    · obtain rfl : k = xs.length := by omega
      rw [List.take_of_length_le (Nat.le_refl _)] at ho hnil
      go_wp2
      go_ret
      exact ⟨_, rfl, ho, hb, hnil.out⟩

def tripOf (t : Tp) : ByteArray × Int := (t.rel.name, t.time)
set_option maxHeartbeats 1000000 in
theorem trips1_any (t : Tp) (w : World) : Calls Tryz.prog 94 #[.agg (encT t).toArray] w fun e w' => e = .returned (.agg #[.string (tripOf t).1, .int .i64 (tripOf t).2]) ∧ Below w.heap.size w w' := by
  unfold encT Rl.pv tripOf
  go_enter Tryz.func94, Tryz.ntmps94
  go_wp2
  exact bodyPost_ret (v := .agg #[.string t.rel.name, .int .i64 t.time]) (by simp [results, Tryz.results94, go_sem]) rfl ⟨rfl, by (repeat (first | exact Below.refl _ _ | assumption | refine Below.drew ?_ | refine Below.alloc ?_ (by simp <;> omega) _ | refine Below.alloc ?_ (by simp) _ | refine Below.setCell ?_ (by simp) _))⟩
theorem gridV_zero {g : Gr} (h : gridV g = 0) : Good g.nodes ∧ relaysV g.nodes g.rels = 0 ∧ 0 ≤ g.st ∧ g.st ≤ 100000000 := by
  simp only [gridV, firstV_zero, List.mem_cons, List.mem_nil_iff, or_false, forall_eq_or_imp, forall_eq, withinV_zero] at h
  obtain ⟨h1, h2, h3⟩ := h
  have h4 : relaysE g.nodes g.rels = 0 := by
    unfold relaysV at h1
    split at h1
    · rename_i hh; exact absurd h1 hh
    · rename_i hh; simpa using hh
  simp only [relaysE, firstV_zero, List.mem_cons, List.mem_nil_iff, or_false, forall_eq_or_imp, forall_eq] at h4
  exact ⟨good_of h4.1, h1, h2, h3⟩
theorem gridNodeV_zero {g : Gr} {s : ByteArray} (h : gridNodeV g s = 0) : gridV g = 0 ∧ 0 ≤ findI g.nodes s := by
  unfold gridNodeV at h
  split at h
  · rename_i hh; exact absurd h hh
  · rename_i hh
    rw [whenV_zero (by decide)] at h
    exact ⟨by simpa using hh, by simpa using h⟩

def tripsR (g : Gr) (s : ByteArray) : List (ByteArray × Int) × Int := if gridNodeV g s ≠ 0 then ([], gridNodeV g s) else ((tripsN g s).map tripOf, 0)
theorem tripsN_len (g : Gr) (s : ByteArray) : (tripsN g s).length ≤ g.rels.length := by
  unfold tripsN sortT
  rw [Array.length_toList, sorted_size]
  have := rawTrips_len (namesN g.nodes s) (levelN g.nodes g.st s) g.rels
  simpa using this

set_option maxHeartbeats 4000000 in
theorem Trips_any (g : Gr) (s : ByteArray) (w : World) (hg : GrAt w g) (h12 : g.rels.length ≤ 12) :
    Calls Tryz.prog 33 #[.agg (encGr g).toArray, .string s] w (Ret2 encTr 2 82 (tripsR g s) w) := by
  have hck := fun W hW => gridNode_any g s W (hg.ext hW)
  have hz : gridNodeV g s = 0 → _ := gridNodeV_zero
  have htr := fun (h0 : gridNodeV g s = 0) (W : World) (hW : Below w.heap.size w W) => trips_any g s W (hg.ext hW) (gridV_zero (gridNodeV_zero (s := s) h0).1).1 h12 (gridV_zero (gridNodeV_zero (s := s) h0).1).2.2.1 (by have := (gridV_zero (gridNodeV_zero (s := s) h0).1).2.2.2; omega)
  have hV : tripsR g s = if gridNodeV g s ≠ 0 then ([], gridNodeV g s) else ((tripsN g s).map tripOf, 0) := rfl
  rw [hV]
  clear hV hz
  have hln := tripsN_len g s
  generalize gridNodeV g s = e0 at hck htr ⊢
  generalize tripsN g s = ts at htr hln ⊢
  have em := enters_of Tryz.func94 (by kernel_rfl) rfl
  unfold encGr at hck htr ⊢
  obtain ⟨nv, nodes, rv, rels, st⟩ := g
  simp only at hck htr hln h12 ⊢
  obtain ⟨A, n, c, rfl⟩ := hg.nodes.isSlice
  obtain ⟨A', n', c', rfl⟩ := hg.rels.isSlice
  clear hg
  have hbW : Below w.heap.size w (w.alloc (.cells #[.slice A n c, .slice A' n' c', .int .i64 st] 67)) := ext_alloc _ _
  have x0 := BoxC.new w 67 #[.slice A n c, .slice A' n' c', .int .i64 st]
  have p0 := x0.cell 0 _ rfl
  have p1 := x0.cell 1 _ rfl
  have p2 := x0.cell 2 _ rfl
  go_enter Tryz.func33, Tryz.ntmps33
  cases hq : (e0 != 0)
  · obtain rfl : e0 = 0 := by simpa using hq
    have htr2 := fun (W : World) hW => htr rfl W hW
    clear htr
    rw [if_neg (by simp)]
    go_wp2_with (first
      | (go_at_call 91; refine (hck _ hbW).mono ?_; rintro e wA ⟨rfl, hbA⟩; have hbB := ext_trans hbW hbA; have q0 := ext_cell hbA p0; have q1 := ext_cell hbA p1; have q2 := ext_cell hbA p2)
      | (go_at_call 93; refine (htr2 _ hbB).mono ?_; rintro e wC ⟨v1, rfl, hs1, hbC⟩; have hbD := ext_trans hbB hbC)
      | (go_at_call 92; refine (mappedTT tripOf _ em ts _ _ hs1 (by omega) (lb := #[]) (fun W x _ _ => trips1_any x W)).mono ?_; rintro e wE ⟨v3, rfl, ho3, hb5, hn3⟩))
    go_ret2
    exact ⟨_, rfl, ho3.mono hbD.size, ext_trans hbD hb5, hn3⟩
  · rw [if_pos (by simpa using hq)]
    go_wp2_with (go_at_call 91; refine (hck _ hbW).mono ?_; rintro e wA ⟨rfl, hbA⟩; have hbB := ext_trans hbW hbA)
    go_ret2
    exact ⟨_, rfl, Own.nil _, hbB, fun _ => rfl⟩
end Go.Proofs.YtlogjgmfkjjhjaaGreatDoor
