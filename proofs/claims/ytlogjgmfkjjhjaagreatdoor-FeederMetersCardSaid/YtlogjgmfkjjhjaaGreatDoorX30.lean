/-
  feeder.Parse.
-/
import Derived.Test.YtlogjgmfkjjhjaaGreatDoorX25
set_option linter.unusedSimpArgs false
set_option linter.unusedVariables false
namespace Go.Proofs.YtlogjgmfkjjhjaaGreatDoor
open Go.RowKit Go.Shelf
attribute [local go_sem] Oper.semAt_some

/-- what holds between two lines; the call's base: n -/
structure PsI (n : Nat) (w : World) (pre : List ByteArray) (W : World) : Prop where
  out : ∃ v, Boxed W (n + 1 + 1 + 1) 29 v ∧ Own encN 7 (n + 1 + 1 + 1 + 1 + 1) 125 W v (nodesL pre) ∧ (nodesL pre = [] → v = .slice none 0 0)
  r0 : Boxed W n 29 (.slice none 0 0)
  r1 : Boxed W (n + 1) 3 (.int .i64 0)
  r2 : Boxed W (n + 1 + 1) 26 (.int .i64 0)
  sb : ∃ z, Boxed W (n + 1 + 1 + 1 + 1) 9 z
  below : Below n w W
  good : goodP pre
structure PsX (n : Nat) (w : World) (pre : List ByteArray) (W : World) : Prop where
  at_ : ∃ p x, pre = p ++ [x] ∧ goodP p ∧ (lineS x).2 = true ∧ Boxed W (n + 1) 3 (.int .i64 (nodesL p).length)
  r0 : Boxed W n 29 (.slice none 0 0)
  r2 : Boxed W (n + 1 + 1) 26 (.int .i64 25)
  sb : ∃ z, Boxed W (n + 1 + 1 + 1 + 1) 9 z
  below : Below n w W
theorem PsI.own {n : Nat} {w : World} (hw : w.heap.size = n) : OwnFrom (n + 1 + 1 + 1 + 1 + 1) (PsI n w) := by
  intro pre X Y row h hg hr
  have hc : ∀ r, row = some r → ∃ o : Obj, X.heap[r]? = some o ∧ o.isCells = false := fun r e => (hr r e).2
  refine ⟨?_, boxed_own _ _ (fun _ : Unit => _) () X Y row h.r0 hg hc, boxed_own _ _ (fun _ : Unit => _) () X Y row h.r1 hg hc, boxed_own _ _ (fun _ : Unit => _) () X Y row h.r2 hg hc, ?_, ownFrom_below (β := Unit) (w₀ := w) (n₀ := n) (by omega) (by omega) () X Y row h.below hg hr, h.good⟩
  · have := holdsRow_own (n + 1 + 1 + 1 + 1 + 1) (n + 1 + 1 + 1) 29 125 7 (fun pre => (nodesL pre).length) (fun pre => (nodesL pre).flatMap encN) (fun pre v => nodesL pre = [] → v = .slice none 0 0)
    exact this pre X Y row h.out hg hc
  · obtain ⟨z, hz⟩ := h.sb
    exact ⟨z, boxed_own _ _ (fun _ : Unit => _) () X Y row hz hg hc⟩
theorem PsX.own {n : Nat} {w : World} (hw : w.heap.size = n) : OwnFrom (n + 1 + 1 + 1 + 1 + 1) (PsX n w) := by
  intro pre X Y row h hg hr
  have hc : ∀ r, row = some r → ∃ o : Obj, X.heap[r]? = some o ∧ o.isCells = false := fun r e => (hr r e).2
  obtain ⟨p, x, e, hp, hx, hb⟩ := h.at_
  obtain ⟨z, hz⟩ := h.sb
  exact ⟨⟨p, x, e, hp, hx, boxed_own _ _ (fun _ : Unit => _) () X Y row hb hg hc⟩, boxed_own _ _ (fun _ : Unit => _) () X Y row h.r0 hg hc, boxed_own _ _ (fun _ : Unit => _) () X Y row h.r2 hg hc, ⟨z, boxed_own _ _ (fun _ : Unit => _) () X Y row hz hg hc⟩, ownFrom_below (β := Unit) (w₀ := w) (n₀ := n) (by omega) (by omega) () X Y row h.below hg hr⟩
theorem PsI.stands {n : Nat} {w : World} (hw : w.heap.size = n) : Stands (n + 1 + 1 + 1 + 1) (PsI n w) := by
  intro pre W u h
  obtain ⟨v, h1, h2, h3⟩ := h.out
  obtain ⟨z, hz⟩ := h.sb
  refine ⟨⟨v, h1.other (by omega) _, h2.kept (setCell_grown W _ 0 u) ?_, h3⟩, h.r0.other (by omega) _, h.r1.other (by omega) _, h.r2.other (by omega) _, ⟨_, hz.set u⟩, h.below.setCell (by simp; omega) _, h.good⟩
  rcases h2.2 with ⟨rfl, _⟩ | ⟨g, cap, cur, rfl, hb, _, _⟩
  · exact .inl rfl
  · exact .inr (by simp only [Value.ownBlock, ne_eq, Option.some.injEq]; omega)
theorem PsX.stands {n : Nat} {w : World} (hw : w.heap.size = n) : Stands (n + 1 + 1 + 1 + 1) (PsX n w) := by
  intro pre W u h
  obtain ⟨p, x, e, hp, hx, hb⟩ := h.at_
  obtain ⟨z, hz⟩ := h.sb
  exact ⟨⟨p, x, e, hp, hx, hb.other (by omega) _⟩, h.r0.other (by omega) _, h.r2.other (by omega) _, ⟨_, hz.set u⟩, h.below.setCell (by simp; omega) _⟩

theorem tk_new (W : World) (ws : List ByteArray) (hl : ws.length ≤ 9223372036854775807) : TkAt ((W.alloc (.cells (ws.map Value.string).toArray 9)).alloc (.cells #[.slice (some ⟨W.heap.size, 0, none⟩) ws.length ws.length, .bool false] 214)) (W.heap.size + 1) ws false := by
  refine ⟨_, _, by have := BoxC.new (W.alloc (.cells (ws.map Value.string).toArray 9)) 214 #[.slice (some ⟨W.heap.size, 0, none⟩) ws.length ws.length, .bool false]; rw [World.size_alloc] at this; exact this, Nat.le_refl _, hl, fun _ => ⟨_, _, rfl, by omega, fun j x hx => ?_⟩⟩
  have h1 := (BoxC.new W 9 (ws.map Value.string).toArray).alloc (.cells #[.slice (some ⟨W.heap.size, 0, none⟩) ws.length ws.length, .bool false] 214)
  rw [Nat.zero_add]
  exact h1.cell j _ (by simp [hx])

/-- three results in boxes -/
theorem results_cells3 {fn : Func} {p q r : Tmp} {tp tq tr : TypeId} (h : fn.results = #[.cell p tp, .cell q tq, .cell r tr]) {tmps : Array Value} {P : Program} {w : World} {a b c : Addr} {u v x : Value}
    (h1 : (loadVar tp a).run P w = .ok u w) (h2 : (loadVar tq b).run P w = .ok v w) (h3 : (loadVar tr c).run P w = .ok x w) (e1 : tmps[p]? = some (.pointer (some a))) (e2 : tmps[q]? = some (.pointer (some b))) (e3 : tmps[r]? = some (.pointer (some c))) :
    (results fn tmps).run P w = .ok (.tuple #[u, v, x]) w := by
  have ha : ∀ a : Addr, asAddr (.pointer (some a)) = pure a := fun _ => rfl
  simp only [results, h]
  simp [Sem.run_bind, Result.andThen, e1, e2, e3, ha, h1, h2, h3]
theorem load_nodes {b : Nat} {v : Value} {W : World} (h : Boxed W b 29 v) : (loadVar 29 ⟨b, 0, none⟩).run Tryz.prog W = .ok v W := by
  have := h.cell
  simp [loadVar, go_sem, this]
theorem load_int {b : Nat} {v : Value} {W : World} (h : Boxed W b 3 v) : (loadVar 3 ⟨b, 0, none⟩).run Tryz.prog W = .ok v W := by
  have := h.cell
  simp [loadVar, go_sem, this]
theorem load_errno {b : Nat} {v : Value} {W : World} (h : Boxed W b 26 v) : (loadVar 26 ⟨b, 0, none⟩).run Tryz.prog W = .ok v W := by
  have := h.cell
  simp [loadVar, go_sem, this]

theorem Own.setc {α : Type} {E : α → List Value} {k base : Nat} {e : TypeId} {W : World} {v : Value} {xs : List α} (h : Own E k base e W v xs) {b : Nat} (hb : b < base) (i : Nat) (u : Value) : Own E k base e (W.setCell ⟨b, i, none⟩ u) v xs := by
  refine h.kept (setCell_grown W b i u) ?_
  rcases h.2 with ⟨rfl, _⟩ | ⟨g, cap, cur, rfl, hbb, _, _⟩
  · exact .inl rfl
  · exact .inr (by simp only [Value.ownBlock, ne_eq, Option.some.injEq]; omega)
theorem Boxed.putD {W : World} {b : Nat} {t : TypeId} {v : Value} (h : Boxed W b t v) {D : Nat} (hD : D ≠ b) (o : Obj) : Boxed (W.putObj D o) b t v := (World.putObj_heap_other (Ne.symm hD)).trans h
/-- three results in boxes, behind three stores and the taking of the deferred calls -/
theorem parse_end {n D : Nat} {w X : World} {u0 u1 u2 : Value} {c0 c1 c2 : Value} (h0 : Boxed X n 29 c0) (h1 : Boxed X (n + 1) 3 c1) (h2 : Boxed X (n + 1 + 1) 26 c2) (hD : n + 5 ≤ D) (hdef : X.heap[D]? = some (.deferred (some [])))
    (hw : w.heap.size = n) (hb : Below n w X) :
    Boxed ((((X.setCell ⟨n, 0, none⟩ u0).setCell ⟨n + 1, 0, none⟩ u1).setCell ⟨n + 1 + 1, 0, none⟩ u2).putObj D (.deferred none)) n 29 u0 ∧
    Boxed ((((X.setCell ⟨n, 0, none⟩ u0).setCell ⟨n + 1, 0, none⟩ u1).setCell ⟨n + 1 + 1, 0, none⟩ u2).putObj D (.deferred none)) (n + 1) 3 u1 ∧
    Boxed ((((X.setCell ⟨n, 0, none⟩ u0).setCell ⟨n + 1, 0, none⟩ u1).setCell ⟨n + 1 + 1, 0, none⟩ u2).putObj D (.deferred none)) (n + 1 + 1) 26 u2 ∧
    (((X.setCell ⟨n, 0, none⟩ u0).setCell ⟨n + 1, 0, none⟩ u1).setCell ⟨n + 1 + 1, 0, none⟩ u2).heap[D]? = some (.deferred (some [])) ∧
    Below n w ((((X.setCell ⟨n, 0, none⟩ u0).setCell ⟨n + 1, 0, none⟩ u1).setCell ⟨n + 1 + 1, 0, none⟩ u2).putObj D (.deferred none)) := by
  have hdef2 : (((X.setCell ⟨n, 0, none⟩ u0).setCell ⟨n + 1, 0, none⟩ u1).setCell ⟨n + 1 + 1, 0, none⟩ u2).heap[D]? = some (.deferred (some [])) := by
    rw [heap_setCell_other _ _ _ _ (by simp only; omega), heap_setCell_other _ _ _ _ (by simp only; omega), heap_setCell_other _ _ _ _ (by simp only; omega)]
    exact hdef
  refine ⟨Boxed.putD (((h0.set u0).other (by omega) _).other (by omega) _) (by omega) _, Boxed.putD (((h1.other (by omega) _).set u1).other (by omega) _) (by omega) _, Boxed.putD (((h2.other (by omega) _).other (by omega) _).set u2) (by omega) _, hdef2, ?_⟩
  have hb3 : Below n w (((X.setCell ⟨n, 0, none⟩ u0).setCell ⟨n + 1, 0, none⟩ u1).setCell ⟨n + 1 + 1, 0, none⟩ u2) := ((hb.setCell (p := ⟨n, 0, none⟩) (Nat.le_refl _) _).setCell (p := ⟨n + 1, 0, none⟩) (by simp only; omega) _).setCell (p := ⟨n + 1 + 1, 0, none⟩) (by simp only; omega) _
  subst hw
  exact hb3.trans (belowK_b (w := w) (Nat.le_refl _) _ D _ _ (by omega) hdef2 rfl rfl)

set_option maxRecDepth 100000 in
set_option maxHeartbeats 40000000 in
theorem Parse_any (s : ByteArray) (w : World) (he : Env w) :
    Calls Tryz.prog 68 #[.string s] w fun e w' => ∃ v, e = .returned (.tuple #[v, .int .i64 (parseV s).2.1, .int .i64 (parseV s).2.2]) ∧ Own encN 7 w.heap.size 125 w' v (parseV s).1 ∧ Below w.heap.size w w' ∧ ((parseV s).1 = [] → v = .slice none 0 0) := by
  by_cases hlong : 4096 < s.size
  · have hV : parseV s = ([], 0, 26) := by unfold parseV; rw [if_pos hlong]
    rw [hV]
    have hd : decide ((4096 : Int) < (s.size : Int)) = true := by simp; omega
    clear hV
    go_enter Tryz.func68, Tryz.ntmps68
    have b0 := Boxed.new w 29 (.slice none 0 0)
    have b1 := Boxed.new (w.alloc (.cells #[.slice none 0 0] 29)) 3 (.int .i64 0)
    have b2 := Boxed.new ((w.alloc (.cells #[.slice none 0 0] 29)).alloc (.cells #[.int .i64 0] 3)) 26 (.int .i64 26)
    have hB : Below w.heap.size w (((w.alloc (.cells #[.slice none 0 0] 29)).alloc (.cells #[.int .i64 0] 3)).alloc (.cells #[.int .i64 26] 26)) := by (repeat (first | exact Below.refl _ _ | assumption | refine Below.drew ?_ | refine Below.alloc ?_ (by simp <;> omega) _ | refine Below.alloc ?_ (by simp) _ | refine Below.setCell ?_ (by simp) _))
    have b0' := (b0.alloc (.cells #[.int .i64 0] 3)).alloc (.cells #[.int .i64 26] 26)
    have b1' := b1.alloc (.cells #[.int .i64 26] 26)
    simp only [World.size_alloc] at b1' b2
    go_wp2
    exact ⟨rfl, _, results_cells3 rfl (load_nodes b0') (load_int b1') (load_errno b2) rfl rfl rfl, _, rfl, Own.nil _, hB, fun _ => rfl⟩
  have hsz : s.size ≤ 4096 := by omega
  have hd : decide ((4096 : Int) < (s.size : Int)) = false := by simp; omega
  refine (callsIn_wide (n := 3)).1 ?_
  have eg := enters_of Tryz.func167 (by kernel_rfl) rfl
  have hps : PsI w.heap.size w [] (((((w.alloc (.cells #[.slice none 0 0] 29)).alloc (.cells #[.int .i64 0] 3)).alloc (.cells #[.int .i64 0] 26)).alloc (.cells #[.slice none 0 0] 29)).alloc (.cells #[.string s] 9)) := by
    have b0 := Boxed.new w 29 (.slice none 0 0)
    have b1 := Boxed.new (w.alloc (.cells #[.slice none 0 0] 29)) 3 (.int .i64 0)
    have b2 := Boxed.new ((w.alloc (.cells #[.slice none 0 0] 29)).alloc (.cells #[.int .i64 0] 3)) 26 (.int .i64 0)
    have b3 := Boxed.new (((w.alloc (.cells #[.slice none 0 0] 29)).alloc (.cells #[.int .i64 0] 3)).alloc (.cells #[.int .i64 0] 26)) 29 (.slice none 0 0)
    have b4 := Boxed.new ((((w.alloc (.cells #[.slice none 0 0] 29)).alloc (.cells #[.int .i64 0] 3)).alloc (.cells #[.int .i64 0] 26)).alloc (.cells #[.slice none 0 0] 29)) 9 (.string s)
    simp only [World.size_alloc] at b1 b2 b3 b4
    refine ⟨⟨_, b3.alloc _, Own.nil _, fun _ => rfl⟩, (((b0.alloc _).alloc _).alloc _).alloc _, ((b1.alloc _).alloc _).alloc _, (b2.alloc _).alloc _, ⟨_, b4⟩, by (repeat (first | exact Below.refl _ _ | assumption | refine Below.drew ?_ | refine Below.alloc ?_ (by simp <;> omega) _ | refine Below.alloc ?_ (by simp) _ | refine Below.setCell ?_ (by simp) _)), fun x hx => by cases hx⟩
  have hsb : Boxed (((((w.alloc (.cells #[.slice none 0 0] 29)).alloc (.cells #[.int .i64 0] 3)).alloc (.cells #[.int .i64 0] 26)).alloc (.cells #[.slice none 0 0] 29)).alloc (.cells #[.string s] 9)) (w.heap.size + 1 + 1 + 1 + 1) 9 (.string s) := by
    have b4 := Boxed.new ((((w.alloc (.cells #[.slice none 0 0] 29)).alloc (.cells #[.int .i64 0] 3)).alloc (.cells #[.int .i64 0] 26)).alloc (.cells #[.slice none 0 0] 29)) 9 (.string s)
    simp only [World.size_alloc] at b4
    exact b4
  refine callsIn_of_wp_marks Tryz.func68 rfl trivial ?_ rfl
  simp only [Tryz.ntmps68, List.size_toArray, List.length_cons, List.length_nil, Nat.reduceAdd, Nat.reduceSub, Array.replicate_succ, Array.replicate_zero, List.push_toArray, List.append_toArray, List.nil_append, List.cons_append]
  gi_wp2_with (refine ⟨trivial, ?_⟩; gi_at_call 128; refine (callsIn_wide.2 (linesMk_any s _)).mono ?_; rintro e w' ⟨rfl, rfl⟩)
  have hz5 : (((((w.alloc (.cells #[.slice none 0 0] 29)).alloc (.cells #[.int .i64 0] 3)).alloc (.cells #[.int .i64 0] 26)).alloc (.cells #[.slice none 0 0] 29)).alloc (.cells #[.string s] 9)).heap.size = w.heap.size + 1 + 1 + 1 + 1 + 1 := by simp
  generalize hW0 : World.alloc (World.alloc (World.alloc (World.alloc (World.alloc w _) _) _) _) _ = W0 at hps hsb hz5 ⊢
  clear hW0
  refine rangeFunc_box (sb := w.heap.size + 1 + 1 + 1 + 1) rfl (by omega) (gf := 167) (lb := #[.pointer (some ⟨w.heap.size + 1 + 1 + 1 + 1, 0, none⟩)]) rfl trivial eg (by omega)
    (lines_stops 2 (by omega) (w.heap.size + 1 + 1 + 1 + 1) s (by omega) W0 (by omega) hsb)
    (fun h1 h2 => Eq.trans h2 h1) (fun W l o o' h1 h2 h3 h4 => World.putObj_heap_other (by omega)) (fun _ => rfl)
    (fun pre W => PsI w.heap.size w pre W) (fun c pre W => c = .ret ∧ PsX w.heap.size w pre W)
    (hz5 ▸ PsI.own rfl) (fun c s X Y row h hg hr => ⟨h.1, (hz5 ▸ PsX.own (w := w) rfl : OwnFrom W0.heap.size _) s X Y row h.2 hg hr⟩) (PsI.stands rfl) (fun c s W v h => ⟨h.1, PsX.stands rfl s W v h.2⟩) hps
    (fun x a' W => a' = { tmps := #[.string s, undef, .pointer (some ⟨w.heap.size, 0, none⟩), .pointer (some ⟨w.heap.size + 1, 0, none⟩), .pointer (some ⟨w.heap.size + 1 + 1, 0, none⟩), .pointer (some ⟨w.heap.size + 1 + 1 + 1, 0, none⟩), .string x, undef, undef, undef, undef, undef, undef, undef, .string s, .int .i64 s.size, .bool false, .string s, .func (.func 167) #[] #[.pointer (some ⟨w.heap.size + 1 + 1 + 1 + 1, 0, none⟩)], .string x, undef, undef, undef, undef, undef, undef, undef, undef, undef, undef, undef, undef, undef, undef, undef, undef, undef, undef, undef, undef, undef, undef, undef, undef, undef, undef, undef, undef, undef, undef, undef, undef, undef, undef, undef, undef, undef, undef, undef, undef, undef, undef, undef, undef, undef, undef, undef, undef, undef, undef, undef, undef, undef, undef, undef, undef, undef, undef, undef, undef, undef, undef, undef, undef, undef, undef, undef, undef, undef, undef, undef, undef, undef, undef, undef, undef], defers := [] })
    (fun x a' _ X Y row hs hg hr => hs)
    ?assign ?body ?done ?stop
  case assign =>
    rintro lp pre x W K hI hK
    gi_wp2
    exact hK _ _ (KeepsFrom.refl _ _) rfl hI rfl
  case body =>
    rintro lp pre x _ W hlp hI rfl hSp
    have hx : x.size ≤ 4096 := Nat.le_trans (linesF_mem _ _ x (hSp.subset (by simp))) hsz
    obtain ⟨v, hv, hrow, hnil⟩ := hI.out
    have hW5 : w.heap.size + 1 + 1 + 1 + 1 + 1 ≤ W.heap.size := by obtain ⟨z, hz⟩ := hI.sb; exact hz.lt
    have hlenp : (nodesL pre).length ≤ 4096 := by
      have h1 := hSp.length_le
      have h2 := linesF_len s.size s
      have h3 : (linesF s.size s).length = (linesB s).length := rfl
      simp only [nodesL, List.length_map]
      simp at h1
      omega
    obtain ⟨m, hm⟩ := he.mx
    have hmW : W.cell? ⟨1, 0, none⟩ = some (.int .i64 m) := ext_cell hI.below hm
    have hcs : Calls Tryz.prog 129 #[.string x, .string ⟨#[10]⟩] W fun e w' => e = .returned (.tuple #[.string (bodyB x), .bool (Lib.hasSuffix x.data.toList [10])]) ∧ W = w' := (Tryz.strings_CutSuffix x ⟨#[10]⟩ W (by omega)).mono fun e w' h => ⟨h.1, h.2.symm⟩
    have hl : (splitW x).length = Lib.countB (bodyB x) ⟨#[32]⟩ + 1 := Lib.splitB_all _ (by decide) _ _ _ rfl
    have hcl := Lib.countB_le ⟨#[32]⟩ (by decide) _ (bodyB x) (Nat.le_refl _)
    have hbs := bodyB_size x
    have hsp : Calls Tryz.prog 130 #[.string (bodyB x), .string ⟨#[32]⟩] W fun e w' => e = .returned (.slice (some ⟨W.heap.size, 0, none⟩) (splitW x).length (splitW x).length) ∧ w' = W.alloc (.cells ((splitW x).map Value.string).toArray 9) := by
      have h := Tryz.strings_Split (bodyB x) ⟨#[32]⟩ m W (by omega) hmW (by decide)
      rw [hl]; exact h
    have ht0 := tk_new W (splitW x) (by omega)
    have hb0 : Below W.heap.size W ((W.alloc (.cells ((splitW x).map Value.string).toArray 9)).alloc (.cells #[.slice (some ⟨W.heap.size, 0, none⟩) (splitW x).length (splitW x).length, .bool false] 214)) := by (repeat (first | exact Below.refl _ _ | assumption | refine Below.drew ?_ | refine Below.alloc ?_ (by simp <;> omega) _ | refine Below.alloc ?_ (by simp) _ | refine Below.setCell ?_ (by simp) _))
    obtain ⟨⟨y0, ws1, wr1⟩, h0⟩ : ∃ t, wordS (splitW x) false = t := ⟨_, rfl⟩
    obtain ⟨⟨y1, ws2, wr2⟩, h1⟩ : ∃ t, wordS ws1 wr1 = t := ⟨_, rfl⟩
    obtain ⟨⟨y2, ws3, wr3⟩, h2⟩ : ∃ t, wordS ws2 wr2 = t := ⟨_, rfl⟩
    obtain ⟨⟨z3, ws4, wr4⟩, h3⟩ : ∃ t, numberS ws3 wr3 = t := ⟨_, rfl⟩
    obtain ⟨⟨z4, ws5, wr5⟩, h4⟩ : ∃ t, numberS ws4 wr4 = t := ⟨_, rfl⟩
    obtain ⟨⟨z5, ws6, wr6⟩, h5⟩ : ∃ t, numberS ws5 wr5 = t := ⟨_, rfl⟩
    obtain ⟨⟨z6, ws7, wr7⟩, h6⟩ : ∃ t, numberS ws6 wr6 = t := ⟨_, rfl⟩
    obtain ⟨⟨z7, ws8, wr8⟩, h7⟩ : ∃ t, numberS ws7 wr7 = t := ⟨_, rfl⟩
    have hLS := lineS_eq h0 h1 h2 h3 h4 h5 h6 h7
    have hw0 := fun tb W h => word_any tb _ _ W (h : TkAt W tb (splitW x) false)
    have hw1 := fun tb W h => word_any tb _ _ W (h : TkAt W tb ws1 wr1)
    have hw2 := fun tb W h => word_any tb _ _ W (h : TkAt W tb ws2 wr2)
    have hn3 := fun tb W h => tnumber_any tb _ _ W (h : TkAt W tb ws3 wr3)
    have hn4 := fun tb W h => tnumber_any tb _ _ W (h : TkAt W tb ws4 wr4)
    have hn5 := fun tb W h => tnumber_any tb _ _ W (h : TkAt W tb ws5 wr5)
    have hn6 := fun tb W h => tnumber_any tb _ _ W (h : TkAt W tb ws6 wr6)
    have hn7 := fun tb W h => tnumber_any tb _ _ W (h : TkAt W tb ws7 wr7)
    rw [h0] at hw0; rw [h1] at hw1; rw [h2] at hw2; rw [h3] at hn3; rw [h4] at hn4; rw [h5] at hn5; rw [h6] at hn6; rw [h7] at hn7
    clear h0 h1 h2 h3 h4 h5 h6 h7 hl hcl hbs
    generalize Lib.hasSuffix x.data.toList [10] = en at hcs hLS
    have HLS := Lib.hid hLS
    clear hLS he hm hmW
    generalize bodyB x = bx at hcs hsp
    generalize hws0 : splitW x = ws0 at hsp ht0 hb0 hw0
    clear hws0
    obtain ⟨A, c, rfl⟩ := hrow.slice
    have hD : en = false ∨ (en = true ∧ (y0.toList == [110, 111, 100, 101]) = false) ∨ (en = true ∧ y0.toList = [110, 111, 100, 101] ∧ wr8 = true) ∨ (en = true ∧ y0.toList = [110, 111, 100, 101] ∧ wr8 = false ∧ 0 < ws8.length) ∨ (en = true ∧ y0.toList = [110, 111, 100, 101] ∧ wr8 = false ∧ ¬ 0 < ws8.length) := by
      cases en
      · exact .inl rfl
      · cases h : (y0.toList == [110, 111, 100, 101])
        · exact .inr (.inl ⟨rfl, rfl⟩)
        · have h := eq_of_beq h
          cases wr8
          · by_cases h4 : 0 < ws8.length
            · exact .inr (.inr (.inr (.inl ⟨rfl, h, rfl, h4⟩)))
            · exact .inr (.inr (.inr (.inr ⟨rfl, h, rfl, h4⟩)))
          · exact .inr (.inr (.inl ⟨rfl, h, rfl⟩))
    rcases hD with rfl | ⟨rfl, hd2⟩ | ⟨rfl, hd2, rfl⟩ | ⟨rfl, hd2, rfl, hd4⟩ | ⟨rfl, hd2, rfl, hd4⟩ <;> cases hd1 : (y2.toList == [45])
    -- case 0 '
    gi_wp2_with (first
      | (refine ⟨trivial, ?_⟩; gi_at_call 129; refine (CallsIn.inRound lp (callsIn_wide.2 hcs)).mono ?_; rintro e w0 ⟨rfl, rfl⟩)
      | (refine ⟨trivial, ?_⟩; gi_at_call 130; refine (CallsIn.inRound lp (callsIn_wide.2 hsp)).mono ?_; rintro e w0 ⟨rfl, rfl⟩)
      | (refine ⟨trivial, ?_⟩; gi_at_call 132; refine (CallsIn.inRound lp (callsIn_wide.2 (hw0 _ _ ht0))).mono ?_; rintro e w1 ⟨rfl, ht1, hg1⟩; have hb1 := below_grown1 hb0 hg1 (Nat.le_refl _) (Nat.le_succ _))
      | (refine ⟨trivial, ?_⟩; gi_at_call 132; refine (CallsIn.inRound lp (callsIn_wide.2 (hw1 _ _ ht1))).mono ?_; rintro e w2 ⟨rfl, ht2, hg2⟩; have hb2 := below_grown1 hb1 hg2 (Nat.le_refl _) (Nat.le_succ _); have hlt := ht2.lt; have bn2 := BoxC.new w2 125 #[.string y1, .string ⟨#[]⟩, .int .i64 0, .int .i64 0, .int .i64 0, .int .i64 0, .int .i64 0]; have ht2' := ht2.kept (World.grownBy_alloc w2 (.cells #[.string y1, .string ⟨#[]⟩, .int .i64 0, .int .i64 0, .int .i64 0, .int .i64 0, .int .i64 0] 125) none) (fun r e => by cases e); have hb2' := hb2.alloc hb2.size (.cells #[.string y1, .string ⟨#[]⟩, .int .i64 0, .int .i64 0, .int .i64 0, .int .i64 0, .int .i64 0] 125); have hsz2 := hb2.size)
      | (refine ⟨trivial, ?_⟩; gi_at_call 132; refine (CallsIn.inRound lp (callsIn_wide.2 (hw2 _ _ ht2'))).mono ?_; rintro e w3 ⟨rfl, ht3, hg3⟩; have hb3 := below_grown1 hb2' hg3 (Nat.le_refl _) (Nat.le_succ _); have bn3 := bn2.kept hg3 (fun e => by have := Option.some.inj e; omega); have fz3 := bn3.frozen; have bn3' : BoxC (w3.setCell ⟨w2.heap.size, 1, none⟩ (.string y2)) w2.heap.size 125 #[.string y1, .string y2, .int .i64 0, .int .i64 0, .int .i64 0, .int .i64 0, .int .i64 0] := bn3.setC 1 _; have c31 := bn3'.cell 1 _ rfl; have d31 := bn3.cell 1 _ rfl; have fz3' := bn3'.frozen; have ht3' := ht3.set w2.heap.size 1 (.string y2) hlt; have hb3' := hb3.setCell (p := ⟨w2.heap.size, 1, none⟩) hsz2 (.string y2); have bn3'' : BoxC ((w3.setCell ⟨w2.heap.size, 1, none⟩ (.string y2)).setCell ⟨w2.heap.size, 1, none⟩ (.string ⟨#[]⟩)) w2.heap.size 125 #[.string y1, .string ⟨#[]⟩, .int .i64 0, .int .i64 0, .int .i64 0, .int .i64 0, .int .i64 0] := bn3'.setC 1 _; have fz3'' := bn3''.frozen; have ht3'' := ht3'.set w2.heap.size 1 (.string ⟨#[]⟩) hlt; have hb3'' := hb3'.setCell (p := ⟨w2.heap.size, 1, none⟩) hsz2 (.string ⟨#[]⟩))
      | (refine ⟨trivial, ?_⟩; gi_at_call 131; refine (CallsIn.inRound lp (callsIn_wide.2 (hn3 _ _ ht3'))).mono ?_; rintro e w4 ⟨rfl, ht4, hg4⟩; have hb4 := below_grown1 hb3' hg4 (Nat.le_refl _) (Nat.le_succ _); have bn4 := bn3'.kept hg4 (fun e => by have := Option.some.inj e; omega); have fz4 := bn4.frozen; have d4 := bn4.cell 2 _ rfl; have bn4' : BoxC (w4.setCell ⟨w2.heap.size, 2, none⟩ (.int .i64 z3)) w2.heap.size 125 #[.string y1, .string y2, .int .i64 z3, .int .i64 0, .int .i64 0, .int .i64 0, .int .i64 0] := bn4.setC 2 _; have ht4' := ht4.set w2.heap.size 2 (.int .i64 z3) hlt; have hb4' := hb4.setCell (p := ⟨w2.heap.size, 2, none⟩) hsz2 (.int .i64 z3))
      | (refine ⟨trivial, ?_⟩; gi_at_call 131; refine (CallsIn.inRound lp (callsIn_wide.2 (hn4 _ _ ht4'))).mono ?_; rintro e w5 ⟨rfl, ht5, hg5⟩; have hb5 := below_grown1 hb4' hg5 (Nat.le_refl _) (Nat.le_succ _); have bn5 := bn4'.kept hg5 (fun e => by have := Option.some.inj e; omega); have fz5 := bn5.frozen; have d5 := bn5.cell 3 _ rfl; have bn5' : BoxC (w5.setCell ⟨w2.heap.size, 3, none⟩ (.int .i64 z4)) w2.heap.size 125 #[.string y1, .string y2, .int .i64 z3, .int .i64 z4, .int .i64 0, .int .i64 0, .int .i64 0] := bn5.setC 3 _; have ht5' := ht5.set w2.heap.size 3 (.int .i64 z4) hlt; have hb5' := hb5.setCell (p := ⟨w2.heap.size, 3, none⟩) hsz2 (.int .i64 z4))
      | (refine ⟨trivial, ?_⟩; gi_at_call 131; refine (CallsIn.inRound lp (callsIn_wide.2 (hn5 _ _ ht5'))).mono ?_; rintro e w6 ⟨rfl, ht6, hg6⟩; have hb6 := below_grown1 hb5' hg6 (Nat.le_refl _) (Nat.le_succ _); have bn6 := bn5'.kept hg6 (fun e => by have := Option.some.inj e; omega); have fz6 := bn6.frozen; have d6 := bn6.cell 4 _ rfl; have bn6' : BoxC (w6.setCell ⟨w2.heap.size, 4, none⟩ (.int .i64 z5)) w2.heap.size 125 #[.string y1, .string y2, .int .i64 z3, .int .i64 z4, .int .i64 z5, .int .i64 0, .int .i64 0] := bn6.setC 4 _; have ht6' := ht6.set w2.heap.size 4 (.int .i64 z5) hlt; have hb6' := hb6.setCell (p := ⟨w2.heap.size, 4, none⟩) hsz2 (.int .i64 z5))
      | (refine ⟨trivial, ?_⟩; gi_at_call 131; refine (CallsIn.inRound lp (callsIn_wide.2 (hn6 _ _ ht6'))).mono ?_; rintro e w7 ⟨rfl, ht7, hg7⟩; have hb7 := below_grown1 hb6' hg7 (Nat.le_refl _) (Nat.le_succ _); have bn7 := bn6'.kept hg7 (fun e => by have := Option.some.inj e; omega); have fz7 := bn7.frozen; have d7 := bn7.cell 5 _ rfl; have bn7' : BoxC (w7.setCell ⟨w2.heap.size, 5, none⟩ (.int .i64 z6)) w2.heap.size 125 #[.string y1, .string y2, .int .i64 z3, .int .i64 z4, .int .i64 z5, .int .i64 z6, .int .i64 0] := bn7.setC 5 _; have ht7' := ht7.set w2.heap.size 5 (.int .i64 z6) hlt; have hb7' := hb7.setCell (p := ⟨w2.heap.size, 5, none⟩) hsz2 (.int .i64 z6))
      | (refine ⟨trivial, ?_⟩; gi_at_call 131; refine (CallsIn.inRound lp (callsIn_wide.2 (hn7 _ _ ht7'))).mono ?_; rintro e w8 ⟨rfl, ht8, hg8⟩; have hb8 := below_grown1 hb7' hg8 (Nat.le_refl _) (Nat.le_succ _); have bn8 := bn7'.kept hg8 (fun e => by have := Option.some.inj e; omega); have fz8 := bn8.frozen; have d8 := bn8.cell 6 _ rfl; have bn8' : BoxC (w8.setCell ⟨w2.heap.size, 6, none⟩ (.int .i64 z7)) w2.heap.size 125 #[.string y1, .string y2, .int .i64 z3, .int .i64 z4, .int .i64 z5, .int .i64 z6, .int .i64 z7] := bn8.setC 6 _; have ht8' := ht8.set w2.heap.size 6 (.int .i64 z7) hlt; have hb8' := hb8.setCell (p := ⟨w2.heap.size, 6, none⟩) hsz2 (.int .i64 z7); obtain ⟨A8, c8, bt8, hc8, hm8, hr8⟩ := ht8'; have ct0 := bt8.cell 0 _ rfl; have ct1 := bt8.cell 1 _ rfl; have hvE := (hb8'.block _ hv.lt).trans hv; have hcv := Boxed.cell hvE; have hrow8 := hrow.ext hb8'; have c80 := bn8'.cell 0 _ rfl; have c81 := bn8'.cell 1 _ rfl; have c82 := bn8'.cell 2 _ rfl; have c83 := bn8'.cell 3 _ rfl; have c84 := bn8'.cell 4 _ rfl; have c85 := bn8'.cell 5 _ rfl; have c86 := bn8'.cell 6 _ rfl)
      | (gi_at_builtin; refine own_appendIn (w0 := W) rfl _ _ 29 _ 72 rfl Tryz.underlying29 infoN rfl (by decide) (by decide) encN_len _ (nodesL pre) ⟨y1, y2, z3, z4, z5, z6, z7⟩ _ rfl rfl (by rw [World.size_setCell]; rfl) (by simp [encN, Value.oneCell']) hrow8 (hb8'.mono hW5) (Nat.le_trans hW5 hb8'.size) (by omega) ?_; intro v1 w9 hown hbv hgv hnn; obtain ⟨hv1, hv2, hr2, hk2⟩ := boxed_app5 hvE (by decide) hrow8 hown hgv; obtain ⟨g', cap', rfl⟩ := ownsRow_succ (k := (nodesL pre).length) (by unfold Own at hown; simpa using hown); have hc1 := hv1.cell; have hf1 := hv1.frozen))
    have hvd : Boxed (w8.setCell ⟨w2.heap.size, 6, none⟩ (.int .i64 z7)).drew (w.heap.size + 1 + 1 + 1) 29 (.slice A (nodesL pre).length c) := hvE
    have r0 : Boxed (w8.setCell ⟨w2.heap.size, 6, none⟩ (.int .i64 z7)).drew w.heap.size 29 (.slice none 0 0) := (hb8'.block _ (by omega)).trans hI.r0
    have r1 : Boxed (w8.setCell ⟨w2.heap.size, 6, none⟩ (.int .i64 z7)).drew (w.heap.size + 1) 3 (.int .i64 0) := (hb8'.block _ (by omega)).trans hI.r1
    have r2 : Boxed (w8.setCell ⟨w2.heap.size, 6, none⟩ (.int .i64 z7)).drew (w.heap.size + 1 + 1) 26 (.int .i64 0) := (hb8'.block _ (by omega)).trans hI.r2
    obtain ⟨z, hz⟩ := hI.sb
    have r4 : Boxed (w8.setCell ⟨w2.heap.size, 6, none⟩ (.int .i64 z7)).drew (w.heap.size + 1 + 1 + 1 + 1) 9 z := (hb8'.block _ (by omega)).trans hz
    have hbl : Below w.heap.size w (w8.setCell ⟨w2.heap.size, 6, none⟩ (.int .i64 z7)).drew := (hI.below.trans (hb8'.mono (by omega))).drew
    have hkf : ∀ B, KeepsFrom B W (w8.setCell ⟨w2.heap.size, 6, none⟩ (.int .i64 z7)).drew := fun B => (KeepsFrom.ofBelow hb8').trans ((KeepsOthers.drew _).from _)
    have hlb : (lineS x).2 = true := by rw [HLS.out]; simp
    have hgd := hI.good
    refine wpIn_region_orders [[0, 1, 2, 3, 4], [0, 2, 1, 3, 4], [2, 0, 1, 3, 4]] (by kernel_rfl) (by kernel_rfl) ?_
    generalize (w8.setCell ⟨w2.heap.size, 6, none⟩ (.int .i64 z7)).drew = X at hvd r0 r1 r2 r4 hbl hkf ⊢
    clear hvE hb8' hcv hrow8 hI HLS
    have cv := hvd.cell
    have f0 := r0.frozen
    have k0 := r0.cell
    have v1 : Boxed (X.setCell ⟨w.heap.size, 0, none⟩ (.slice none 0 0)) (w.heap.size + 1 + 1 + 1) 29 (.slice A (nodesL pre).length c) := hvd.other (by omega) _
    have s0 : Boxed (X.setCell ⟨w.heap.size, 0, none⟩ (.slice none 0 0)) w.heap.size 29 (.slice none 0 0) := r0.set _
    have s1 : Boxed (X.setCell ⟨w.heap.size, 0, none⟩ (.slice none 0 0)) (w.heap.size + 1) 3 (.int .i64 0) := r1.other (by omega) _
    have s2 : Boxed (X.setCell ⟨w.heap.size, 0, none⟩ (.slice none 0 0)) (w.heap.size + 1 + 1) 26 (.int .i64 0) := r2.other (by omega) _
    have cv1 := v1.cell
    have f1 := s1.frozen
    have k1 := s1.cell
    have t0 : Boxed ((X.setCell ⟨w.heap.size, 0, none⟩ (.slice none 0 0)).setCell ⟨w.heap.size + 1, 0, none⟩ (.int .i64 (nodesL pre).length)) w.heap.size 29 (.slice none 0 0) := s0.other (by omega) _
    have t1 : Boxed ((X.setCell ⟨w.heap.size, 0, none⟩ (.slice none 0 0)).setCell ⟨w.heap.size + 1, 0, none⟩ (.int .i64 (nodesL pre).length)) (w.heap.size + 1) 3 (.int .i64 (nodesL pre).length) := s1.set _
    have t2 : Boxed ((X.setCell ⟨w.heap.size, 0, none⟩ (.slice none 0 0)).setCell ⟨w.heap.size + 1, 0, none⟩ (.int .i64 (nodesL pre).length)) (w.heap.size + 1 + 1) 26 (.int .i64 0) := s2.other (by omega) _
    have f2 := t2.frozen
    have k2 := t2.cell
    have hend : (∀ B, KeepsFrom B W (((X.setCell ⟨w.heap.size, 0, none⟩ (.slice none 0 0)).setCell ⟨w.heap.size + 1, 0, none⟩ (.int .i64 (nodesL pre).length)).setCell ⟨w.heap.size + 1 + 1, 0, none⟩ (.int .i64 25))) ∧ PsX w.heap.size w (pre ++ [x]) (((X.setCell ⟨w.heap.size, 0, none⟩ (.slice none 0 0)).setCell ⟨w.heap.size + 1, 0, none⟩ (.int .i64 (nodesL pre).length)).setCell ⟨w.heap.size + 1 + 1, 0, none⟩ (.int .i64 25)) :=
      ⟨fun B => (hkf B).trans ((((KeepsOthers.setCell _ _ _).trans (KeepsOthers.setCell _ _ _)).trans (KeepsOthers.setCell _ _ _)).from _), ⟨pre, x, rfl, hgd, hlb, t1.other (by omega) _⟩, t0.other (by omega) _, t2.set _, ⟨z, ((r4.other (by omega) _).other (by omega) _).other (by omega) _⟩, (((hbl.setCell (p := ⟨w.heap.size, 0, none⟩) (Nat.le_refl _) _).setCell (p := ⟨w.heap.size + 1, 0, none⟩) (by simp only; omega) _).setCell (p := ⟨w.heap.size + 1 + 1, 0, none⟩) (by simp only; omega) _)⟩
    clear r0 r1 r2 r4 s0 s1 s2 t0 t1 t2 hvd v1 hbl hkf
    have HE := Lib.hid hend
    clear hend
    intro o ho
    simp only [List.mem_cons, List.not_mem_nil, or_false] at ho
    rcases ho with rfl | rfl | rfl <;> (simp only [List.filterMap_cons, opAt, List.filterMap_nil]; gi_wp2; exact ⟨HE.out.1 _, rfl, HE.out.2⟩)
    -- case 0 ''
    gi_wp2_with (first
      | (refine ⟨trivial, ?_⟩; gi_at_call 129; refine (CallsIn.inRound lp (callsIn_wide.2 hcs)).mono ?_; rintro e w0 ⟨rfl, rfl⟩)
      | (refine ⟨trivial, ?_⟩; gi_at_call 130; refine (CallsIn.inRound lp (callsIn_wide.2 hsp)).mono ?_; rintro e w0 ⟨rfl, rfl⟩)
      | (refine ⟨trivial, ?_⟩; gi_at_call 132; refine (CallsIn.inRound lp (callsIn_wide.2 (hw0 _ _ ht0))).mono ?_; rintro e w1 ⟨rfl, ht1, hg1⟩; have hb1 := below_grown1 hb0 hg1 (Nat.le_refl _) (Nat.le_succ _))
      | (refine ⟨trivial, ?_⟩; gi_at_call 132; refine (CallsIn.inRound lp (callsIn_wide.2 (hw1 _ _ ht1))).mono ?_; rintro e w2 ⟨rfl, ht2, hg2⟩; have hb2 := below_grown1 hb1 hg2 (Nat.le_refl _) (Nat.le_succ _); have hlt := ht2.lt; have bn2 := BoxC.new w2 125 #[.string y1, .string ⟨#[]⟩, .int .i64 0, .int .i64 0, .int .i64 0, .int .i64 0, .int .i64 0]; have ht2' := ht2.kept (World.grownBy_alloc w2 (.cells #[.string y1, .string ⟨#[]⟩, .int .i64 0, .int .i64 0, .int .i64 0, .int .i64 0, .int .i64 0] 125) none) (fun r e => by cases e); have hb2' := hb2.alloc hb2.size (.cells #[.string y1, .string ⟨#[]⟩, .int .i64 0, .int .i64 0, .int .i64 0, .int .i64 0, .int .i64 0] 125); have hsz2 := hb2.size)
      | (refine ⟨trivial, ?_⟩; gi_at_call 132; refine (CallsIn.inRound lp (callsIn_wide.2 (hw2 _ _ ht2'))).mono ?_; rintro e w3 ⟨rfl, ht3, hg3⟩; have hb3 := below_grown1 hb2' hg3 (Nat.le_refl _) (Nat.le_succ _); have bn3 := bn2.kept hg3 (fun e => by have := Option.some.inj e; omega); have fz3 := bn3.frozen; have bn3' : BoxC (w3.setCell ⟨w2.heap.size, 1, none⟩ (.string y2)) w2.heap.size 125 #[.string y1, .string y2, .int .i64 0, .int .i64 0, .int .i64 0, .int .i64 0, .int .i64 0] := bn3.setC 1 _; have c31 := bn3'.cell 1 _ rfl; have d31 := bn3.cell 1 _ rfl; have fz3' := bn3'.frozen; have ht3' := ht3.set w2.heap.size 1 (.string y2) hlt; have hb3' := hb3.setCell (p := ⟨w2.heap.size, 1, none⟩) hsz2 (.string y2); have bn3'' : BoxC ((w3.setCell ⟨w2.heap.size, 1, none⟩ (.string y2)).setCell ⟨w2.heap.size, 1, none⟩ (.string ⟨#[]⟩)) w2.heap.size 125 #[.string y1, .string ⟨#[]⟩, .int .i64 0, .int .i64 0, .int .i64 0, .int .i64 0, .int .i64 0] := bn3'.setC 1 _; have fz3'' := bn3''.frozen; have ht3'' := ht3'.set w2.heap.size 1 (.string ⟨#[]⟩) hlt; have hb3'' := hb3'.setCell (p := ⟨w2.heap.size, 1, none⟩) hsz2 (.string ⟨#[]⟩))
      | (refine ⟨trivial, ?_⟩; gi_at_call 131; refine (CallsIn.inRound lp (callsIn_wide.2 (hn3 _ _ ht3''))).mono ?_; rintro e w4 ⟨rfl, ht4, hg4⟩; have hb4 := below_grown1 hb3'' hg4 (Nat.le_refl _) (Nat.le_succ _); have bn4 := bn3''.kept hg4 (fun e => by have := Option.some.inj e; omega); have fz4 := bn4.frozen; have d4 := bn4.cell 2 _ rfl; have bn4' : BoxC (w4.setCell ⟨w2.heap.size, 2, none⟩ (.int .i64 z3)) w2.heap.size 125 #[.string y1, .string ⟨#[]⟩, .int .i64 z3, .int .i64 0, .int .i64 0, .int .i64 0, .int .i64 0] := bn4.setC 2 _; have ht4' := ht4.set w2.heap.size 2 (.int .i64 z3) hlt; have hb4' := hb4.setCell (p := ⟨w2.heap.size, 2, none⟩) hsz2 (.int .i64 z3))
      | (refine ⟨trivial, ?_⟩; gi_at_call 131; refine (CallsIn.inRound lp (callsIn_wide.2 (hn4 _ _ ht4'))).mono ?_; rintro e w5 ⟨rfl, ht5, hg5⟩; have hb5 := below_grown1 hb4' hg5 (Nat.le_refl _) (Nat.le_succ _); have bn5 := bn4'.kept hg5 (fun e => by have := Option.some.inj e; omega); have fz5 := bn5.frozen; have d5 := bn5.cell 3 _ rfl; have bn5' : BoxC (w5.setCell ⟨w2.heap.size, 3, none⟩ (.int .i64 z4)) w2.heap.size 125 #[.string y1, .string ⟨#[]⟩, .int .i64 z3, .int .i64 z4, .int .i64 0, .int .i64 0, .int .i64 0] := bn5.setC 3 _; have ht5' := ht5.set w2.heap.size 3 (.int .i64 z4) hlt; have hb5' := hb5.setCell (p := ⟨w2.heap.size, 3, none⟩) hsz2 (.int .i64 z4))
      | (refine ⟨trivial, ?_⟩; gi_at_call 131; refine (CallsIn.inRound lp (callsIn_wide.2 (hn5 _ _ ht5'))).mono ?_; rintro e w6 ⟨rfl, ht6, hg6⟩; have hb6 := below_grown1 hb5' hg6 (Nat.le_refl _) (Nat.le_succ _); have bn6 := bn5'.kept hg6 (fun e => by have := Option.some.inj e; omega); have fz6 := bn6.frozen; have d6 := bn6.cell 4 _ rfl; have bn6' : BoxC (w6.setCell ⟨w2.heap.size, 4, none⟩ (.int .i64 z5)) w2.heap.size 125 #[.string y1, .string ⟨#[]⟩, .int .i64 z3, .int .i64 z4, .int .i64 z5, .int .i64 0, .int .i64 0] := bn6.setC 4 _; have ht6' := ht6.set w2.heap.size 4 (.int .i64 z5) hlt; have hb6' := hb6.setCell (p := ⟨w2.heap.size, 4, none⟩) hsz2 (.int .i64 z5))
      | (refine ⟨trivial, ?_⟩; gi_at_call 131; refine (CallsIn.inRound lp (callsIn_wide.2 (hn6 _ _ ht6'))).mono ?_; rintro e w7 ⟨rfl, ht7, hg7⟩; have hb7 := below_grown1 hb6' hg7 (Nat.le_refl _) (Nat.le_succ _); have bn7 := bn6'.kept hg7 (fun e => by have := Option.some.inj e; omega); have fz7 := bn7.frozen; have d7 := bn7.cell 5 _ rfl; have bn7' : BoxC (w7.setCell ⟨w2.heap.size, 5, none⟩ (.int .i64 z6)) w2.heap.size 125 #[.string y1, .string ⟨#[]⟩, .int .i64 z3, .int .i64 z4, .int .i64 z5, .int .i64 z6, .int .i64 0] := bn7.setC 5 _; have ht7' := ht7.set w2.heap.size 5 (.int .i64 z6) hlt; have hb7' := hb7.setCell (p := ⟨w2.heap.size, 5, none⟩) hsz2 (.int .i64 z6))
      | (refine ⟨trivial, ?_⟩; gi_at_call 131; refine (CallsIn.inRound lp (callsIn_wide.2 (hn7 _ _ ht7'))).mono ?_; rintro e w8 ⟨rfl, ht8, hg8⟩; have hb8 := below_grown1 hb7' hg8 (Nat.le_refl _) (Nat.le_succ _); have bn8 := bn7'.kept hg8 (fun e => by have := Option.some.inj e; omega); have fz8 := bn8.frozen; have d8 := bn8.cell 6 _ rfl; have bn8' : BoxC (w8.setCell ⟨w2.heap.size, 6, none⟩ (.int .i64 z7)) w2.heap.size 125 #[.string y1, .string ⟨#[]⟩, .int .i64 z3, .int .i64 z4, .int .i64 z5, .int .i64 z6, .int .i64 z7] := bn8.setC 6 _; have ht8' := ht8.set w2.heap.size 6 (.int .i64 z7) hlt; have hb8' := hb8.setCell (p := ⟨w2.heap.size, 6, none⟩) hsz2 (.int .i64 z7); obtain ⟨A8, c8, bt8, hc8, hm8, hr8⟩ := ht8'; have ct0 := bt8.cell 0 _ rfl; have ct1 := bt8.cell 1 _ rfl; have hvE := (hb8'.block _ hv.lt).trans hv; have hcv := Boxed.cell hvE; have hrow8 := hrow.ext hb8'; have c80 := bn8'.cell 0 _ rfl; have c81 := bn8'.cell 1 _ rfl; have c82 := bn8'.cell 2 _ rfl; have c83 := bn8'.cell 3 _ rfl; have c84 := bn8'.cell 4 _ rfl; have c85 := bn8'.cell 5 _ rfl; have c86 := bn8'.cell 6 _ rfl)
      | (gi_at_builtin; refine own_appendIn (w0 := W) rfl _ _ 29 _ 72 rfl Tryz.underlying29 infoN rfl (by decide) (by decide) encN_len _ (nodesL pre) ⟨y1, ⟨#[]⟩, z3, z4, z5, z6, z7⟩ _ rfl rfl (by rw [World.size_setCell]; rfl) (by simp [encN, Value.oneCell']) hrow8 (hb8'.mono hW5) (Nat.le_trans hW5 hb8'.size) (by omega) ?_; intro v1 w9 hown hbv hgv hnn; obtain ⟨hv1, hv2, hr2, hk2⟩ := boxed_app5 hvE (by decide) hrow8 hown hgv; obtain ⟨g', cap', rfl⟩ := ownsRow_succ (k := (nodesL pre).length) (by unfold Own at hown; simpa using hown); have hc1 := hv1.cell; have hf1 := hv1.frozen))
    have hvd : Boxed (w8.setCell ⟨w2.heap.size, 6, none⟩ (.int .i64 z7)).drew (w.heap.size + 1 + 1 + 1) 29 (.slice A (nodesL pre).length c) := hvE
    have r0 : Boxed (w8.setCell ⟨w2.heap.size, 6, none⟩ (.int .i64 z7)).drew w.heap.size 29 (.slice none 0 0) := (hb8'.block _ (by omega)).trans hI.r0
    have r1 : Boxed (w8.setCell ⟨w2.heap.size, 6, none⟩ (.int .i64 z7)).drew (w.heap.size + 1) 3 (.int .i64 0) := (hb8'.block _ (by omega)).trans hI.r1
    have r2 : Boxed (w8.setCell ⟨w2.heap.size, 6, none⟩ (.int .i64 z7)).drew (w.heap.size + 1 + 1) 26 (.int .i64 0) := (hb8'.block _ (by omega)).trans hI.r2
    obtain ⟨z, hz⟩ := hI.sb
    have r4 : Boxed (w8.setCell ⟨w2.heap.size, 6, none⟩ (.int .i64 z7)).drew (w.heap.size + 1 + 1 + 1 + 1) 9 z := (hb8'.block _ (by omega)).trans hz
    have hbl : Below w.heap.size w (w8.setCell ⟨w2.heap.size, 6, none⟩ (.int .i64 z7)).drew := (hI.below.trans (hb8'.mono (by omega))).drew
    have hkf : ∀ B, KeepsFrom B W (w8.setCell ⟨w2.heap.size, 6, none⟩ (.int .i64 z7)).drew := fun B => (KeepsFrom.ofBelow hb8').trans ((KeepsOthers.drew _).from _)
    have hlb : (lineS x).2 = true := by rw [HLS.out]; simp
    have hgd := hI.good
    refine wpIn_region_orders [[0, 1, 2, 3, 4], [0, 2, 1, 3, 4], [2, 0, 1, 3, 4]] (by kernel_rfl) (by kernel_rfl) ?_
    generalize (w8.setCell ⟨w2.heap.size, 6, none⟩ (.int .i64 z7)).drew = X at hvd r0 r1 r2 r4 hbl hkf ⊢
    clear hvE hb8' hcv hrow8 hI HLS
    have cv := hvd.cell
    have f0 := r0.frozen
    have k0 := r0.cell
    have v1 : Boxed (X.setCell ⟨w.heap.size, 0, none⟩ (.slice none 0 0)) (w.heap.size + 1 + 1 + 1) 29 (.slice A (nodesL pre).length c) := hvd.other (by omega) _
    have s0 : Boxed (X.setCell ⟨w.heap.size, 0, none⟩ (.slice none 0 0)) w.heap.size 29 (.slice none 0 0) := r0.set _
    have s1 : Boxed (X.setCell ⟨w.heap.size, 0, none⟩ (.slice none 0 0)) (w.heap.size + 1) 3 (.int .i64 0) := r1.other (by omega) _
    have s2 : Boxed (X.setCell ⟨w.heap.size, 0, none⟩ (.slice none 0 0)) (w.heap.size + 1 + 1) 26 (.int .i64 0) := r2.other (by omega) _
    have cv1 := v1.cell
    have f1 := s1.frozen
    have k1 := s1.cell
    have t0 : Boxed ((X.setCell ⟨w.heap.size, 0, none⟩ (.slice none 0 0)).setCell ⟨w.heap.size + 1, 0, none⟩ (.int .i64 (nodesL pre).length)) w.heap.size 29 (.slice none 0 0) := s0.other (by omega) _
    have t1 : Boxed ((X.setCell ⟨w.heap.size, 0, none⟩ (.slice none 0 0)).setCell ⟨w.heap.size + 1, 0, none⟩ (.int .i64 (nodesL pre).length)) (w.heap.size + 1) 3 (.int .i64 (nodesL pre).length) := s1.set _
    have t2 : Boxed ((X.setCell ⟨w.heap.size, 0, none⟩ (.slice none 0 0)).setCell ⟨w.heap.size + 1, 0, none⟩ (.int .i64 (nodesL pre).length)) (w.heap.size + 1 + 1) 26 (.int .i64 0) := s2.other (by omega) _
    have f2 := t2.frozen
    have k2 := t2.cell
    have hend : (∀ B, KeepsFrom B W (((X.setCell ⟨w.heap.size, 0, none⟩ (.slice none 0 0)).setCell ⟨w.heap.size + 1, 0, none⟩ (.int .i64 (nodesL pre).length)).setCell ⟨w.heap.size + 1 + 1, 0, none⟩ (.int .i64 25))) ∧ PsX w.heap.size w (pre ++ [x]) (((X.setCell ⟨w.heap.size, 0, none⟩ (.slice none 0 0)).setCell ⟨w.heap.size + 1, 0, none⟩ (.int .i64 (nodesL pre).length)).setCell ⟨w.heap.size + 1 + 1, 0, none⟩ (.int .i64 25)) :=
      ⟨fun B => (hkf B).trans ((((KeepsOthers.setCell _ _ _).trans (KeepsOthers.setCell _ _ _)).trans (KeepsOthers.setCell _ _ _)).from _), ⟨pre, x, rfl, hgd, hlb, t1.other (by omega) _⟩, t0.other (by omega) _, t2.set _, ⟨z, ((r4.other (by omega) _).other (by omega) _).other (by omega) _⟩, (((hbl.setCell (p := ⟨w.heap.size, 0, none⟩) (Nat.le_refl _) _).setCell (p := ⟨w.heap.size + 1, 0, none⟩) (by simp only; omega) _).setCell (p := ⟨w.heap.size + 1 + 1, 0, none⟩) (by simp only; omega) _)⟩
    clear r0 r1 r2 r4 s0 s1 s2 t0 t1 t2 hvd v1 hbl hkf
    have HE := Lib.hid hend
    clear hend
    intro o ho
    simp only [List.mem_cons, List.not_mem_nil, or_false] at ho
    rcases ho with rfl | rfl | rfl <;> (simp only [List.filterMap_cons, opAt, List.filterMap_nil]; gi_wp2; exact ⟨HE.out.1 _, rfl, HE.out.2⟩)
    -- case 1 '
    gi_wp2_with (first
      | (refine ⟨trivial, ?_⟩; gi_at_call 129; refine (CallsIn.inRound lp (callsIn_wide.2 hcs)).mono ?_; rintro e w0 ⟨rfl, rfl⟩)
      | (refine ⟨trivial, ?_⟩; gi_at_call 130; refine (CallsIn.inRound lp (callsIn_wide.2 hsp)).mono ?_; rintro e w0 ⟨rfl, rfl⟩)
      | (refine ⟨trivial, ?_⟩; gi_at_call 132; refine (CallsIn.inRound lp (callsIn_wide.2 (hw0 _ _ ht0))).mono ?_; rintro e w1 ⟨rfl, ht1, hg1⟩; have hb1 := below_grown1 hb0 hg1 (Nat.le_refl _) (Nat.le_succ _))
      | (refine ⟨trivial, ?_⟩; gi_at_call 132; refine (CallsIn.inRound lp (callsIn_wide.2 (hw1 _ _ ht1))).mono ?_; rintro e w2 ⟨rfl, ht2, hg2⟩; have hb2 := below_grown1 hb1 hg2 (Nat.le_refl _) (Nat.le_succ _); have hlt := ht2.lt; have bn2 := BoxC.new w2 125 #[.string y1, .string ⟨#[]⟩, .int .i64 0, .int .i64 0, .int .i64 0, .int .i64 0, .int .i64 0]; have ht2' := ht2.kept (World.grownBy_alloc w2 (.cells #[.string y1, .string ⟨#[]⟩, .int .i64 0, .int .i64 0, .int .i64 0, .int .i64 0, .int .i64 0] 125) none) (fun r e => by cases e); have hb2' := hb2.alloc hb2.size (.cells #[.string y1, .string ⟨#[]⟩, .int .i64 0, .int .i64 0, .int .i64 0, .int .i64 0, .int .i64 0] 125); have hsz2 := hb2.size)
      | (refine ⟨trivial, ?_⟩; gi_at_call 132; refine (CallsIn.inRound lp (callsIn_wide.2 (hw2 _ _ ht2'))).mono ?_; rintro e w3 ⟨rfl, ht3, hg3⟩; have hb3 := below_grown1 hb2' hg3 (Nat.le_refl _) (Nat.le_succ _); have bn3 := bn2.kept hg3 (fun e => by have := Option.some.inj e; omega); have fz3 := bn3.frozen; have bn3' : BoxC (w3.setCell ⟨w2.heap.size, 1, none⟩ (.string y2)) w2.heap.size 125 #[.string y1, .string y2, .int .i64 0, .int .i64 0, .int .i64 0, .int .i64 0, .int .i64 0] := bn3.setC 1 _; have c31 := bn3'.cell 1 _ rfl; have d31 := bn3.cell 1 _ rfl; have fz3' := bn3'.frozen; have ht3' := ht3.set w2.heap.size 1 (.string y2) hlt; have hb3' := hb3.setCell (p := ⟨w2.heap.size, 1, none⟩) hsz2 (.string y2); have bn3'' : BoxC ((w3.setCell ⟨w2.heap.size, 1, none⟩ (.string y2)).setCell ⟨w2.heap.size, 1, none⟩ (.string ⟨#[]⟩)) w2.heap.size 125 #[.string y1, .string ⟨#[]⟩, .int .i64 0, .int .i64 0, .int .i64 0, .int .i64 0, .int .i64 0] := bn3'.setC 1 _; have fz3'' := bn3''.frozen; have ht3'' := ht3'.set w2.heap.size 1 (.string ⟨#[]⟩) hlt; have hb3'' := hb3'.setCell (p := ⟨w2.heap.size, 1, none⟩) hsz2 (.string ⟨#[]⟩))
      | (refine ⟨trivial, ?_⟩; gi_at_call 131; refine (CallsIn.inRound lp (callsIn_wide.2 (hn3 _ _ ht3'))).mono ?_; rintro e w4 ⟨rfl, ht4, hg4⟩; have hb4 := below_grown1 hb3' hg4 (Nat.le_refl _) (Nat.le_succ _); have bn4 := bn3'.kept hg4 (fun e => by have := Option.some.inj e; omega); have fz4 := bn4.frozen; have d4 := bn4.cell 2 _ rfl; have bn4' : BoxC (w4.setCell ⟨w2.heap.size, 2, none⟩ (.int .i64 z3)) w2.heap.size 125 #[.string y1, .string y2, .int .i64 z3, .int .i64 0, .int .i64 0, .int .i64 0, .int .i64 0] := bn4.setC 2 _; have ht4' := ht4.set w2.heap.size 2 (.int .i64 z3) hlt; have hb4' := hb4.setCell (p := ⟨w2.heap.size, 2, none⟩) hsz2 (.int .i64 z3))
      | (refine ⟨trivial, ?_⟩; gi_at_call 131; refine (CallsIn.inRound lp (callsIn_wide.2 (hn4 _ _ ht4'))).mono ?_; rintro e w5 ⟨rfl, ht5, hg5⟩; have hb5 := below_grown1 hb4' hg5 (Nat.le_refl _) (Nat.le_succ _); have bn5 := bn4'.kept hg5 (fun e => by have := Option.some.inj e; omega); have fz5 := bn5.frozen; have d5 := bn5.cell 3 _ rfl; have bn5' : BoxC (w5.setCell ⟨w2.heap.size, 3, none⟩ (.int .i64 z4)) w2.heap.size 125 #[.string y1, .string y2, .int .i64 z3, .int .i64 z4, .int .i64 0, .int .i64 0, .int .i64 0] := bn5.setC 3 _; have ht5' := ht5.set w2.heap.size 3 (.int .i64 z4) hlt; have hb5' := hb5.setCell (p := ⟨w2.heap.size, 3, none⟩) hsz2 (.int .i64 z4))
      | (refine ⟨trivial, ?_⟩; gi_at_call 131; refine (CallsIn.inRound lp (callsIn_wide.2 (hn5 _ _ ht5'))).mono ?_; rintro e w6 ⟨rfl, ht6, hg6⟩; have hb6 := below_grown1 hb5' hg6 (Nat.le_refl _) (Nat.le_succ _); have bn6 := bn5'.kept hg6 (fun e => by have := Option.some.inj e; omega); have fz6 := bn6.frozen; have d6 := bn6.cell 4 _ rfl; have bn6' : BoxC (w6.setCell ⟨w2.heap.size, 4, none⟩ (.int .i64 z5)) w2.heap.size 125 #[.string y1, .string y2, .int .i64 z3, .int .i64 z4, .int .i64 z5, .int .i64 0, .int .i64 0] := bn6.setC 4 _; have ht6' := ht6.set w2.heap.size 4 (.int .i64 z5) hlt; have hb6' := hb6.setCell (p := ⟨w2.heap.size, 4, none⟩) hsz2 (.int .i64 z5))
      | (refine ⟨trivial, ?_⟩; gi_at_call 131; refine (CallsIn.inRound lp (callsIn_wide.2 (hn6 _ _ ht6'))).mono ?_; rintro e w7 ⟨rfl, ht7, hg7⟩; have hb7 := below_grown1 hb6' hg7 (Nat.le_refl _) (Nat.le_succ _); have bn7 := bn6'.kept hg7 (fun e => by have := Option.some.inj e; omega); have fz7 := bn7.frozen; have d7 := bn7.cell 5 _ rfl; have bn7' : BoxC (w7.setCell ⟨w2.heap.size, 5, none⟩ (.int .i64 z6)) w2.heap.size 125 #[.string y1, .string y2, .int .i64 z3, .int .i64 z4, .int .i64 z5, .int .i64 z6, .int .i64 0] := bn7.setC 5 _; have ht7' := ht7.set w2.heap.size 5 (.int .i64 z6) hlt; have hb7' := hb7.setCell (p := ⟨w2.heap.size, 5, none⟩) hsz2 (.int .i64 z6))
      | (refine ⟨trivial, ?_⟩; gi_at_call 131; refine (CallsIn.inRound lp (callsIn_wide.2 (hn7 _ _ ht7'))).mono ?_; rintro e w8 ⟨rfl, ht8, hg8⟩; have hb8 := below_grown1 hb7' hg8 (Nat.le_refl _) (Nat.le_succ _); have bn8 := bn7'.kept hg8 (fun e => by have := Option.some.inj e; omega); have fz8 := bn8.frozen; have d8 := bn8.cell 6 _ rfl; have bn8' : BoxC (w8.setCell ⟨w2.heap.size, 6, none⟩ (.int .i64 z7)) w2.heap.size 125 #[.string y1, .string y2, .int .i64 z3, .int .i64 z4, .int .i64 z5, .int .i64 z6, .int .i64 z7] := bn8.setC 6 _; have ht8' := ht8.set w2.heap.size 6 (.int .i64 z7) hlt; have hb8' := hb8.setCell (p := ⟨w2.heap.size, 6, none⟩) hsz2 (.int .i64 z7); obtain ⟨A8, c8, bt8, hc8, hm8, hr8⟩ := ht8'; have ct0 := bt8.cell 0 _ rfl; have ct1 := bt8.cell 1 _ rfl; have hvE := (hb8'.block _ hv.lt).trans hv; have hcv := Boxed.cell hvE; have hrow8 := hrow.ext hb8'; have c80 := bn8'.cell 0 _ rfl; have c81 := bn8'.cell 1 _ rfl; have c82 := bn8'.cell 2 _ rfl; have c83 := bn8'.cell 3 _ rfl; have c84 := bn8'.cell 4 _ rfl; have c85 := bn8'.cell 5 _ rfl; have c86 := bn8'.cell 6 _ rfl)
      | (gi_at_builtin; refine own_appendIn (w0 := W) rfl _ _ 29 _ 72 rfl Tryz.underlying29 infoN rfl (by decide) (by decide) encN_len _ (nodesL pre) ⟨y1, y2, z3, z4, z5, z6, z7⟩ _ rfl rfl (by rw [World.size_setCell]; rfl) (by simp [encN, Value.oneCell']) hrow8 (hb8'.mono hW5) (Nat.le_trans hW5 hb8'.size) (by omega) ?_; intro v1 w9 hown hbv hgv hnn; obtain ⟨hv1, hv2, hr2, hk2⟩ := boxed_app5 hvE (by decide) hrow8 hown hgv; obtain ⟨g', cap', rfl⟩ := ownsRow_succ (k := (nodesL pre).length) (by unfold Own at hown; simpa using hown); have hc1 := hv1.cell; have hf1 := hv1.frozen))
    have hvd : Boxed (w8.setCell ⟨w2.heap.size, 6, none⟩ (.int .i64 z7)).drew (w.heap.size + 1 + 1 + 1) 29 (.slice A (nodesL pre).length c) := hvE
    have r0 : Boxed (w8.setCell ⟨w2.heap.size, 6, none⟩ (.int .i64 z7)).drew w.heap.size 29 (.slice none 0 0) := (hb8'.block _ (by omega)).trans hI.r0
    have r1 : Boxed (w8.setCell ⟨w2.heap.size, 6, none⟩ (.int .i64 z7)).drew (w.heap.size + 1) 3 (.int .i64 0) := (hb8'.block _ (by omega)).trans hI.r1
    have r2 : Boxed (w8.setCell ⟨w2.heap.size, 6, none⟩ (.int .i64 z7)).drew (w.heap.size + 1 + 1) 26 (.int .i64 0) := (hb8'.block _ (by omega)).trans hI.r2
    obtain ⟨z, hz⟩ := hI.sb
    have r4 : Boxed (w8.setCell ⟨w2.heap.size, 6, none⟩ (.int .i64 z7)).drew (w.heap.size + 1 + 1 + 1 + 1) 9 z := (hb8'.block _ (by omega)).trans hz
    have hbl : Below w.heap.size w (w8.setCell ⟨w2.heap.size, 6, none⟩ (.int .i64 z7)).drew := (hI.below.trans (hb8'.mono (by omega))).drew
    have hkf : ∀ B, KeepsFrom B W (w8.setCell ⟨w2.heap.size, 6, none⟩ (.int .i64 z7)).drew := fun B => (KeepsFrom.ofBelow hb8').trans ((KeepsOthers.drew _).from _)
    have hlb : (lineS x).2 = true := by rw [HLS.out]; simp [hd2]
    have hgd := hI.good
    refine wpIn_region_orders [[0, 1, 2, 3, 4], [0, 2, 1, 3, 4], [2, 0, 1, 3, 4]] (by kernel_rfl) (by kernel_rfl) ?_
    generalize (w8.setCell ⟨w2.heap.size, 6, none⟩ (.int .i64 z7)).drew = X at hvd r0 r1 r2 r4 hbl hkf ⊢
    clear hvE hb8' hcv hrow8 hI HLS
    have cv := hvd.cell
    have f0 := r0.frozen
    have k0 := r0.cell
    have v1 : Boxed (X.setCell ⟨w.heap.size, 0, none⟩ (.slice none 0 0)) (w.heap.size + 1 + 1 + 1) 29 (.slice A (nodesL pre).length c) := hvd.other (by omega) _
    have s0 : Boxed (X.setCell ⟨w.heap.size, 0, none⟩ (.slice none 0 0)) w.heap.size 29 (.slice none 0 0) := r0.set _
    have s1 : Boxed (X.setCell ⟨w.heap.size, 0, none⟩ (.slice none 0 0)) (w.heap.size + 1) 3 (.int .i64 0) := r1.other (by omega) _
    have s2 : Boxed (X.setCell ⟨w.heap.size, 0, none⟩ (.slice none 0 0)) (w.heap.size + 1 + 1) 26 (.int .i64 0) := r2.other (by omega) _
    have cv1 := v1.cell
    have f1 := s1.frozen
    have k1 := s1.cell
    have t0 : Boxed ((X.setCell ⟨w.heap.size, 0, none⟩ (.slice none 0 0)).setCell ⟨w.heap.size + 1, 0, none⟩ (.int .i64 (nodesL pre).length)) w.heap.size 29 (.slice none 0 0) := s0.other (by omega) _
    have t1 : Boxed ((X.setCell ⟨w.heap.size, 0, none⟩ (.slice none 0 0)).setCell ⟨w.heap.size + 1, 0, none⟩ (.int .i64 (nodesL pre).length)) (w.heap.size + 1) 3 (.int .i64 (nodesL pre).length) := s1.set _
    have t2 : Boxed ((X.setCell ⟨w.heap.size, 0, none⟩ (.slice none 0 0)).setCell ⟨w.heap.size + 1, 0, none⟩ (.int .i64 (nodesL pre).length)) (w.heap.size + 1 + 1) 26 (.int .i64 0) := s2.other (by omega) _
    have f2 := t2.frozen
    have k2 := t2.cell
    have hend : (∀ B, KeepsFrom B W (((X.setCell ⟨w.heap.size, 0, none⟩ (.slice none 0 0)).setCell ⟨w.heap.size + 1, 0, none⟩ (.int .i64 (nodesL pre).length)).setCell ⟨w.heap.size + 1 + 1, 0, none⟩ (.int .i64 25))) ∧ PsX w.heap.size w (pre ++ [x]) (((X.setCell ⟨w.heap.size, 0, none⟩ (.slice none 0 0)).setCell ⟨w.heap.size + 1, 0, none⟩ (.int .i64 (nodesL pre).length)).setCell ⟨w.heap.size + 1 + 1, 0, none⟩ (.int .i64 25)) :=
      ⟨fun B => (hkf B).trans ((((KeepsOthers.setCell _ _ _).trans (KeepsOthers.setCell _ _ _)).trans (KeepsOthers.setCell _ _ _)).from _), ⟨pre, x, rfl, hgd, hlb, t1.other (by omega) _⟩, t0.other (by omega) _, t2.set _, ⟨z, ((r4.other (by omega) _).other (by omega) _).other (by omega) _⟩, (((hbl.setCell (p := ⟨w.heap.size, 0, none⟩) (Nat.le_refl _) _).setCell (p := ⟨w.heap.size + 1, 0, none⟩) (by simp only; omega) _).setCell (p := ⟨w.heap.size + 1 + 1, 0, none⟩) (by simp only; omega) _)⟩
    clear r0 r1 r2 r4 s0 s1 s2 t0 t1 t2 hvd v1 hbl hkf
    have HE := Lib.hid hend
    clear hend
    intro o ho
    simp only [List.mem_cons, List.not_mem_nil, or_false] at ho
    rcases ho with rfl | rfl | rfl <;> (simp only [List.filterMap_cons, opAt, List.filterMap_nil]; gi_wp2; exact ⟨HE.out.1 _, rfl, HE.out.2⟩)
    -- case 1 ''
    gi_wp2_with (first
      | (refine ⟨trivial, ?_⟩; gi_at_call 129; refine (CallsIn.inRound lp (callsIn_wide.2 hcs)).mono ?_; rintro e w0 ⟨rfl, rfl⟩)
      | (refine ⟨trivial, ?_⟩; gi_at_call 130; refine (CallsIn.inRound lp (callsIn_wide.2 hsp)).mono ?_; rintro e w0 ⟨rfl, rfl⟩)
      | (refine ⟨trivial, ?_⟩; gi_at_call 132; refine (CallsIn.inRound lp (callsIn_wide.2 (hw0 _ _ ht0))).mono ?_; rintro e w1 ⟨rfl, ht1, hg1⟩; have hb1 := below_grown1 hb0 hg1 (Nat.le_refl _) (Nat.le_succ _))
      | (refine ⟨trivial, ?_⟩; gi_at_call 132; refine (CallsIn.inRound lp (callsIn_wide.2 (hw1 _ _ ht1))).mono ?_; rintro e w2 ⟨rfl, ht2, hg2⟩; have hb2 := below_grown1 hb1 hg2 (Nat.le_refl _) (Nat.le_succ _); have hlt := ht2.lt; have bn2 := BoxC.new w2 125 #[.string y1, .string ⟨#[]⟩, .int .i64 0, .int .i64 0, .int .i64 0, .int .i64 0, .int .i64 0]; have ht2' := ht2.kept (World.grownBy_alloc w2 (.cells #[.string y1, .string ⟨#[]⟩, .int .i64 0, .int .i64 0, .int .i64 0, .int .i64 0, .int .i64 0] 125) none) (fun r e => by cases e); have hb2' := hb2.alloc hb2.size (.cells #[.string y1, .string ⟨#[]⟩, .int .i64 0, .int .i64 0, .int .i64 0, .int .i64 0, .int .i64 0] 125); have hsz2 := hb2.size)
      | (refine ⟨trivial, ?_⟩; gi_at_call 132; refine (CallsIn.inRound lp (callsIn_wide.2 (hw2 _ _ ht2'))).mono ?_; rintro e w3 ⟨rfl, ht3, hg3⟩; have hb3 := below_grown1 hb2' hg3 (Nat.le_refl _) (Nat.le_succ _); have bn3 := bn2.kept hg3 (fun e => by have := Option.some.inj e; omega); have fz3 := bn3.frozen; have bn3' : BoxC (w3.setCell ⟨w2.heap.size, 1, none⟩ (.string y2)) w2.heap.size 125 #[.string y1, .string y2, .int .i64 0, .int .i64 0, .int .i64 0, .int .i64 0, .int .i64 0] := bn3.setC 1 _; have c31 := bn3'.cell 1 _ rfl; have d31 := bn3.cell 1 _ rfl; have fz3' := bn3'.frozen; have ht3' := ht3.set w2.heap.size 1 (.string y2) hlt; have hb3' := hb3.setCell (p := ⟨w2.heap.size, 1, none⟩) hsz2 (.string y2); have bn3'' : BoxC ((w3.setCell ⟨w2.heap.size, 1, none⟩ (.string y2)).setCell ⟨w2.heap.size, 1, none⟩ (.string ⟨#[]⟩)) w2.heap.size 125 #[.string y1, .string ⟨#[]⟩, .int .i64 0, .int .i64 0, .int .i64 0, .int .i64 0, .int .i64 0] := bn3'.setC 1 _; have fz3'' := bn3''.frozen; have ht3'' := ht3'.set w2.heap.size 1 (.string ⟨#[]⟩) hlt; have hb3'' := hb3'.setCell (p := ⟨w2.heap.size, 1, none⟩) hsz2 (.string ⟨#[]⟩))
      | (refine ⟨trivial, ?_⟩; gi_at_call 131; refine (CallsIn.inRound lp (callsIn_wide.2 (hn3 _ _ ht3''))).mono ?_; rintro e w4 ⟨rfl, ht4, hg4⟩; have hb4 := below_grown1 hb3'' hg4 (Nat.le_refl _) (Nat.le_succ _); have bn4 := bn3''.kept hg4 (fun e => by have := Option.some.inj e; omega); have fz4 := bn4.frozen; have d4 := bn4.cell 2 _ rfl; have bn4' : BoxC (w4.setCell ⟨w2.heap.size, 2, none⟩ (.int .i64 z3)) w2.heap.size 125 #[.string y1, .string ⟨#[]⟩, .int .i64 z3, .int .i64 0, .int .i64 0, .int .i64 0, .int .i64 0] := bn4.setC 2 _; have ht4' := ht4.set w2.heap.size 2 (.int .i64 z3) hlt; have hb4' := hb4.setCell (p := ⟨w2.heap.size, 2, none⟩) hsz2 (.int .i64 z3))
      | (refine ⟨trivial, ?_⟩; gi_at_call 131; refine (CallsIn.inRound lp (callsIn_wide.2 (hn4 _ _ ht4'))).mono ?_; rintro e w5 ⟨rfl, ht5, hg5⟩; have hb5 := below_grown1 hb4' hg5 (Nat.le_refl _) (Nat.le_succ _); have bn5 := bn4'.kept hg5 (fun e => by have := Option.some.inj e; omega); have fz5 := bn5.frozen; have d5 := bn5.cell 3 _ rfl; have bn5' : BoxC (w5.setCell ⟨w2.heap.size, 3, none⟩ (.int .i64 z4)) w2.heap.size 125 #[.string y1, .string ⟨#[]⟩, .int .i64 z3, .int .i64 z4, .int .i64 0, .int .i64 0, .int .i64 0] := bn5.setC 3 _; have ht5' := ht5.set w2.heap.size 3 (.int .i64 z4) hlt; have hb5' := hb5.setCell (p := ⟨w2.heap.size, 3, none⟩) hsz2 (.int .i64 z4))
      | (refine ⟨trivial, ?_⟩; gi_at_call 131; refine (CallsIn.inRound lp (callsIn_wide.2 (hn5 _ _ ht5'))).mono ?_; rintro e w6 ⟨rfl, ht6, hg6⟩; have hb6 := below_grown1 hb5' hg6 (Nat.le_refl _) (Nat.le_succ _); have bn6 := bn5'.kept hg6 (fun e => by have := Option.some.inj e; omega); have fz6 := bn6.frozen; have d6 := bn6.cell 4 _ rfl; have bn6' : BoxC (w6.setCell ⟨w2.heap.size, 4, none⟩ (.int .i64 z5)) w2.heap.size 125 #[.string y1, .string ⟨#[]⟩, .int .i64 z3, .int .i64 z4, .int .i64 z5, .int .i64 0, .int .i64 0] := bn6.setC 4 _; have ht6' := ht6.set w2.heap.size 4 (.int .i64 z5) hlt; have hb6' := hb6.setCell (p := ⟨w2.heap.size, 4, none⟩) hsz2 (.int .i64 z5))
      | (refine ⟨trivial, ?_⟩; gi_at_call 131; refine (CallsIn.inRound lp (callsIn_wide.2 (hn6 _ _ ht6'))).mono ?_; rintro e w7 ⟨rfl, ht7, hg7⟩; have hb7 := below_grown1 hb6' hg7 (Nat.le_refl _) (Nat.le_succ _); have bn7 := bn6'.kept hg7 (fun e => by have := Option.some.inj e; omega); have fz7 := bn7.frozen; have d7 := bn7.cell 5 _ rfl; have bn7' : BoxC (w7.setCell ⟨w2.heap.size, 5, none⟩ (.int .i64 z6)) w2.heap.size 125 #[.string y1, .string ⟨#[]⟩, .int .i64 z3, .int .i64 z4, .int .i64 z5, .int .i64 z6, .int .i64 0] := bn7.setC 5 _; have ht7' := ht7.set w2.heap.size 5 (.int .i64 z6) hlt; have hb7' := hb7.setCell (p := ⟨w2.heap.size, 5, none⟩) hsz2 (.int .i64 z6))
      | (refine ⟨trivial, ?_⟩; gi_at_call 131; refine (CallsIn.inRound lp (callsIn_wide.2 (hn7 _ _ ht7'))).mono ?_; rintro e w8 ⟨rfl, ht8, hg8⟩; have hb8 := below_grown1 hb7' hg8 (Nat.le_refl _) (Nat.le_succ _); have bn8 := bn7'.kept hg8 (fun e => by have := Option.some.inj e; omega); have fz8 := bn8.frozen; have d8 := bn8.cell 6 _ rfl; have bn8' : BoxC (w8.setCell ⟨w2.heap.size, 6, none⟩ (.int .i64 z7)) w2.heap.size 125 #[.string y1, .string ⟨#[]⟩, .int .i64 z3, .int .i64 z4, .int .i64 z5, .int .i64 z6, .int .i64 z7] := bn8.setC 6 _; have ht8' := ht8.set w2.heap.size 6 (.int .i64 z7) hlt; have hb8' := hb8.setCell (p := ⟨w2.heap.size, 6, none⟩) hsz2 (.int .i64 z7); obtain ⟨A8, c8, bt8, hc8, hm8, hr8⟩ := ht8'; have ct0 := bt8.cell 0 _ rfl; have ct1 := bt8.cell 1 _ rfl; have hvE := (hb8'.block _ hv.lt).trans hv; have hcv := Boxed.cell hvE; have hrow8 := hrow.ext hb8'; have c80 := bn8'.cell 0 _ rfl; have c81 := bn8'.cell 1 _ rfl; have c82 := bn8'.cell 2 _ rfl; have c83 := bn8'.cell 3 _ rfl; have c84 := bn8'.cell 4 _ rfl; have c85 := bn8'.cell 5 _ rfl; have c86 := bn8'.cell 6 _ rfl)
      | (gi_at_builtin; refine own_appendIn (w0 := W) rfl _ _ 29 _ 72 rfl Tryz.underlying29 infoN rfl (by decide) (by decide) encN_len _ (nodesL pre) ⟨y1, ⟨#[]⟩, z3, z4, z5, z6, z7⟩ _ rfl rfl (by rw [World.size_setCell]; rfl) (by simp [encN, Value.oneCell']) hrow8 (hb8'.mono hW5) (Nat.le_trans hW5 hb8'.size) (by omega) ?_; intro v1 w9 hown hbv hgv hnn; obtain ⟨hv1, hv2, hr2, hk2⟩ := boxed_app5 hvE (by decide) hrow8 hown hgv; obtain ⟨g', cap', rfl⟩ := ownsRow_succ (k := (nodesL pre).length) (by unfold Own at hown; simpa using hown); have hc1 := hv1.cell; have hf1 := hv1.frozen))
    have hvd : Boxed (w8.setCell ⟨w2.heap.size, 6, none⟩ (.int .i64 z7)).drew (w.heap.size + 1 + 1 + 1) 29 (.slice A (nodesL pre).length c) := hvE
    have r0 : Boxed (w8.setCell ⟨w2.heap.size, 6, none⟩ (.int .i64 z7)).drew w.heap.size 29 (.slice none 0 0) := (hb8'.block _ (by omega)).trans hI.r0
    have r1 : Boxed (w8.setCell ⟨w2.heap.size, 6, none⟩ (.int .i64 z7)).drew (w.heap.size + 1) 3 (.int .i64 0) := (hb8'.block _ (by omega)).trans hI.r1
    have r2 : Boxed (w8.setCell ⟨w2.heap.size, 6, none⟩ (.int .i64 z7)).drew (w.heap.size + 1 + 1) 26 (.int .i64 0) := (hb8'.block _ (by omega)).trans hI.r2
    obtain ⟨z, hz⟩ := hI.sb
    have r4 : Boxed (w8.setCell ⟨w2.heap.size, 6, none⟩ (.int .i64 z7)).drew (w.heap.size + 1 + 1 + 1 + 1) 9 z := (hb8'.block _ (by omega)).trans hz
    have hbl : Below w.heap.size w (w8.setCell ⟨w2.heap.size, 6, none⟩ (.int .i64 z7)).drew := (hI.below.trans (hb8'.mono (by omega))).drew
    have hkf : ∀ B, KeepsFrom B W (w8.setCell ⟨w2.heap.size, 6, none⟩ (.int .i64 z7)).drew := fun B => (KeepsFrom.ofBelow hb8').trans ((KeepsOthers.drew _).from _)
    have hlb : (lineS x).2 = true := by rw [HLS.out]; simp [hd2]
    have hgd := hI.good
    refine wpIn_region_orders [[0, 1, 2, 3, 4], [0, 2, 1, 3, 4], [2, 0, 1, 3, 4]] (by kernel_rfl) (by kernel_rfl) ?_
    generalize (w8.setCell ⟨w2.heap.size, 6, none⟩ (.int .i64 z7)).drew = X at hvd r0 r1 r2 r4 hbl hkf ⊢
    clear hvE hb8' hcv hrow8 hI HLS
    have cv := hvd.cell
    have f0 := r0.frozen
    have k0 := r0.cell
    have v1 : Boxed (X.setCell ⟨w.heap.size, 0, none⟩ (.slice none 0 0)) (w.heap.size + 1 + 1 + 1) 29 (.slice A (nodesL pre).length c) := hvd.other (by omega) _
    have s0 : Boxed (X.setCell ⟨w.heap.size, 0, none⟩ (.slice none 0 0)) w.heap.size 29 (.slice none 0 0) := r0.set _
    have s1 : Boxed (X.setCell ⟨w.heap.size, 0, none⟩ (.slice none 0 0)) (w.heap.size + 1) 3 (.int .i64 0) := r1.other (by omega) _
    have s2 : Boxed (X.setCell ⟨w.heap.size, 0, none⟩ (.slice none 0 0)) (w.heap.size + 1 + 1) 26 (.int .i64 0) := r2.other (by omega) _
    have cv1 := v1.cell
    have f1 := s1.frozen
    have k1 := s1.cell
    have t0 : Boxed ((X.setCell ⟨w.heap.size, 0, none⟩ (.slice none 0 0)).setCell ⟨w.heap.size + 1, 0, none⟩ (.int .i64 (nodesL pre).length)) w.heap.size 29 (.slice none 0 0) := s0.other (by omega) _
    have t1 : Boxed ((X.setCell ⟨w.heap.size, 0, none⟩ (.slice none 0 0)).setCell ⟨w.heap.size + 1, 0, none⟩ (.int .i64 (nodesL pre).length)) (w.heap.size + 1) 3 (.int .i64 (nodesL pre).length) := s1.set _
    have t2 : Boxed ((X.setCell ⟨w.heap.size, 0, none⟩ (.slice none 0 0)).setCell ⟨w.heap.size + 1, 0, none⟩ (.int .i64 (nodesL pre).length)) (w.heap.size + 1 + 1) 26 (.int .i64 0) := s2.other (by omega) _
    have f2 := t2.frozen
    have k2 := t2.cell
    have hend : (∀ B, KeepsFrom B W (((X.setCell ⟨w.heap.size, 0, none⟩ (.slice none 0 0)).setCell ⟨w.heap.size + 1, 0, none⟩ (.int .i64 (nodesL pre).length)).setCell ⟨w.heap.size + 1 + 1, 0, none⟩ (.int .i64 25))) ∧ PsX w.heap.size w (pre ++ [x]) (((X.setCell ⟨w.heap.size, 0, none⟩ (.slice none 0 0)).setCell ⟨w.heap.size + 1, 0, none⟩ (.int .i64 (nodesL pre).length)).setCell ⟨w.heap.size + 1 + 1, 0, none⟩ (.int .i64 25)) :=
      ⟨fun B => (hkf B).trans ((((KeepsOthers.setCell _ _ _).trans (KeepsOthers.setCell _ _ _)).trans (KeepsOthers.setCell _ _ _)).from _), ⟨pre, x, rfl, hgd, hlb, t1.other (by omega) _⟩, t0.other (by omega) _, t2.set _, ⟨z, ((r4.other (by omega) _).other (by omega) _).other (by omega) _⟩, (((hbl.setCell (p := ⟨w.heap.size, 0, none⟩) (Nat.le_refl _) _).setCell (p := ⟨w.heap.size + 1, 0, none⟩) (by simp only; omega) _).setCell (p := ⟨w.heap.size + 1 + 1, 0, none⟩) (by simp only; omega) _)⟩
    clear r0 r1 r2 r4 s0 s1 s2 t0 t1 t2 hvd v1 hbl hkf
    have HE := Lib.hid hend
    clear hend
    intro o ho
    simp only [List.mem_cons, List.not_mem_nil, or_false] at ho
    rcases ho with rfl | rfl | rfl <;> (simp only [List.filterMap_cons, opAt, List.filterMap_nil]; gi_wp2; exact ⟨HE.out.1 _, rfl, HE.out.2⟩)
    -- case 2 '
    gi_wp2_with (first
      | (refine ⟨trivial, ?_⟩; gi_at_call 129; refine (CallsIn.inRound lp (callsIn_wide.2 hcs)).mono ?_; rintro e w0 ⟨rfl, rfl⟩)
      | (refine ⟨trivial, ?_⟩; gi_at_call 130; refine (CallsIn.inRound lp (callsIn_wide.2 hsp)).mono ?_; rintro e w0 ⟨rfl, rfl⟩)
      | (refine ⟨trivial, ?_⟩; gi_at_call 132; refine (CallsIn.inRound lp (callsIn_wide.2 (hw0 _ _ ht0))).mono ?_; rintro e w1 ⟨rfl, ht1, hg1⟩; have hb1 := below_grown1 hb0 hg1 (Nat.le_refl _) (Nat.le_succ _))
      | (refine ⟨trivial, ?_⟩; gi_at_call 132; refine (CallsIn.inRound lp (callsIn_wide.2 (hw1 _ _ ht1))).mono ?_; rintro e w2 ⟨rfl, ht2, hg2⟩; have hb2 := below_grown1 hb1 hg2 (Nat.le_refl _) (Nat.le_succ _); have hlt := ht2.lt; have bn2 := BoxC.new w2 125 #[.string y1, .string ⟨#[]⟩, .int .i64 0, .int .i64 0, .int .i64 0, .int .i64 0, .int .i64 0]; have ht2' := ht2.kept (World.grownBy_alloc w2 (.cells #[.string y1, .string ⟨#[]⟩, .int .i64 0, .int .i64 0, .int .i64 0, .int .i64 0, .int .i64 0] 125) none) (fun r e => by cases e); have hb2' := hb2.alloc hb2.size (.cells #[.string y1, .string ⟨#[]⟩, .int .i64 0, .int .i64 0, .int .i64 0, .int .i64 0, .int .i64 0] 125); have hsz2 := hb2.size)
      | (refine ⟨trivial, ?_⟩; gi_at_call 132; refine (CallsIn.inRound lp (callsIn_wide.2 (hw2 _ _ ht2'))).mono ?_; rintro e w3 ⟨rfl, ht3, hg3⟩; have hb3 := below_grown1 hb2' hg3 (Nat.le_refl _) (Nat.le_succ _); have bn3 := bn2.kept hg3 (fun e => by have := Option.some.inj e; omega); have fz3 := bn3.frozen; have bn3' : BoxC (w3.setCell ⟨w2.heap.size, 1, none⟩ (.string y2)) w2.heap.size 125 #[.string y1, .string y2, .int .i64 0, .int .i64 0, .int .i64 0, .int .i64 0, .int .i64 0] := bn3.setC 1 _; have c31 := bn3'.cell 1 _ rfl; have d31 := bn3.cell 1 _ rfl; have fz3' := bn3'.frozen; have ht3' := ht3.set w2.heap.size 1 (.string y2) hlt; have hb3' := hb3.setCell (p := ⟨w2.heap.size, 1, none⟩) hsz2 (.string y2); have bn3'' : BoxC ((w3.setCell ⟨w2.heap.size, 1, none⟩ (.string y2)).setCell ⟨w2.heap.size, 1, none⟩ (.string ⟨#[]⟩)) w2.heap.size 125 #[.string y1, .string ⟨#[]⟩, .int .i64 0, .int .i64 0, .int .i64 0, .int .i64 0, .int .i64 0] := bn3'.setC 1 _; have fz3'' := bn3''.frozen; have ht3'' := ht3'.set w2.heap.size 1 (.string ⟨#[]⟩) hlt; have hb3'' := hb3'.setCell (p := ⟨w2.heap.size, 1, none⟩) hsz2 (.string ⟨#[]⟩))
      | (refine ⟨trivial, ?_⟩; gi_at_call 131; refine (CallsIn.inRound lp (callsIn_wide.2 (hn3 _ _ ht3'))).mono ?_; rintro e w4 ⟨rfl, ht4, hg4⟩; have hb4 := below_grown1 hb3' hg4 (Nat.le_refl _) (Nat.le_succ _); have bn4 := bn3'.kept hg4 (fun e => by have := Option.some.inj e; omega); have fz4 := bn4.frozen; have d4 := bn4.cell 2 _ rfl; have bn4' : BoxC (w4.setCell ⟨w2.heap.size, 2, none⟩ (.int .i64 z3)) w2.heap.size 125 #[.string y1, .string y2, .int .i64 z3, .int .i64 0, .int .i64 0, .int .i64 0, .int .i64 0] := bn4.setC 2 _; have ht4' := ht4.set w2.heap.size 2 (.int .i64 z3) hlt; have hb4' := hb4.setCell (p := ⟨w2.heap.size, 2, none⟩) hsz2 (.int .i64 z3))
      | (refine ⟨trivial, ?_⟩; gi_at_call 131; refine (CallsIn.inRound lp (callsIn_wide.2 (hn4 _ _ ht4'))).mono ?_; rintro e w5 ⟨rfl, ht5, hg5⟩; have hb5 := below_grown1 hb4' hg5 (Nat.le_refl _) (Nat.le_succ _); have bn5 := bn4'.kept hg5 (fun e => by have := Option.some.inj e; omega); have fz5 := bn5.frozen; have d5 := bn5.cell 3 _ rfl; have bn5' : BoxC (w5.setCell ⟨w2.heap.size, 3, none⟩ (.int .i64 z4)) w2.heap.size 125 #[.string y1, .string y2, .int .i64 z3, .int .i64 z4, .int .i64 0, .int .i64 0, .int .i64 0] := bn5.setC 3 _; have ht5' := ht5.set w2.heap.size 3 (.int .i64 z4) hlt; have hb5' := hb5.setCell (p := ⟨w2.heap.size, 3, none⟩) hsz2 (.int .i64 z4))
      | (refine ⟨trivial, ?_⟩; gi_at_call 131; refine (CallsIn.inRound lp (callsIn_wide.2 (hn5 _ _ ht5'))).mono ?_; rintro e w6 ⟨rfl, ht6, hg6⟩; have hb6 := below_grown1 hb5' hg6 (Nat.le_refl _) (Nat.le_succ _); have bn6 := bn5'.kept hg6 (fun e => by have := Option.some.inj e; omega); have fz6 := bn6.frozen; have d6 := bn6.cell 4 _ rfl; have bn6' : BoxC (w6.setCell ⟨w2.heap.size, 4, none⟩ (.int .i64 z5)) w2.heap.size 125 #[.string y1, .string y2, .int .i64 z3, .int .i64 z4, .int .i64 z5, .int .i64 0, .int .i64 0] := bn6.setC 4 _; have ht6' := ht6.set w2.heap.size 4 (.int .i64 z5) hlt; have hb6' := hb6.setCell (p := ⟨w2.heap.size, 4, none⟩) hsz2 (.int .i64 z5))
      | (refine ⟨trivial, ?_⟩; gi_at_call 131; refine (CallsIn.inRound lp (callsIn_wide.2 (hn6 _ _ ht6'))).mono ?_; rintro e w7 ⟨rfl, ht7, hg7⟩; have hb7 := below_grown1 hb6' hg7 (Nat.le_refl _) (Nat.le_succ _); have bn7 := bn6'.kept hg7 (fun e => by have := Option.some.inj e; omega); have fz7 := bn7.frozen; have d7 := bn7.cell 5 _ rfl; have bn7' : BoxC (w7.setCell ⟨w2.heap.size, 5, none⟩ (.int .i64 z6)) w2.heap.size 125 #[.string y1, .string y2, .int .i64 z3, .int .i64 z4, .int .i64 z5, .int .i64 z6, .int .i64 0] := bn7.setC 5 _; have ht7' := ht7.set w2.heap.size 5 (.int .i64 z6) hlt; have hb7' := hb7.setCell (p := ⟨w2.heap.size, 5, none⟩) hsz2 (.int .i64 z6))
      | (refine ⟨trivial, ?_⟩; gi_at_call 131; refine (CallsIn.inRound lp (callsIn_wide.2 (hn7 _ _ ht7'))).mono ?_; rintro e w8 ⟨rfl, ht8, hg8⟩; have hb8 := below_grown1 hb7' hg8 (Nat.le_refl _) (Nat.le_succ _); have bn8 := bn7'.kept hg8 (fun e => by have := Option.some.inj e; omega); have fz8 := bn8.frozen; have d8 := bn8.cell 6 _ rfl; have bn8' : BoxC (w8.setCell ⟨w2.heap.size, 6, none⟩ (.int .i64 z7)) w2.heap.size 125 #[.string y1, .string y2, .int .i64 z3, .int .i64 z4, .int .i64 z5, .int .i64 z6, .int .i64 z7] := bn8.setC 6 _; have ht8' := ht8.set w2.heap.size 6 (.int .i64 z7) hlt; have hb8' := hb8.setCell (p := ⟨w2.heap.size, 6, none⟩) hsz2 (.int .i64 z7); obtain ⟨A8, c8, bt8, hc8, hm8, hr8⟩ := ht8'; have ct0 := bt8.cell 0 _ rfl; have ct1 := bt8.cell 1 _ rfl; have hvE := (hb8'.block _ hv.lt).trans hv; have hcv := Boxed.cell hvE; have hrow8 := hrow.ext hb8'; have c80 := bn8'.cell 0 _ rfl; have c81 := bn8'.cell 1 _ rfl; have c82 := bn8'.cell 2 _ rfl; have c83 := bn8'.cell 3 _ rfl; have c84 := bn8'.cell 4 _ rfl; have c85 := bn8'.cell 5 _ rfl; have c86 := bn8'.cell 6 _ rfl)
      | (gi_at_builtin; refine own_appendIn (w0 := W) rfl _ _ 29 _ 72 rfl Tryz.underlying29 infoN rfl (by decide) (by decide) encN_len _ (nodesL pre) ⟨y1, y2, z3, z4, z5, z6, z7⟩ _ rfl rfl (by rw [World.size_setCell]; rfl) (by simp [encN, Value.oneCell']) hrow8 (hb8'.mono hW5) (Nat.le_trans hW5 hb8'.size) (by omega) ?_; intro v1 w9 hown hbv hgv hnn; obtain ⟨hv1, hv2, hr2, hk2⟩ := boxed_app5 hvE (by decide) hrow8 hown hgv; obtain ⟨g', cap', rfl⟩ := ownsRow_succ (k := (nodesL pre).length) (by unfold Own at hown; simpa using hown); have hc1 := hv1.cell; have hf1 := hv1.frozen))
    have hvd : Boxed (w8.setCell ⟨w2.heap.size, 6, none⟩ (.int .i64 z7)).drew (w.heap.size + 1 + 1 + 1) 29 (.slice A (nodesL pre).length c) := hvE
    have r0 : Boxed (w8.setCell ⟨w2.heap.size, 6, none⟩ (.int .i64 z7)).drew w.heap.size 29 (.slice none 0 0) := (hb8'.block _ (by omega)).trans hI.r0
    have r1 : Boxed (w8.setCell ⟨w2.heap.size, 6, none⟩ (.int .i64 z7)).drew (w.heap.size + 1) 3 (.int .i64 0) := (hb8'.block _ (by omega)).trans hI.r1
    have r2 : Boxed (w8.setCell ⟨w2.heap.size, 6, none⟩ (.int .i64 z7)).drew (w.heap.size + 1 + 1) 26 (.int .i64 0) := (hb8'.block _ (by omega)).trans hI.r2
    obtain ⟨z, hz⟩ := hI.sb
    have r4 : Boxed (w8.setCell ⟨w2.heap.size, 6, none⟩ (.int .i64 z7)).drew (w.heap.size + 1 + 1 + 1 + 1) 9 z := (hb8'.block _ (by omega)).trans hz
    have hbl : Below w.heap.size w (w8.setCell ⟨w2.heap.size, 6, none⟩ (.int .i64 z7)).drew := (hI.below.trans (hb8'.mono (by omega))).drew
    have hkf : ∀ B, KeepsFrom B W (w8.setCell ⟨w2.heap.size, 6, none⟩ (.int .i64 z7)).drew := fun B => (KeepsFrom.ofBelow hb8').trans ((KeepsOthers.drew _).from _)
    have hlb : (lineS x).2 = true := by rw [HLS.out]; simp [hd2]
    have hgd := hI.good
    refine wpIn_region_orders [[0, 1, 2, 3, 4], [0, 2, 1, 3, 4], [2, 0, 1, 3, 4]] (by kernel_rfl) (by kernel_rfl) ?_
    generalize (w8.setCell ⟨w2.heap.size, 6, none⟩ (.int .i64 z7)).drew = X at hvd r0 r1 r2 r4 hbl hkf ⊢
    clear hvE hb8' hcv hrow8 hI HLS
    have cv := hvd.cell
    have f0 := r0.frozen
    have k0 := r0.cell
    have v1 : Boxed (X.setCell ⟨w.heap.size, 0, none⟩ (.slice none 0 0)) (w.heap.size + 1 + 1 + 1) 29 (.slice A (nodesL pre).length c) := hvd.other (by omega) _
    have s0 : Boxed (X.setCell ⟨w.heap.size, 0, none⟩ (.slice none 0 0)) w.heap.size 29 (.slice none 0 0) := r0.set _
    have s1 : Boxed (X.setCell ⟨w.heap.size, 0, none⟩ (.slice none 0 0)) (w.heap.size + 1) 3 (.int .i64 0) := r1.other (by omega) _
    have s2 : Boxed (X.setCell ⟨w.heap.size, 0, none⟩ (.slice none 0 0)) (w.heap.size + 1 + 1) 26 (.int .i64 0) := r2.other (by omega) _
    have cv1 := v1.cell
    have f1 := s1.frozen
    have k1 := s1.cell
    have t0 : Boxed ((X.setCell ⟨w.heap.size, 0, none⟩ (.slice none 0 0)).setCell ⟨w.heap.size + 1, 0, none⟩ (.int .i64 (nodesL pre).length)) w.heap.size 29 (.slice none 0 0) := s0.other (by omega) _
    have t1 : Boxed ((X.setCell ⟨w.heap.size, 0, none⟩ (.slice none 0 0)).setCell ⟨w.heap.size + 1, 0, none⟩ (.int .i64 (nodesL pre).length)) (w.heap.size + 1) 3 (.int .i64 (nodesL pre).length) := s1.set _
    have t2 : Boxed ((X.setCell ⟨w.heap.size, 0, none⟩ (.slice none 0 0)).setCell ⟨w.heap.size + 1, 0, none⟩ (.int .i64 (nodesL pre).length)) (w.heap.size + 1 + 1) 26 (.int .i64 0) := s2.other (by omega) _
    have f2 := t2.frozen
    have k2 := t2.cell
    have hend : (∀ B, KeepsFrom B W (((X.setCell ⟨w.heap.size, 0, none⟩ (.slice none 0 0)).setCell ⟨w.heap.size + 1, 0, none⟩ (.int .i64 (nodesL pre).length)).setCell ⟨w.heap.size + 1 + 1, 0, none⟩ (.int .i64 25))) ∧ PsX w.heap.size w (pre ++ [x]) (((X.setCell ⟨w.heap.size, 0, none⟩ (.slice none 0 0)).setCell ⟨w.heap.size + 1, 0, none⟩ (.int .i64 (nodesL pre).length)).setCell ⟨w.heap.size + 1 + 1, 0, none⟩ (.int .i64 25)) :=
      ⟨fun B => (hkf B).trans ((((KeepsOthers.setCell _ _ _).trans (KeepsOthers.setCell _ _ _)).trans (KeepsOthers.setCell _ _ _)).from _), ⟨pre, x, rfl, hgd, hlb, t1.other (by omega) _⟩, t0.other (by omega) _, t2.set _, ⟨z, ((r4.other (by omega) _).other (by omega) _).other (by omega) _⟩, (((hbl.setCell (p := ⟨w.heap.size, 0, none⟩) (Nat.le_refl _) _).setCell (p := ⟨w.heap.size + 1, 0, none⟩) (by simp only; omega) _).setCell (p := ⟨w.heap.size + 1 + 1, 0, none⟩) (by simp only; omega) _)⟩
    clear r0 r1 r2 r4 s0 s1 s2 t0 t1 t2 hvd v1 hbl hkf
    have HE := Lib.hid hend
    clear hend
    intro o ho
    simp only [List.mem_cons, List.not_mem_nil, or_false] at ho
    rcases ho with rfl | rfl | rfl <;> (simp only [List.filterMap_cons, opAt, List.filterMap_nil]; gi_wp2; exact ⟨HE.out.1 _, rfl, HE.out.2⟩)
    -- case 2 ''
    gi_wp2_with (first
      | (refine ⟨trivial, ?_⟩; gi_at_call 129; refine (CallsIn.inRound lp (callsIn_wide.2 hcs)).mono ?_; rintro e w0 ⟨rfl, rfl⟩)
      | (refine ⟨trivial, ?_⟩; gi_at_call 130; refine (CallsIn.inRound lp (callsIn_wide.2 hsp)).mono ?_; rintro e w0 ⟨rfl, rfl⟩)
      | (refine ⟨trivial, ?_⟩; gi_at_call 132; refine (CallsIn.inRound lp (callsIn_wide.2 (hw0 _ _ ht0))).mono ?_; rintro e w1 ⟨rfl, ht1, hg1⟩; have hb1 := below_grown1 hb0 hg1 (Nat.le_refl _) (Nat.le_succ _))
      | (refine ⟨trivial, ?_⟩; gi_at_call 132; refine (CallsIn.inRound lp (callsIn_wide.2 (hw1 _ _ ht1))).mono ?_; rintro e w2 ⟨rfl, ht2, hg2⟩; have hb2 := below_grown1 hb1 hg2 (Nat.le_refl _) (Nat.le_succ _); have hlt := ht2.lt; have bn2 := BoxC.new w2 125 #[.string y1, .string ⟨#[]⟩, .int .i64 0, .int .i64 0, .int .i64 0, .int .i64 0, .int .i64 0]; have ht2' := ht2.kept (World.grownBy_alloc w2 (.cells #[.string y1, .string ⟨#[]⟩, .int .i64 0, .int .i64 0, .int .i64 0, .int .i64 0, .int .i64 0] 125) none) (fun r e => by cases e); have hb2' := hb2.alloc hb2.size (.cells #[.string y1, .string ⟨#[]⟩, .int .i64 0, .int .i64 0, .int .i64 0, .int .i64 0, .int .i64 0] 125); have hsz2 := hb2.size)
      | (refine ⟨trivial, ?_⟩; gi_at_call 132; refine (CallsIn.inRound lp (callsIn_wide.2 (hw2 _ _ ht2'))).mono ?_; rintro e w3 ⟨rfl, ht3, hg3⟩; have hb3 := below_grown1 hb2' hg3 (Nat.le_refl _) (Nat.le_succ _); have bn3 := bn2.kept hg3 (fun e => by have := Option.some.inj e; omega); have fz3 := bn3.frozen; have bn3' : BoxC (w3.setCell ⟨w2.heap.size, 1, none⟩ (.string y2)) w2.heap.size 125 #[.string y1, .string y2, .int .i64 0, .int .i64 0, .int .i64 0, .int .i64 0, .int .i64 0] := bn3.setC 1 _; have c31 := bn3'.cell 1 _ rfl; have d31 := bn3.cell 1 _ rfl; have fz3' := bn3'.frozen; have ht3' := ht3.set w2.heap.size 1 (.string y2) hlt; have hb3' := hb3.setCell (p := ⟨w2.heap.size, 1, none⟩) hsz2 (.string y2); have bn3'' : BoxC ((w3.setCell ⟨w2.heap.size, 1, none⟩ (.string y2)).setCell ⟨w2.heap.size, 1, none⟩ (.string ⟨#[]⟩)) w2.heap.size 125 #[.string y1, .string ⟨#[]⟩, .int .i64 0, .int .i64 0, .int .i64 0, .int .i64 0, .int .i64 0] := bn3'.setC 1 _; have fz3'' := bn3''.frozen; have ht3'' := ht3'.set w2.heap.size 1 (.string ⟨#[]⟩) hlt; have hb3'' := hb3'.setCell (p := ⟨w2.heap.size, 1, none⟩) hsz2 (.string ⟨#[]⟩))
      | (refine ⟨trivial, ?_⟩; gi_at_call 131; refine (CallsIn.inRound lp (callsIn_wide.2 (hn3 _ _ ht3''))).mono ?_; rintro e w4 ⟨rfl, ht4, hg4⟩; have hb4 := below_grown1 hb3'' hg4 (Nat.le_refl _) (Nat.le_succ _); have bn4 := bn3''.kept hg4 (fun e => by have := Option.some.inj e; omega); have fz4 := bn4.frozen; have d4 := bn4.cell 2 _ rfl; have bn4' : BoxC (w4.setCell ⟨w2.heap.size, 2, none⟩ (.int .i64 z3)) w2.heap.size 125 #[.string y1, .string ⟨#[]⟩, .int .i64 z3, .int .i64 0, .int .i64 0, .int .i64 0, .int .i64 0] := bn4.setC 2 _; have ht4' := ht4.set w2.heap.size 2 (.int .i64 z3) hlt; have hb4' := hb4.setCell (p := ⟨w2.heap.size, 2, none⟩) hsz2 (.int .i64 z3))
      | (refine ⟨trivial, ?_⟩; gi_at_call 131; refine (CallsIn.inRound lp (callsIn_wide.2 (hn4 _ _ ht4'))).mono ?_; rintro e w5 ⟨rfl, ht5, hg5⟩; have hb5 := below_grown1 hb4' hg5 (Nat.le_refl _) (Nat.le_succ _); have bn5 := bn4'.kept hg5 (fun e => by have := Option.some.inj e; omega); have fz5 := bn5.frozen; have d5 := bn5.cell 3 _ rfl; have bn5' : BoxC (w5.setCell ⟨w2.heap.size, 3, none⟩ (.int .i64 z4)) w2.heap.size 125 #[.string y1, .string ⟨#[]⟩, .int .i64 z3, .int .i64 z4, .int .i64 0, .int .i64 0, .int .i64 0] := bn5.setC 3 _; have ht5' := ht5.set w2.heap.size 3 (.int .i64 z4) hlt; have hb5' := hb5.setCell (p := ⟨w2.heap.size, 3, none⟩) hsz2 (.int .i64 z4))
      | (refine ⟨trivial, ?_⟩; gi_at_call 131; refine (CallsIn.inRound lp (callsIn_wide.2 (hn5 _ _ ht5'))).mono ?_; rintro e w6 ⟨rfl, ht6, hg6⟩; have hb6 := below_grown1 hb5' hg6 (Nat.le_refl _) (Nat.le_succ _); have bn6 := bn5'.kept hg6 (fun e => by have := Option.some.inj e; omega); have fz6 := bn6.frozen; have d6 := bn6.cell 4 _ rfl; have bn6' : BoxC (w6.setCell ⟨w2.heap.size, 4, none⟩ (.int .i64 z5)) w2.heap.size 125 #[.string y1, .string ⟨#[]⟩, .int .i64 z3, .int .i64 z4, .int .i64 z5, .int .i64 0, .int .i64 0] := bn6.setC 4 _; have ht6' := ht6.set w2.heap.size 4 (.int .i64 z5) hlt; have hb6' := hb6.setCell (p := ⟨w2.heap.size, 4, none⟩) hsz2 (.int .i64 z5))
      | (refine ⟨trivial, ?_⟩; gi_at_call 131; refine (CallsIn.inRound lp (callsIn_wide.2 (hn6 _ _ ht6'))).mono ?_; rintro e w7 ⟨rfl, ht7, hg7⟩; have hb7 := below_grown1 hb6' hg7 (Nat.le_refl _) (Nat.le_succ _); have bn7 := bn6'.kept hg7 (fun e => by have := Option.some.inj e; omega); have fz7 := bn7.frozen; have d7 := bn7.cell 5 _ rfl; have bn7' : BoxC (w7.setCell ⟨w2.heap.size, 5, none⟩ (.int .i64 z6)) w2.heap.size 125 #[.string y1, .string ⟨#[]⟩, .int .i64 z3, .int .i64 z4, .int .i64 z5, .int .i64 z6, .int .i64 0] := bn7.setC 5 _; have ht7' := ht7.set w2.heap.size 5 (.int .i64 z6) hlt; have hb7' := hb7.setCell (p := ⟨w2.heap.size, 5, none⟩) hsz2 (.int .i64 z6))
      | (refine ⟨trivial, ?_⟩; gi_at_call 131; refine (CallsIn.inRound lp (callsIn_wide.2 (hn7 _ _ ht7'))).mono ?_; rintro e w8 ⟨rfl, ht8, hg8⟩; have hb8 := below_grown1 hb7' hg8 (Nat.le_refl _) (Nat.le_succ _); have bn8 := bn7'.kept hg8 (fun e => by have := Option.some.inj e; omega); have fz8 := bn8.frozen; have d8 := bn8.cell 6 _ rfl; have bn8' : BoxC (w8.setCell ⟨w2.heap.size, 6, none⟩ (.int .i64 z7)) w2.heap.size 125 #[.string y1, .string ⟨#[]⟩, .int .i64 z3, .int .i64 z4, .int .i64 z5, .int .i64 z6, .int .i64 z7] := bn8.setC 6 _; have ht8' := ht8.set w2.heap.size 6 (.int .i64 z7) hlt; have hb8' := hb8.setCell (p := ⟨w2.heap.size, 6, none⟩) hsz2 (.int .i64 z7); obtain ⟨A8, c8, bt8, hc8, hm8, hr8⟩ := ht8'; have ct0 := bt8.cell 0 _ rfl; have ct1 := bt8.cell 1 _ rfl; have hvE := (hb8'.block _ hv.lt).trans hv; have hcv := Boxed.cell hvE; have hrow8 := hrow.ext hb8'; have c80 := bn8'.cell 0 _ rfl; have c81 := bn8'.cell 1 _ rfl; have c82 := bn8'.cell 2 _ rfl; have c83 := bn8'.cell 3 _ rfl; have c84 := bn8'.cell 4 _ rfl; have c85 := bn8'.cell 5 _ rfl; have c86 := bn8'.cell 6 _ rfl)
      | (gi_at_builtin; refine own_appendIn (w0 := W) rfl _ _ 29 _ 72 rfl Tryz.underlying29 infoN rfl (by decide) (by decide) encN_len _ (nodesL pre) ⟨y1, ⟨#[]⟩, z3, z4, z5, z6, z7⟩ _ rfl rfl (by rw [World.size_setCell]; rfl) (by simp [encN, Value.oneCell']) hrow8 (hb8'.mono hW5) (Nat.le_trans hW5 hb8'.size) (by omega) ?_; intro v1 w9 hown hbv hgv hnn; obtain ⟨hv1, hv2, hr2, hk2⟩ := boxed_app5 hvE (by decide) hrow8 hown hgv; obtain ⟨g', cap', rfl⟩ := ownsRow_succ (k := (nodesL pre).length) (by unfold Own at hown; simpa using hown); have hc1 := hv1.cell; have hf1 := hv1.frozen))
    have hvd : Boxed (w8.setCell ⟨w2.heap.size, 6, none⟩ (.int .i64 z7)).drew (w.heap.size + 1 + 1 + 1) 29 (.slice A (nodesL pre).length c) := hvE
    have r0 : Boxed (w8.setCell ⟨w2.heap.size, 6, none⟩ (.int .i64 z7)).drew w.heap.size 29 (.slice none 0 0) := (hb8'.block _ (by omega)).trans hI.r0
    have r1 : Boxed (w8.setCell ⟨w2.heap.size, 6, none⟩ (.int .i64 z7)).drew (w.heap.size + 1) 3 (.int .i64 0) := (hb8'.block _ (by omega)).trans hI.r1
    have r2 : Boxed (w8.setCell ⟨w2.heap.size, 6, none⟩ (.int .i64 z7)).drew (w.heap.size + 1 + 1) 26 (.int .i64 0) := (hb8'.block _ (by omega)).trans hI.r2
    obtain ⟨z, hz⟩ := hI.sb
    have r4 : Boxed (w8.setCell ⟨w2.heap.size, 6, none⟩ (.int .i64 z7)).drew (w.heap.size + 1 + 1 + 1 + 1) 9 z := (hb8'.block _ (by omega)).trans hz
    have hbl : Below w.heap.size w (w8.setCell ⟨w2.heap.size, 6, none⟩ (.int .i64 z7)).drew := (hI.below.trans (hb8'.mono (by omega))).drew
    have hkf : ∀ B, KeepsFrom B W (w8.setCell ⟨w2.heap.size, 6, none⟩ (.int .i64 z7)).drew := fun B => (KeepsFrom.ofBelow hb8').trans ((KeepsOthers.drew _).from _)
    have hlb : (lineS x).2 = true := by rw [HLS.out]; simp [hd2]
    have hgd := hI.good
    refine wpIn_region_orders [[0, 1, 2, 3, 4], [0, 2, 1, 3, 4], [2, 0, 1, 3, 4]] (by kernel_rfl) (by kernel_rfl) ?_
    generalize (w8.setCell ⟨w2.heap.size, 6, none⟩ (.int .i64 z7)).drew = X at hvd r0 r1 r2 r4 hbl hkf ⊢
    clear hvE hb8' hcv hrow8 hI HLS
    have cv := hvd.cell
    have f0 := r0.frozen
    have k0 := r0.cell
    have v1 : Boxed (X.setCell ⟨w.heap.size, 0, none⟩ (.slice none 0 0)) (w.heap.size + 1 + 1 + 1) 29 (.slice A (nodesL pre).length c) := hvd.other (by omega) _
    have s0 : Boxed (X.setCell ⟨w.heap.size, 0, none⟩ (.slice none 0 0)) w.heap.size 29 (.slice none 0 0) := r0.set _
    have s1 : Boxed (X.setCell ⟨w.heap.size, 0, none⟩ (.slice none 0 0)) (w.heap.size + 1) 3 (.int .i64 0) := r1.other (by omega) _
    have s2 : Boxed (X.setCell ⟨w.heap.size, 0, none⟩ (.slice none 0 0)) (w.heap.size + 1 + 1) 26 (.int .i64 0) := r2.other (by omega) _
    have cv1 := v1.cell
    have f1 := s1.frozen
    have k1 := s1.cell
    have t0 : Boxed ((X.setCell ⟨w.heap.size, 0, none⟩ (.slice none 0 0)).setCell ⟨w.heap.size + 1, 0, none⟩ (.int .i64 (nodesL pre).length)) w.heap.size 29 (.slice none 0 0) := s0.other (by omega) _
    have t1 : Boxed ((X.setCell ⟨w.heap.size, 0, none⟩ (.slice none 0 0)).setCell ⟨w.heap.size + 1, 0, none⟩ (.int .i64 (nodesL pre).length)) (w.heap.size + 1) 3 (.int .i64 (nodesL pre).length) := s1.set _
    have t2 : Boxed ((X.setCell ⟨w.heap.size, 0, none⟩ (.slice none 0 0)).setCell ⟨w.heap.size + 1, 0, none⟩ (.int .i64 (nodesL pre).length)) (w.heap.size + 1 + 1) 26 (.int .i64 0) := s2.other (by omega) _
    have f2 := t2.frozen
    have k2 := t2.cell
    have hend : (∀ B, KeepsFrom B W (((X.setCell ⟨w.heap.size, 0, none⟩ (.slice none 0 0)).setCell ⟨w.heap.size + 1, 0, none⟩ (.int .i64 (nodesL pre).length)).setCell ⟨w.heap.size + 1 + 1, 0, none⟩ (.int .i64 25))) ∧ PsX w.heap.size w (pre ++ [x]) (((X.setCell ⟨w.heap.size, 0, none⟩ (.slice none 0 0)).setCell ⟨w.heap.size + 1, 0, none⟩ (.int .i64 (nodesL pre).length)).setCell ⟨w.heap.size + 1 + 1, 0, none⟩ (.int .i64 25)) :=
      ⟨fun B => (hkf B).trans ((((KeepsOthers.setCell _ _ _).trans (KeepsOthers.setCell _ _ _)).trans (KeepsOthers.setCell _ _ _)).from _), ⟨pre, x, rfl, hgd, hlb, t1.other (by omega) _⟩, t0.other (by omega) _, t2.set _, ⟨z, ((r4.other (by omega) _).other (by omega) _).other (by omega) _⟩, (((hbl.setCell (p := ⟨w.heap.size, 0, none⟩) (Nat.le_refl _) _).setCell (p := ⟨w.heap.size + 1, 0, none⟩) (by simp only; omega) _).setCell (p := ⟨w.heap.size + 1 + 1, 0, none⟩) (by simp only; omega) _)⟩
    clear r0 r1 r2 r4 s0 s1 s2 t0 t1 t2 hvd v1 hbl hkf
    have HE := Lib.hid hend
    clear hend
    intro o ho
    simp only [List.mem_cons, List.not_mem_nil, or_false] at ho
    rcases ho with rfl | rfl | rfl <;> (simp only [List.filterMap_cons, opAt, List.filterMap_nil]; gi_wp2; exact ⟨HE.out.1 _, rfl, HE.out.2⟩)
    -- case 3 '
    gi_wp2_with (first
      | (refine ⟨trivial, ?_⟩; gi_at_call 129; refine (CallsIn.inRound lp (callsIn_wide.2 hcs)).mono ?_; rintro e w0 ⟨rfl, rfl⟩)
      | (refine ⟨trivial, ?_⟩; gi_at_call 130; refine (CallsIn.inRound lp (callsIn_wide.2 hsp)).mono ?_; rintro e w0 ⟨rfl, rfl⟩)
      | (refine ⟨trivial, ?_⟩; gi_at_call 132; refine (CallsIn.inRound lp (callsIn_wide.2 (hw0 _ _ ht0))).mono ?_; rintro e w1 ⟨rfl, ht1, hg1⟩; have hb1 := below_grown1 hb0 hg1 (Nat.le_refl _) (Nat.le_succ _))
      | (refine ⟨trivial, ?_⟩; gi_at_call 132; refine (CallsIn.inRound lp (callsIn_wide.2 (hw1 _ _ ht1))).mono ?_; rintro e w2 ⟨rfl, ht2, hg2⟩; have hb2 := below_grown1 hb1 hg2 (Nat.le_refl _) (Nat.le_succ _); have hlt := ht2.lt; have bn2 := BoxC.new w2 125 #[.string y1, .string ⟨#[]⟩, .int .i64 0, .int .i64 0, .int .i64 0, .int .i64 0, .int .i64 0]; have ht2' := ht2.kept (World.grownBy_alloc w2 (.cells #[.string y1, .string ⟨#[]⟩, .int .i64 0, .int .i64 0, .int .i64 0, .int .i64 0, .int .i64 0] 125) none) (fun r e => by cases e); have hb2' := hb2.alloc hb2.size (.cells #[.string y1, .string ⟨#[]⟩, .int .i64 0, .int .i64 0, .int .i64 0, .int .i64 0, .int .i64 0] 125); have hsz2 := hb2.size)
      | (refine ⟨trivial, ?_⟩; gi_at_call 132; refine (CallsIn.inRound lp (callsIn_wide.2 (hw2 _ _ ht2'))).mono ?_; rintro e w3 ⟨rfl, ht3, hg3⟩; have hb3 := below_grown1 hb2' hg3 (Nat.le_refl _) (Nat.le_succ _); have bn3 := bn2.kept hg3 (fun e => by have := Option.some.inj e; omega); have fz3 := bn3.frozen; have bn3' : BoxC (w3.setCell ⟨w2.heap.size, 1, none⟩ (.string y2)) w2.heap.size 125 #[.string y1, .string y2, .int .i64 0, .int .i64 0, .int .i64 0, .int .i64 0, .int .i64 0] := bn3.setC 1 _; have c31 := bn3'.cell 1 _ rfl; have d31 := bn3.cell 1 _ rfl; have fz3' := bn3'.frozen; have ht3' := ht3.set w2.heap.size 1 (.string y2) hlt; have hb3' := hb3.setCell (p := ⟨w2.heap.size, 1, none⟩) hsz2 (.string y2); have bn3'' : BoxC ((w3.setCell ⟨w2.heap.size, 1, none⟩ (.string y2)).setCell ⟨w2.heap.size, 1, none⟩ (.string ⟨#[]⟩)) w2.heap.size 125 #[.string y1, .string ⟨#[]⟩, .int .i64 0, .int .i64 0, .int .i64 0, .int .i64 0, .int .i64 0] := bn3'.setC 1 _; have fz3'' := bn3''.frozen; have ht3'' := ht3'.set w2.heap.size 1 (.string ⟨#[]⟩) hlt; have hb3'' := hb3'.setCell (p := ⟨w2.heap.size, 1, none⟩) hsz2 (.string ⟨#[]⟩))
      | (refine ⟨trivial, ?_⟩; gi_at_call 131; refine (CallsIn.inRound lp (callsIn_wide.2 (hn3 _ _ ht3'))).mono ?_; rintro e w4 ⟨rfl, ht4, hg4⟩; have hb4 := below_grown1 hb3' hg4 (Nat.le_refl _) (Nat.le_succ _); have bn4 := bn3'.kept hg4 (fun e => by have := Option.some.inj e; omega); have fz4 := bn4.frozen; have d4 := bn4.cell 2 _ rfl; have bn4' : BoxC (w4.setCell ⟨w2.heap.size, 2, none⟩ (.int .i64 z3)) w2.heap.size 125 #[.string y1, .string y2, .int .i64 z3, .int .i64 0, .int .i64 0, .int .i64 0, .int .i64 0] := bn4.setC 2 _; have ht4' := ht4.set w2.heap.size 2 (.int .i64 z3) hlt; have hb4' := hb4.setCell (p := ⟨w2.heap.size, 2, none⟩) hsz2 (.int .i64 z3))
      | (refine ⟨trivial, ?_⟩; gi_at_call 131; refine (CallsIn.inRound lp (callsIn_wide.2 (hn4 _ _ ht4'))).mono ?_; rintro e w5 ⟨rfl, ht5, hg5⟩; have hb5 := below_grown1 hb4' hg5 (Nat.le_refl _) (Nat.le_succ _); have bn5 := bn4'.kept hg5 (fun e => by have := Option.some.inj e; omega); have fz5 := bn5.frozen; have d5 := bn5.cell 3 _ rfl; have bn5' : BoxC (w5.setCell ⟨w2.heap.size, 3, none⟩ (.int .i64 z4)) w2.heap.size 125 #[.string y1, .string y2, .int .i64 z3, .int .i64 z4, .int .i64 0, .int .i64 0, .int .i64 0] := bn5.setC 3 _; have ht5' := ht5.set w2.heap.size 3 (.int .i64 z4) hlt; have hb5' := hb5.setCell (p := ⟨w2.heap.size, 3, none⟩) hsz2 (.int .i64 z4))
      | (refine ⟨trivial, ?_⟩; gi_at_call 131; refine (CallsIn.inRound lp (callsIn_wide.2 (hn5 _ _ ht5'))).mono ?_; rintro e w6 ⟨rfl, ht6, hg6⟩; have hb6 := below_grown1 hb5' hg6 (Nat.le_refl _) (Nat.le_succ _); have bn6 := bn5'.kept hg6 (fun e => by have := Option.some.inj e; omega); have fz6 := bn6.frozen; have d6 := bn6.cell 4 _ rfl; have bn6' : BoxC (w6.setCell ⟨w2.heap.size, 4, none⟩ (.int .i64 z5)) w2.heap.size 125 #[.string y1, .string y2, .int .i64 z3, .int .i64 z4, .int .i64 z5, .int .i64 0, .int .i64 0] := bn6.setC 4 _; have ht6' := ht6.set w2.heap.size 4 (.int .i64 z5) hlt; have hb6' := hb6.setCell (p := ⟨w2.heap.size, 4, none⟩) hsz2 (.int .i64 z5))
      | (refine ⟨trivial, ?_⟩; gi_at_call 131; refine (CallsIn.inRound lp (callsIn_wide.2 (hn6 _ _ ht6'))).mono ?_; rintro e w7 ⟨rfl, ht7, hg7⟩; have hb7 := below_grown1 hb6' hg7 (Nat.le_refl _) (Nat.le_succ _); have bn7 := bn6'.kept hg7 (fun e => by have := Option.some.inj e; omega); have fz7 := bn7.frozen; have d7 := bn7.cell 5 _ rfl; have bn7' : BoxC (w7.setCell ⟨w2.heap.size, 5, none⟩ (.int .i64 z6)) w2.heap.size 125 #[.string y1, .string y2, .int .i64 z3, .int .i64 z4, .int .i64 z5, .int .i64 z6, .int .i64 0] := bn7.setC 5 _; have ht7' := ht7.set w2.heap.size 5 (.int .i64 z6) hlt; have hb7' := hb7.setCell (p := ⟨w2.heap.size, 5, none⟩) hsz2 (.int .i64 z6))
      | (refine ⟨trivial, ?_⟩; gi_at_call 131; refine (CallsIn.inRound lp (callsIn_wide.2 (hn7 _ _ ht7'))).mono ?_; rintro e w8 ⟨rfl, ht8, hg8⟩; have hb8 := below_grown1 hb7' hg8 (Nat.le_refl _) (Nat.le_succ _); have bn8 := bn7'.kept hg8 (fun e => by have := Option.some.inj e; omega); have fz8 := bn8.frozen; have d8 := bn8.cell 6 _ rfl; have bn8' : BoxC (w8.setCell ⟨w2.heap.size, 6, none⟩ (.int .i64 z7)) w2.heap.size 125 #[.string y1, .string y2, .int .i64 z3, .int .i64 z4, .int .i64 z5, .int .i64 z6, .int .i64 z7] := bn8.setC 6 _; have ht8' := ht8.set w2.heap.size 6 (.int .i64 z7) hlt; have hb8' := hb8.setCell (p := ⟨w2.heap.size, 6, none⟩) hsz2 (.int .i64 z7); obtain ⟨A8, c8, bt8, hc8, hm8, hr8⟩ := ht8'; have ct0 := bt8.cell 0 _ rfl; have ct1 := bt8.cell 1 _ rfl; have hvE := (hb8'.block _ hv.lt).trans hv; have hcv := Boxed.cell hvE; have hrow8 := hrow.ext hb8'; have c80 := bn8'.cell 0 _ rfl; have c81 := bn8'.cell 1 _ rfl; have c82 := bn8'.cell 2 _ rfl; have c83 := bn8'.cell 3 _ rfl; have c84 := bn8'.cell 4 _ rfl; have c85 := bn8'.cell 5 _ rfl; have c86 := bn8'.cell 6 _ rfl)
      | (gi_at_builtin; refine own_appendIn (w0 := W) rfl _ _ 29 _ 72 rfl Tryz.underlying29 infoN rfl (by decide) (by decide) encN_len _ (nodesL pre) ⟨y1, y2, z3, z4, z5, z6, z7⟩ _ rfl rfl (by rw [World.size_setCell]; rfl) (by simp [encN, Value.oneCell']) hrow8 (hb8'.mono hW5) (Nat.le_trans hW5 hb8'.size) (by omega) ?_; intro v1 w9 hown hbv hgv hnn; obtain ⟨hv1, hv2, hr2, hk2⟩ := boxed_app5 hvE (by decide) hrow8 hown hgv; obtain ⟨g', cap', rfl⟩ := ownsRow_succ (k := (nodesL pre).length) (by unfold Own at hown; simpa using hown); have hc1 := hv1.cell; have hf1 := hv1.frozen))
    have hvd : Boxed (w8.setCell ⟨w2.heap.size, 6, none⟩ (.int .i64 z7)).drew (w.heap.size + 1 + 1 + 1) 29 (.slice A (nodesL pre).length c) := hvE
    have r0 : Boxed (w8.setCell ⟨w2.heap.size, 6, none⟩ (.int .i64 z7)).drew w.heap.size 29 (.slice none 0 0) := (hb8'.block _ (by omega)).trans hI.r0
    have r1 : Boxed (w8.setCell ⟨w2.heap.size, 6, none⟩ (.int .i64 z7)).drew (w.heap.size + 1) 3 (.int .i64 0) := (hb8'.block _ (by omega)).trans hI.r1
    have r2 : Boxed (w8.setCell ⟨w2.heap.size, 6, none⟩ (.int .i64 z7)).drew (w.heap.size + 1 + 1) 26 (.int .i64 0) := (hb8'.block _ (by omega)).trans hI.r2
    obtain ⟨z, hz⟩ := hI.sb
    have r4 : Boxed (w8.setCell ⟨w2.heap.size, 6, none⟩ (.int .i64 z7)).drew (w.heap.size + 1 + 1 + 1 + 1) 9 z := (hb8'.block _ (by omega)).trans hz
    have hbl : Below w.heap.size w (w8.setCell ⟨w2.heap.size, 6, none⟩ (.int .i64 z7)).drew := (hI.below.trans (hb8'.mono (by omega))).drew
    have hkf : ∀ B, KeepsFrom B W (w8.setCell ⟨w2.heap.size, 6, none⟩ (.int .i64 z7)).drew := fun B => (KeepsFrom.ofBelow hb8').trans ((KeepsOthers.drew _).from _)
    have hlb : (lineS x).2 = true := by rw [HLS.out]; simp [hd2, hd4]
    have hgd := hI.good
    refine wpIn_region_orders [[0, 1, 2, 3, 4], [0, 2, 1, 3, 4], [2, 0, 1, 3, 4]] (by kernel_rfl) (by kernel_rfl) ?_
    generalize (w8.setCell ⟨w2.heap.size, 6, none⟩ (.int .i64 z7)).drew = X at hvd r0 r1 r2 r4 hbl hkf ⊢
    clear hvE hb8' hcv hrow8 hI HLS
    have cv := hvd.cell
    have f0 := r0.frozen
    have k0 := r0.cell
    have v1 : Boxed (X.setCell ⟨w.heap.size, 0, none⟩ (.slice none 0 0)) (w.heap.size + 1 + 1 + 1) 29 (.slice A (nodesL pre).length c) := hvd.other (by omega) _
    have s0 : Boxed (X.setCell ⟨w.heap.size, 0, none⟩ (.slice none 0 0)) w.heap.size 29 (.slice none 0 0) := r0.set _
    have s1 : Boxed (X.setCell ⟨w.heap.size, 0, none⟩ (.slice none 0 0)) (w.heap.size + 1) 3 (.int .i64 0) := r1.other (by omega) _
    have s2 : Boxed (X.setCell ⟨w.heap.size, 0, none⟩ (.slice none 0 0)) (w.heap.size + 1 + 1) 26 (.int .i64 0) := r2.other (by omega) _
    have cv1 := v1.cell
    have f1 := s1.frozen
    have k1 := s1.cell
    have t0 : Boxed ((X.setCell ⟨w.heap.size, 0, none⟩ (.slice none 0 0)).setCell ⟨w.heap.size + 1, 0, none⟩ (.int .i64 (nodesL pre).length)) w.heap.size 29 (.slice none 0 0) := s0.other (by omega) _
    have t1 : Boxed ((X.setCell ⟨w.heap.size, 0, none⟩ (.slice none 0 0)).setCell ⟨w.heap.size + 1, 0, none⟩ (.int .i64 (nodesL pre).length)) (w.heap.size + 1) 3 (.int .i64 (nodesL pre).length) := s1.set _
    have t2 : Boxed ((X.setCell ⟨w.heap.size, 0, none⟩ (.slice none 0 0)).setCell ⟨w.heap.size + 1, 0, none⟩ (.int .i64 (nodesL pre).length)) (w.heap.size + 1 + 1) 26 (.int .i64 0) := s2.other (by omega) _
    have f2 := t2.frozen
    have k2 := t2.cell
    have hend : (∀ B, KeepsFrom B W (((X.setCell ⟨w.heap.size, 0, none⟩ (.slice none 0 0)).setCell ⟨w.heap.size + 1, 0, none⟩ (.int .i64 (nodesL pre).length)).setCell ⟨w.heap.size + 1 + 1, 0, none⟩ (.int .i64 25))) ∧ PsX w.heap.size w (pre ++ [x]) (((X.setCell ⟨w.heap.size, 0, none⟩ (.slice none 0 0)).setCell ⟨w.heap.size + 1, 0, none⟩ (.int .i64 (nodesL pre).length)).setCell ⟨w.heap.size + 1 + 1, 0, none⟩ (.int .i64 25)) :=
      ⟨fun B => (hkf B).trans ((((KeepsOthers.setCell _ _ _).trans (KeepsOthers.setCell _ _ _)).trans (KeepsOthers.setCell _ _ _)).from _), ⟨pre, x, rfl, hgd, hlb, t1.other (by omega) _⟩, t0.other (by omega) _, t2.set _, ⟨z, ((r4.other (by omega) _).other (by omega) _).other (by omega) _⟩, (((hbl.setCell (p := ⟨w.heap.size, 0, none⟩) (Nat.le_refl _) _).setCell (p := ⟨w.heap.size + 1, 0, none⟩) (by simp only; omega) _).setCell (p := ⟨w.heap.size + 1 + 1, 0, none⟩) (by simp only; omega) _)⟩
    clear r0 r1 r2 r4 s0 s1 s2 t0 t1 t2 hvd v1 hbl hkf
    have HE := Lib.hid hend
    clear hend
    intro o ho
    simp only [List.mem_cons, List.not_mem_nil, or_false] at ho
    rcases ho with rfl | rfl | rfl <;> (simp only [List.filterMap_cons, opAt, List.filterMap_nil]; gi_wp2; exact ⟨HE.out.1 _, rfl, HE.out.2⟩)
    -- case 3 ''
    gi_wp2_with (first
      | (refine ⟨trivial, ?_⟩; gi_at_call 129; refine (CallsIn.inRound lp (callsIn_wide.2 hcs)).mono ?_; rintro e w0 ⟨rfl, rfl⟩)
      | (refine ⟨trivial, ?_⟩; gi_at_call 130; refine (CallsIn.inRound lp (callsIn_wide.2 hsp)).mono ?_; rintro e w0 ⟨rfl, rfl⟩)
      | (refine ⟨trivial, ?_⟩; gi_at_call 132; refine (CallsIn.inRound lp (callsIn_wide.2 (hw0 _ _ ht0))).mono ?_; rintro e w1 ⟨rfl, ht1, hg1⟩; have hb1 := below_grown1 hb0 hg1 (Nat.le_refl _) (Nat.le_succ _))
      | (refine ⟨trivial, ?_⟩; gi_at_call 132; refine (CallsIn.inRound lp (callsIn_wide.2 (hw1 _ _ ht1))).mono ?_; rintro e w2 ⟨rfl, ht2, hg2⟩; have hb2 := below_grown1 hb1 hg2 (Nat.le_refl _) (Nat.le_succ _); have hlt := ht2.lt; have bn2 := BoxC.new w2 125 #[.string y1, .string ⟨#[]⟩, .int .i64 0, .int .i64 0, .int .i64 0, .int .i64 0, .int .i64 0]; have ht2' := ht2.kept (World.grownBy_alloc w2 (.cells #[.string y1, .string ⟨#[]⟩, .int .i64 0, .int .i64 0, .int .i64 0, .int .i64 0, .int .i64 0] 125) none) (fun r e => by cases e); have hb2' := hb2.alloc hb2.size (.cells #[.string y1, .string ⟨#[]⟩, .int .i64 0, .int .i64 0, .int .i64 0, .int .i64 0, .int .i64 0] 125); have hsz2 := hb2.size)
      | (refine ⟨trivial, ?_⟩; gi_at_call 132; refine (CallsIn.inRound lp (callsIn_wide.2 (hw2 _ _ ht2'))).mono ?_; rintro e w3 ⟨rfl, ht3, hg3⟩; have hb3 := below_grown1 hb2' hg3 (Nat.le_refl _) (Nat.le_succ _); have bn3 := bn2.kept hg3 (fun e => by have := Option.some.inj e; omega); have fz3 := bn3.frozen; have bn3' : BoxC (w3.setCell ⟨w2.heap.size, 1, none⟩ (.string y2)) w2.heap.size 125 #[.string y1, .string y2, .int .i64 0, .int .i64 0, .int .i64 0, .int .i64 0, .int .i64 0] := bn3.setC 1 _; have c31 := bn3'.cell 1 _ rfl; have d31 := bn3.cell 1 _ rfl; have fz3' := bn3'.frozen; have ht3' := ht3.set w2.heap.size 1 (.string y2) hlt; have hb3' := hb3.setCell (p := ⟨w2.heap.size, 1, none⟩) hsz2 (.string y2); have bn3'' : BoxC ((w3.setCell ⟨w2.heap.size, 1, none⟩ (.string y2)).setCell ⟨w2.heap.size, 1, none⟩ (.string ⟨#[]⟩)) w2.heap.size 125 #[.string y1, .string ⟨#[]⟩, .int .i64 0, .int .i64 0, .int .i64 0, .int .i64 0, .int .i64 0] := bn3'.setC 1 _; have fz3'' := bn3''.frozen; have ht3'' := ht3'.set w2.heap.size 1 (.string ⟨#[]⟩) hlt; have hb3'' := hb3'.setCell (p := ⟨w2.heap.size, 1, none⟩) hsz2 (.string ⟨#[]⟩))
      | (refine ⟨trivial, ?_⟩; gi_at_call 131; refine (CallsIn.inRound lp (callsIn_wide.2 (hn3 _ _ ht3''))).mono ?_; rintro e w4 ⟨rfl, ht4, hg4⟩; have hb4 := below_grown1 hb3'' hg4 (Nat.le_refl _) (Nat.le_succ _); have bn4 := bn3''.kept hg4 (fun e => by have := Option.some.inj e; omega); have fz4 := bn4.frozen; have d4 := bn4.cell 2 _ rfl; have bn4' : BoxC (w4.setCell ⟨w2.heap.size, 2, none⟩ (.int .i64 z3)) w2.heap.size 125 #[.string y1, .string ⟨#[]⟩, .int .i64 z3, .int .i64 0, .int .i64 0, .int .i64 0, .int .i64 0] := bn4.setC 2 _; have ht4' := ht4.set w2.heap.size 2 (.int .i64 z3) hlt; have hb4' := hb4.setCell (p := ⟨w2.heap.size, 2, none⟩) hsz2 (.int .i64 z3))
      | (refine ⟨trivial, ?_⟩; gi_at_call 131; refine (CallsIn.inRound lp (callsIn_wide.2 (hn4 _ _ ht4'))).mono ?_; rintro e w5 ⟨rfl, ht5, hg5⟩; have hb5 := below_grown1 hb4' hg5 (Nat.le_refl _) (Nat.le_succ _); have bn5 := bn4'.kept hg5 (fun e => by have := Option.some.inj e; omega); have fz5 := bn5.frozen; have d5 := bn5.cell 3 _ rfl; have bn5' : BoxC (w5.setCell ⟨w2.heap.size, 3, none⟩ (.int .i64 z4)) w2.heap.size 125 #[.string y1, .string ⟨#[]⟩, .int .i64 z3, .int .i64 z4, .int .i64 0, .int .i64 0, .int .i64 0] := bn5.setC 3 _; have ht5' := ht5.set w2.heap.size 3 (.int .i64 z4) hlt; have hb5' := hb5.setCell (p := ⟨w2.heap.size, 3, none⟩) hsz2 (.int .i64 z4))
      | (refine ⟨trivial, ?_⟩; gi_at_call 131; refine (CallsIn.inRound lp (callsIn_wide.2 (hn5 _ _ ht5'))).mono ?_; rintro e w6 ⟨rfl, ht6, hg6⟩; have hb6 := below_grown1 hb5' hg6 (Nat.le_refl _) (Nat.le_succ _); have bn6 := bn5'.kept hg6 (fun e => by have := Option.some.inj e; omega); have fz6 := bn6.frozen; have d6 := bn6.cell 4 _ rfl; have bn6' : BoxC (w6.setCell ⟨w2.heap.size, 4, none⟩ (.int .i64 z5)) w2.heap.size 125 #[.string y1, .string ⟨#[]⟩, .int .i64 z3, .int .i64 z4, .int .i64 z5, .int .i64 0, .int .i64 0] := bn6.setC 4 _; have ht6' := ht6.set w2.heap.size 4 (.int .i64 z5) hlt; have hb6' := hb6.setCell (p := ⟨w2.heap.size, 4, none⟩) hsz2 (.int .i64 z5))
      | (refine ⟨trivial, ?_⟩; gi_at_call 131; refine (CallsIn.inRound lp (callsIn_wide.2 (hn6 _ _ ht6'))).mono ?_; rintro e w7 ⟨rfl, ht7, hg7⟩; have hb7 := below_grown1 hb6' hg7 (Nat.le_refl _) (Nat.le_succ _); have bn7 := bn6'.kept hg7 (fun e => by have := Option.some.inj e; omega); have fz7 := bn7.frozen; have d7 := bn7.cell 5 _ rfl; have bn7' : BoxC (w7.setCell ⟨w2.heap.size, 5, none⟩ (.int .i64 z6)) w2.heap.size 125 #[.string y1, .string ⟨#[]⟩, .int .i64 z3, .int .i64 z4, .int .i64 z5, .int .i64 z6, .int .i64 0] := bn7.setC 5 _; have ht7' := ht7.set w2.heap.size 5 (.int .i64 z6) hlt; have hb7' := hb7.setCell (p := ⟨w2.heap.size, 5, none⟩) hsz2 (.int .i64 z6))
      | (refine ⟨trivial, ?_⟩; gi_at_call 131; refine (CallsIn.inRound lp (callsIn_wide.2 (hn7 _ _ ht7'))).mono ?_; rintro e w8 ⟨rfl, ht8, hg8⟩; have hb8 := below_grown1 hb7' hg8 (Nat.le_refl _) (Nat.le_succ _); have bn8 := bn7'.kept hg8 (fun e => by have := Option.some.inj e; omega); have fz8 := bn8.frozen; have d8 := bn8.cell 6 _ rfl; have bn8' : BoxC (w8.setCell ⟨w2.heap.size, 6, none⟩ (.int .i64 z7)) w2.heap.size 125 #[.string y1, .string ⟨#[]⟩, .int .i64 z3, .int .i64 z4, .int .i64 z5, .int .i64 z6, .int .i64 z7] := bn8.setC 6 _; have ht8' := ht8.set w2.heap.size 6 (.int .i64 z7) hlt; have hb8' := hb8.setCell (p := ⟨w2.heap.size, 6, none⟩) hsz2 (.int .i64 z7); obtain ⟨A8, c8, bt8, hc8, hm8, hr8⟩ := ht8'; have ct0 := bt8.cell 0 _ rfl; have ct1 := bt8.cell 1 _ rfl; have hvE := (hb8'.block _ hv.lt).trans hv; have hcv := Boxed.cell hvE; have hrow8 := hrow.ext hb8'; have c80 := bn8'.cell 0 _ rfl; have c81 := bn8'.cell 1 _ rfl; have c82 := bn8'.cell 2 _ rfl; have c83 := bn8'.cell 3 _ rfl; have c84 := bn8'.cell 4 _ rfl; have c85 := bn8'.cell 5 _ rfl; have c86 := bn8'.cell 6 _ rfl)
      | (gi_at_builtin; refine own_appendIn (w0 := W) rfl _ _ 29 _ 72 rfl Tryz.underlying29 infoN rfl (by decide) (by decide) encN_len _ (nodesL pre) ⟨y1, ⟨#[]⟩, z3, z4, z5, z6, z7⟩ _ rfl rfl (by rw [World.size_setCell]; rfl) (by simp [encN, Value.oneCell']) hrow8 (hb8'.mono hW5) (Nat.le_trans hW5 hb8'.size) (by omega) ?_; intro v1 w9 hown hbv hgv hnn; obtain ⟨hv1, hv2, hr2, hk2⟩ := boxed_app5 hvE (by decide) hrow8 hown hgv; obtain ⟨g', cap', rfl⟩ := ownsRow_succ (k := (nodesL pre).length) (by unfold Own at hown; simpa using hown); have hc1 := hv1.cell; have hf1 := hv1.frozen))
    have hvd : Boxed (w8.setCell ⟨w2.heap.size, 6, none⟩ (.int .i64 z7)).drew (w.heap.size + 1 + 1 + 1) 29 (.slice A (nodesL pre).length c) := hvE
    have r0 : Boxed (w8.setCell ⟨w2.heap.size, 6, none⟩ (.int .i64 z7)).drew w.heap.size 29 (.slice none 0 0) := (hb8'.block _ (by omega)).trans hI.r0
    have r1 : Boxed (w8.setCell ⟨w2.heap.size, 6, none⟩ (.int .i64 z7)).drew (w.heap.size + 1) 3 (.int .i64 0) := (hb8'.block _ (by omega)).trans hI.r1
    have r2 : Boxed (w8.setCell ⟨w2.heap.size, 6, none⟩ (.int .i64 z7)).drew (w.heap.size + 1 + 1) 26 (.int .i64 0) := (hb8'.block _ (by omega)).trans hI.r2
    obtain ⟨z, hz⟩ := hI.sb
    have r4 : Boxed (w8.setCell ⟨w2.heap.size, 6, none⟩ (.int .i64 z7)).drew (w.heap.size + 1 + 1 + 1 + 1) 9 z := (hb8'.block _ (by omega)).trans hz
    have hbl : Below w.heap.size w (w8.setCell ⟨w2.heap.size, 6, none⟩ (.int .i64 z7)).drew := (hI.below.trans (hb8'.mono (by omega))).drew
    have hkf : ∀ B, KeepsFrom B W (w8.setCell ⟨w2.heap.size, 6, none⟩ (.int .i64 z7)).drew := fun B => (KeepsFrom.ofBelow hb8').trans ((KeepsOthers.drew _).from _)
    have hlb : (lineS x).2 = true := by rw [HLS.out]; simp [hd2, hd4]
    have hgd := hI.good
    refine wpIn_region_orders [[0, 1, 2, 3, 4], [0, 2, 1, 3, 4], [2, 0, 1, 3, 4]] (by kernel_rfl) (by kernel_rfl) ?_
    generalize (w8.setCell ⟨w2.heap.size, 6, none⟩ (.int .i64 z7)).drew = X at hvd r0 r1 r2 r4 hbl hkf ⊢
    clear hvE hb8' hcv hrow8 hI HLS
    have cv := hvd.cell
    have f0 := r0.frozen
    have k0 := r0.cell
    have v1 : Boxed (X.setCell ⟨w.heap.size, 0, none⟩ (.slice none 0 0)) (w.heap.size + 1 + 1 + 1) 29 (.slice A (nodesL pre).length c) := hvd.other (by omega) _
    have s0 : Boxed (X.setCell ⟨w.heap.size, 0, none⟩ (.slice none 0 0)) w.heap.size 29 (.slice none 0 0) := r0.set _
    have s1 : Boxed (X.setCell ⟨w.heap.size, 0, none⟩ (.slice none 0 0)) (w.heap.size + 1) 3 (.int .i64 0) := r1.other (by omega) _
    have s2 : Boxed (X.setCell ⟨w.heap.size, 0, none⟩ (.slice none 0 0)) (w.heap.size + 1 + 1) 26 (.int .i64 0) := r2.other (by omega) _
    have cv1 := v1.cell
    have f1 := s1.frozen
    have k1 := s1.cell
    have t0 : Boxed ((X.setCell ⟨w.heap.size, 0, none⟩ (.slice none 0 0)).setCell ⟨w.heap.size + 1, 0, none⟩ (.int .i64 (nodesL pre).length)) w.heap.size 29 (.slice none 0 0) := s0.other (by omega) _
    have t1 : Boxed ((X.setCell ⟨w.heap.size, 0, none⟩ (.slice none 0 0)).setCell ⟨w.heap.size + 1, 0, none⟩ (.int .i64 (nodesL pre).length)) (w.heap.size + 1) 3 (.int .i64 (nodesL pre).length) := s1.set _
    have t2 : Boxed ((X.setCell ⟨w.heap.size, 0, none⟩ (.slice none 0 0)).setCell ⟨w.heap.size + 1, 0, none⟩ (.int .i64 (nodesL pre).length)) (w.heap.size + 1 + 1) 26 (.int .i64 0) := s2.other (by omega) _
    have f2 := t2.frozen
    have k2 := t2.cell
    have hend : (∀ B, KeepsFrom B W (((X.setCell ⟨w.heap.size, 0, none⟩ (.slice none 0 0)).setCell ⟨w.heap.size + 1, 0, none⟩ (.int .i64 (nodesL pre).length)).setCell ⟨w.heap.size + 1 + 1, 0, none⟩ (.int .i64 25))) ∧ PsX w.heap.size w (pre ++ [x]) (((X.setCell ⟨w.heap.size, 0, none⟩ (.slice none 0 0)).setCell ⟨w.heap.size + 1, 0, none⟩ (.int .i64 (nodesL pre).length)).setCell ⟨w.heap.size + 1 + 1, 0, none⟩ (.int .i64 25)) :=
      ⟨fun B => (hkf B).trans ((((KeepsOthers.setCell _ _ _).trans (KeepsOthers.setCell _ _ _)).trans (KeepsOthers.setCell _ _ _)).from _), ⟨pre, x, rfl, hgd, hlb, t1.other (by omega) _⟩, t0.other (by omega) _, t2.set _, ⟨z, ((r4.other (by omega) _).other (by omega) _).other (by omega) _⟩, (((hbl.setCell (p := ⟨w.heap.size, 0, none⟩) (Nat.le_refl _) _).setCell (p := ⟨w.heap.size + 1, 0, none⟩) (by simp only; omega) _).setCell (p := ⟨w.heap.size + 1 + 1, 0, none⟩) (by simp only; omega) _)⟩
    clear r0 r1 r2 r4 s0 s1 s2 t0 t1 t2 hvd v1 hbl hkf
    have HE := Lib.hid hend
    clear hend
    intro o ho
    simp only [List.mem_cons, List.not_mem_nil, or_false] at ho
    rcases ho with rfl | rfl | rfl <;> (simp only [List.filterMap_cons, opAt, List.filterMap_nil]; gi_wp2; exact ⟨HE.out.1 _, rfl, HE.out.2⟩)
    -- case 4 '
    gi_wp2_with (first
      | (refine ⟨trivial, ?_⟩; gi_at_call 129; refine (CallsIn.inRound lp (callsIn_wide.2 hcs)).mono ?_; rintro e w0 ⟨rfl, rfl⟩)
      | (refine ⟨trivial, ?_⟩; gi_at_call 130; refine (CallsIn.inRound lp (callsIn_wide.2 hsp)).mono ?_; rintro e w0 ⟨rfl, rfl⟩)
      | (refine ⟨trivial, ?_⟩; gi_at_call 132; refine (CallsIn.inRound lp (callsIn_wide.2 (hw0 _ _ ht0))).mono ?_; rintro e w1 ⟨rfl, ht1, hg1⟩; have hb1 := below_grown1 hb0 hg1 (Nat.le_refl _) (Nat.le_succ _))
      | (refine ⟨trivial, ?_⟩; gi_at_call 132; refine (CallsIn.inRound lp (callsIn_wide.2 (hw1 _ _ ht1))).mono ?_; rintro e w2 ⟨rfl, ht2, hg2⟩; have hb2 := below_grown1 hb1 hg2 (Nat.le_refl _) (Nat.le_succ _); have hlt := ht2.lt; have bn2 := BoxC.new w2 125 #[.string y1, .string ⟨#[]⟩, .int .i64 0, .int .i64 0, .int .i64 0, .int .i64 0, .int .i64 0]; have ht2' := ht2.kept (World.grownBy_alloc w2 (.cells #[.string y1, .string ⟨#[]⟩, .int .i64 0, .int .i64 0, .int .i64 0, .int .i64 0, .int .i64 0] 125) none) (fun r e => by cases e); have hb2' := hb2.alloc hb2.size (.cells #[.string y1, .string ⟨#[]⟩, .int .i64 0, .int .i64 0, .int .i64 0, .int .i64 0, .int .i64 0] 125); have hsz2 := hb2.size)
      | (refine ⟨trivial, ?_⟩; gi_at_call 132; refine (CallsIn.inRound lp (callsIn_wide.2 (hw2 _ _ ht2'))).mono ?_; rintro e w3 ⟨rfl, ht3, hg3⟩; have hb3 := below_grown1 hb2' hg3 (Nat.le_refl _) (Nat.le_succ _); have bn3 := bn2.kept hg3 (fun e => by have := Option.some.inj e; omega); have fz3 := bn3.frozen; have bn3' : BoxC (w3.setCell ⟨w2.heap.size, 1, none⟩ (.string y2)) w2.heap.size 125 #[.string y1, .string y2, .int .i64 0, .int .i64 0, .int .i64 0, .int .i64 0, .int .i64 0] := bn3.setC 1 _; have c31 := bn3'.cell 1 _ rfl; have d31 := bn3.cell 1 _ rfl; have fz3' := bn3'.frozen; have ht3' := ht3.set w2.heap.size 1 (.string y2) hlt; have hb3' := hb3.setCell (p := ⟨w2.heap.size, 1, none⟩) hsz2 (.string y2); have bn3'' : BoxC ((w3.setCell ⟨w2.heap.size, 1, none⟩ (.string y2)).setCell ⟨w2.heap.size, 1, none⟩ (.string ⟨#[]⟩)) w2.heap.size 125 #[.string y1, .string ⟨#[]⟩, .int .i64 0, .int .i64 0, .int .i64 0, .int .i64 0, .int .i64 0] := bn3'.setC 1 _; have fz3'' := bn3''.frozen; have ht3'' := ht3'.set w2.heap.size 1 (.string ⟨#[]⟩) hlt; have hb3'' := hb3'.setCell (p := ⟨w2.heap.size, 1, none⟩) hsz2 (.string ⟨#[]⟩))
      | (refine ⟨trivial, ?_⟩; gi_at_call 131; refine (CallsIn.inRound lp (callsIn_wide.2 (hn3 _ _ ht3'))).mono ?_; rintro e w4 ⟨rfl, ht4, hg4⟩; have hb4 := below_grown1 hb3' hg4 (Nat.le_refl _) (Nat.le_succ _); have bn4 := bn3'.kept hg4 (fun e => by have := Option.some.inj e; omega); have fz4 := bn4.frozen; have d4 := bn4.cell 2 _ rfl; have bn4' : BoxC (w4.setCell ⟨w2.heap.size, 2, none⟩ (.int .i64 z3)) w2.heap.size 125 #[.string y1, .string y2, .int .i64 z3, .int .i64 0, .int .i64 0, .int .i64 0, .int .i64 0] := bn4.setC 2 _; have ht4' := ht4.set w2.heap.size 2 (.int .i64 z3) hlt; have hb4' := hb4.setCell (p := ⟨w2.heap.size, 2, none⟩) hsz2 (.int .i64 z3))
      | (refine ⟨trivial, ?_⟩; gi_at_call 131; refine (CallsIn.inRound lp (callsIn_wide.2 (hn4 _ _ ht4'))).mono ?_; rintro e w5 ⟨rfl, ht5, hg5⟩; have hb5 := below_grown1 hb4' hg5 (Nat.le_refl _) (Nat.le_succ _); have bn5 := bn4'.kept hg5 (fun e => by have := Option.some.inj e; omega); have fz5 := bn5.frozen; have d5 := bn5.cell 3 _ rfl; have bn5' : BoxC (w5.setCell ⟨w2.heap.size, 3, none⟩ (.int .i64 z4)) w2.heap.size 125 #[.string y1, .string y2, .int .i64 z3, .int .i64 z4, .int .i64 0, .int .i64 0, .int .i64 0] := bn5.setC 3 _; have ht5' := ht5.set w2.heap.size 3 (.int .i64 z4) hlt; have hb5' := hb5.setCell (p := ⟨w2.heap.size, 3, none⟩) hsz2 (.int .i64 z4))
      | (refine ⟨trivial, ?_⟩; gi_at_call 131; refine (CallsIn.inRound lp (callsIn_wide.2 (hn5 _ _ ht5'))).mono ?_; rintro e w6 ⟨rfl, ht6, hg6⟩; have hb6 := below_grown1 hb5' hg6 (Nat.le_refl _) (Nat.le_succ _); have bn6 := bn5'.kept hg6 (fun e => by have := Option.some.inj e; omega); have fz6 := bn6.frozen; have d6 := bn6.cell 4 _ rfl; have bn6' : BoxC (w6.setCell ⟨w2.heap.size, 4, none⟩ (.int .i64 z5)) w2.heap.size 125 #[.string y1, .string y2, .int .i64 z3, .int .i64 z4, .int .i64 z5, .int .i64 0, .int .i64 0] := bn6.setC 4 _; have ht6' := ht6.set w2.heap.size 4 (.int .i64 z5) hlt; have hb6' := hb6.setCell (p := ⟨w2.heap.size, 4, none⟩) hsz2 (.int .i64 z5))
      | (refine ⟨trivial, ?_⟩; gi_at_call 131; refine (CallsIn.inRound lp (callsIn_wide.2 (hn6 _ _ ht6'))).mono ?_; rintro e w7 ⟨rfl, ht7, hg7⟩; have hb7 := below_grown1 hb6' hg7 (Nat.le_refl _) (Nat.le_succ _); have bn7 := bn6'.kept hg7 (fun e => by have := Option.some.inj e; omega); have fz7 := bn7.frozen; have d7 := bn7.cell 5 _ rfl; have bn7' : BoxC (w7.setCell ⟨w2.heap.size, 5, none⟩ (.int .i64 z6)) w2.heap.size 125 #[.string y1, .string y2, .int .i64 z3, .int .i64 z4, .int .i64 z5, .int .i64 z6, .int .i64 0] := bn7.setC 5 _; have ht7' := ht7.set w2.heap.size 5 (.int .i64 z6) hlt; have hb7' := hb7.setCell (p := ⟨w2.heap.size, 5, none⟩) hsz2 (.int .i64 z6))
      | (refine ⟨trivial, ?_⟩; gi_at_call 131; refine (CallsIn.inRound lp (callsIn_wide.2 (hn7 _ _ ht7'))).mono ?_; rintro e w8 ⟨rfl, ht8, hg8⟩; have hb8 := below_grown1 hb7' hg8 (Nat.le_refl _) (Nat.le_succ _); have bn8 := bn7'.kept hg8 (fun e => by have := Option.some.inj e; omega); have fz8 := bn8.frozen; have d8 := bn8.cell 6 _ rfl; have bn8' : BoxC (w8.setCell ⟨w2.heap.size, 6, none⟩ (.int .i64 z7)) w2.heap.size 125 #[.string y1, .string y2, .int .i64 z3, .int .i64 z4, .int .i64 z5, .int .i64 z6, .int .i64 z7] := bn8.setC 6 _; have ht8' := ht8.set w2.heap.size 6 (.int .i64 z7) hlt; have hb8' := hb8.setCell (p := ⟨w2.heap.size, 6, none⟩) hsz2 (.int .i64 z7); obtain ⟨A8, c8, bt8, hc8, hm8, hr8⟩ := ht8'; have ct0 := bt8.cell 0 _ rfl; have ct1 := bt8.cell 1 _ rfl; have hvE := (hb8'.block _ hv.lt).trans hv; have hcv := Boxed.cell hvE; have hrow8 := hrow.ext hb8'; have c80 := bn8'.cell 0 _ rfl; have c81 := bn8'.cell 1 _ rfl; have c82 := bn8'.cell 2 _ rfl; have c83 := bn8'.cell 3 _ rfl; have c84 := bn8'.cell 4 _ rfl; have c85 := bn8'.cell 5 _ rfl; have c86 := bn8'.cell 6 _ rfl)
      | (gi_at_builtin; refine own_appendIn (w0 := W) rfl _ _ 29 _ 72 rfl Tryz.underlying29 infoN rfl (by decide) (by decide) encN_len _ (nodesL pre) ⟨y1, y2, z3, z4, z5, z6, z7⟩ _ rfl rfl (by rw [World.size_setCell]; rfl) (by simp [encN, Value.oneCell']) hrow8 (hb8'.mono hW5) (Nat.le_trans hW5 hb8'.size) (by omega) ?_; intro v1 w9 hown hbv hgv hnn; obtain ⟨hv1, hv2, hr2, hk2⟩ := boxed_app5 hvE (by decide) hrow8 hown hgv; obtain ⟨g', cap', rfl⟩ := ownsRow_succ (k := (nodesL pre).length) (by unfold Own at hown; simpa using hown); have hc1 := hv1.cell; have hf1 := hv1.frozen))
    refine ⟨(KeepsFrom.ofBelow hb8').trans (hk2.from _), (heap_setCell_other _ _ _ _ (by simp)).trans (hbv.block _ (by omega)), ?_⟩
    have hy : goodP (pre ++ [x]) := fun y hy => by
      rcases List.mem_append.1 hy with hy | hy
      · exact hI.good y hy
      · rw [List.mem_singleton.1 hy, HLS.out]; simp [hd2, hd4]
    obtain ⟨z, hz⟩ := hI.sb
    have hn : nodesL (pre ++ [x]) = nodesL pre ++ [⟨y1, y2, z3, z4, z5, z6, z7⟩] := by rw [nodesL_snoc, HLS.out]; simp only [dashP, hd1]; rfl
    refine ⟨⟨_, hv2, by rw [hn]; exact hr2, fun h => by rw [hn] at h; simp at h⟩, ?_, ?_, ?_, ⟨z, ?_⟩, (hI.below.trans (hbv.mono (by omega))).setCell (p := ⟨w.heap.size + 1 + 1 + 1, 0, none⟩) (by simp only; omega) _, hy⟩
    · exact Boxed.other ((hbv.block _ (by omega)).trans hI.r0) (by omega) _
    · exact Boxed.other ((hbv.block _ (by omega)).trans hI.r1) (by omega) _
    · exact Boxed.other ((hbv.block _ (by omega)).trans hI.r2) (by omega) _
    · exact Boxed.other ((hbv.block _ (by omega)).trans hz) (by omega) _
    -- case 4 ''
    gi_wp2_with (first
      | (refine ⟨trivial, ?_⟩; gi_at_call 129; refine (CallsIn.inRound lp (callsIn_wide.2 hcs)).mono ?_; rintro e w0 ⟨rfl, rfl⟩)
      | (refine ⟨trivial, ?_⟩; gi_at_call 130; refine (CallsIn.inRound lp (callsIn_wide.2 hsp)).mono ?_; rintro e w0 ⟨rfl, rfl⟩)
      | (refine ⟨trivial, ?_⟩; gi_at_call 132; refine (CallsIn.inRound lp (callsIn_wide.2 (hw0 _ _ ht0))).mono ?_; rintro e w1 ⟨rfl, ht1, hg1⟩; have hb1 := below_grown1 hb0 hg1 (Nat.le_refl _) (Nat.le_succ _))
      | (refine ⟨trivial, ?_⟩; gi_at_call 132; refine (CallsIn.inRound lp (callsIn_wide.2 (hw1 _ _ ht1))).mono ?_; rintro e w2 ⟨rfl, ht2, hg2⟩; have hb2 := below_grown1 hb1 hg2 (Nat.le_refl _) (Nat.le_succ _); have hlt := ht2.lt; have bn2 := BoxC.new w2 125 #[.string y1, .string ⟨#[]⟩, .int .i64 0, .int .i64 0, .int .i64 0, .int .i64 0, .int .i64 0]; have ht2' := ht2.kept (World.grownBy_alloc w2 (.cells #[.string y1, .string ⟨#[]⟩, .int .i64 0, .int .i64 0, .int .i64 0, .int .i64 0, .int .i64 0] 125) none) (fun r e => by cases e); have hb2' := hb2.alloc hb2.size (.cells #[.string y1, .string ⟨#[]⟩, .int .i64 0, .int .i64 0, .int .i64 0, .int .i64 0, .int .i64 0] 125); have hsz2 := hb2.size)
      | (refine ⟨trivial, ?_⟩; gi_at_call 132; refine (CallsIn.inRound lp (callsIn_wide.2 (hw2 _ _ ht2'))).mono ?_; rintro e w3 ⟨rfl, ht3, hg3⟩; have hb3 := below_grown1 hb2' hg3 (Nat.le_refl _) (Nat.le_succ _); have bn3 := bn2.kept hg3 (fun e => by have := Option.some.inj e; omega); have fz3 := bn3.frozen; have bn3' : BoxC (w3.setCell ⟨w2.heap.size, 1, none⟩ (.string y2)) w2.heap.size 125 #[.string y1, .string y2, .int .i64 0, .int .i64 0, .int .i64 0, .int .i64 0, .int .i64 0] := bn3.setC 1 _; have c31 := bn3'.cell 1 _ rfl; have d31 := bn3.cell 1 _ rfl; have fz3' := bn3'.frozen; have ht3' := ht3.set w2.heap.size 1 (.string y2) hlt; have hb3' := hb3.setCell (p := ⟨w2.heap.size, 1, none⟩) hsz2 (.string y2); have bn3'' : BoxC ((w3.setCell ⟨w2.heap.size, 1, none⟩ (.string y2)).setCell ⟨w2.heap.size, 1, none⟩ (.string ⟨#[]⟩)) w2.heap.size 125 #[.string y1, .string ⟨#[]⟩, .int .i64 0, .int .i64 0, .int .i64 0, .int .i64 0, .int .i64 0] := bn3'.setC 1 _; have fz3'' := bn3''.frozen; have ht3'' := ht3'.set w2.heap.size 1 (.string ⟨#[]⟩) hlt; have hb3'' := hb3'.setCell (p := ⟨w2.heap.size, 1, none⟩) hsz2 (.string ⟨#[]⟩))
      | (refine ⟨trivial, ?_⟩; gi_at_call 131; refine (CallsIn.inRound lp (callsIn_wide.2 (hn3 _ _ ht3''))).mono ?_; rintro e w4 ⟨rfl, ht4, hg4⟩; have hb4 := below_grown1 hb3'' hg4 (Nat.le_refl _) (Nat.le_succ _); have bn4 := bn3''.kept hg4 (fun e => by have := Option.some.inj e; omega); have fz4 := bn4.frozen; have d4 := bn4.cell 2 _ rfl; have bn4' : BoxC (w4.setCell ⟨w2.heap.size, 2, none⟩ (.int .i64 z3)) w2.heap.size 125 #[.string y1, .string ⟨#[]⟩, .int .i64 z3, .int .i64 0, .int .i64 0, .int .i64 0, .int .i64 0] := bn4.setC 2 _; have ht4' := ht4.set w2.heap.size 2 (.int .i64 z3) hlt; have hb4' := hb4.setCell (p := ⟨w2.heap.size, 2, none⟩) hsz2 (.int .i64 z3))
      | (refine ⟨trivial, ?_⟩; gi_at_call 131; refine (CallsIn.inRound lp (callsIn_wide.2 (hn4 _ _ ht4'))).mono ?_; rintro e w5 ⟨rfl, ht5, hg5⟩; have hb5 := below_grown1 hb4' hg5 (Nat.le_refl _) (Nat.le_succ _); have bn5 := bn4'.kept hg5 (fun e => by have := Option.some.inj e; omega); have fz5 := bn5.frozen; have d5 := bn5.cell 3 _ rfl; have bn5' : BoxC (w5.setCell ⟨w2.heap.size, 3, none⟩ (.int .i64 z4)) w2.heap.size 125 #[.string y1, .string ⟨#[]⟩, .int .i64 z3, .int .i64 z4, .int .i64 0, .int .i64 0, .int .i64 0] := bn5.setC 3 _; have ht5' := ht5.set w2.heap.size 3 (.int .i64 z4) hlt; have hb5' := hb5.setCell (p := ⟨w2.heap.size, 3, none⟩) hsz2 (.int .i64 z4))
      | (refine ⟨trivial, ?_⟩; gi_at_call 131; refine (CallsIn.inRound lp (callsIn_wide.2 (hn5 _ _ ht5'))).mono ?_; rintro e w6 ⟨rfl, ht6, hg6⟩; have hb6 := below_grown1 hb5' hg6 (Nat.le_refl _) (Nat.le_succ _); have bn6 := bn5'.kept hg6 (fun e => by have := Option.some.inj e; omega); have fz6 := bn6.frozen; have d6 := bn6.cell 4 _ rfl; have bn6' : BoxC (w6.setCell ⟨w2.heap.size, 4, none⟩ (.int .i64 z5)) w2.heap.size 125 #[.string y1, .string ⟨#[]⟩, .int .i64 z3, .int .i64 z4, .int .i64 z5, .int .i64 0, .int .i64 0] := bn6.setC 4 _; have ht6' := ht6.set w2.heap.size 4 (.int .i64 z5) hlt; have hb6' := hb6.setCell (p := ⟨w2.heap.size, 4, none⟩) hsz2 (.int .i64 z5))
      | (refine ⟨trivial, ?_⟩; gi_at_call 131; refine (CallsIn.inRound lp (callsIn_wide.2 (hn6 _ _ ht6'))).mono ?_; rintro e w7 ⟨rfl, ht7, hg7⟩; have hb7 := below_grown1 hb6' hg7 (Nat.le_refl _) (Nat.le_succ _); have bn7 := bn6'.kept hg7 (fun e => by have := Option.some.inj e; omega); have fz7 := bn7.frozen; have d7 := bn7.cell 5 _ rfl; have bn7' : BoxC (w7.setCell ⟨w2.heap.size, 5, none⟩ (.int .i64 z6)) w2.heap.size 125 #[.string y1, .string ⟨#[]⟩, .int .i64 z3, .int .i64 z4, .int .i64 z5, .int .i64 z6, .int .i64 0] := bn7.setC 5 _; have ht7' := ht7.set w2.heap.size 5 (.int .i64 z6) hlt; have hb7' := hb7.setCell (p := ⟨w2.heap.size, 5, none⟩) hsz2 (.int .i64 z6))
      | (refine ⟨trivial, ?_⟩; gi_at_call 131; refine (CallsIn.inRound lp (callsIn_wide.2 (hn7 _ _ ht7'))).mono ?_; rintro e w8 ⟨rfl, ht8, hg8⟩; have hb8 := below_grown1 hb7' hg8 (Nat.le_refl _) (Nat.le_succ _); have bn8 := bn7'.kept hg8 (fun e => by have := Option.some.inj e; omega); have fz8 := bn8.frozen; have d8 := bn8.cell 6 _ rfl; have bn8' : BoxC (w8.setCell ⟨w2.heap.size, 6, none⟩ (.int .i64 z7)) w2.heap.size 125 #[.string y1, .string ⟨#[]⟩, .int .i64 z3, .int .i64 z4, .int .i64 z5, .int .i64 z6, .int .i64 z7] := bn8.setC 6 _; have ht8' := ht8.set w2.heap.size 6 (.int .i64 z7) hlt; have hb8' := hb8.setCell (p := ⟨w2.heap.size, 6, none⟩) hsz2 (.int .i64 z7); obtain ⟨A8, c8, bt8, hc8, hm8, hr8⟩ := ht8'; have ct0 := bt8.cell 0 _ rfl; have ct1 := bt8.cell 1 _ rfl; have hvE := (hb8'.block _ hv.lt).trans hv; have hcv := Boxed.cell hvE; have hrow8 := hrow.ext hb8'; have c80 := bn8'.cell 0 _ rfl; have c81 := bn8'.cell 1 _ rfl; have c82 := bn8'.cell 2 _ rfl; have c83 := bn8'.cell 3 _ rfl; have c84 := bn8'.cell 4 _ rfl; have c85 := bn8'.cell 5 _ rfl; have c86 := bn8'.cell 6 _ rfl)
      | (gi_at_builtin; refine own_appendIn (w0 := W) rfl _ _ 29 _ 72 rfl Tryz.underlying29 infoN rfl (by decide) (by decide) encN_len _ (nodesL pre) ⟨y1, ⟨#[]⟩, z3, z4, z5, z6, z7⟩ _ rfl rfl (by rw [World.size_setCell]; rfl) (by simp [encN, Value.oneCell']) hrow8 (hb8'.mono hW5) (Nat.le_trans hW5 hb8'.size) (by omega) ?_; intro v1 w9 hown hbv hgv hnn; obtain ⟨hv1, hv2, hr2, hk2⟩ := boxed_app5 hvE (by decide) hrow8 hown hgv; obtain ⟨g', cap', rfl⟩ := ownsRow_succ (k := (nodesL pre).length) (by unfold Own at hown; simpa using hown); have hc1 := hv1.cell; have hf1 := hv1.frozen))
    refine ⟨(KeepsFrom.ofBelow hb8').trans (hk2.from _), (heap_setCell_other _ _ _ _ (by simp)).trans (hbv.block _ (by omega)), ?_⟩
    have hy : goodP (pre ++ [x]) := fun y hy => by
      rcases List.mem_append.1 hy with hy | hy
      · exact hI.good y hy
      · rw [List.mem_singleton.1 hy, HLS.out]; simp [hd2, hd4]
    obtain ⟨z, hz⟩ := hI.sb
    have hn : nodesL (pre ++ [x]) = nodesL pre ++ [⟨y1, ⟨#[]⟩, z3, z4, z5, z6, z7⟩] := by rw [nodesL_snoc, HLS.out]; simp only [dashP, hd1]; rfl
    refine ⟨⟨_, hv2, by rw [hn]; exact hr2, fun h => by rw [hn] at h; simp at h⟩, ?_, ?_, ?_, ⟨z, ?_⟩, (hI.below.trans (hbv.mono (by omega))).setCell (p := ⟨w.heap.size + 1 + 1 + 1, 0, none⟩) (by simp only; omega) _, hy⟩
    · exact Boxed.other ((hbv.block _ (by omega)).trans hI.r0) (by omega) _
    · exact Boxed.other ((hbv.block _ (by omega)).trans hI.r1) (by omega) _
    · exact Boxed.other ((hbv.block _ (by omega)).trans hI.r2) (by omega) _
    · exact Boxed.other ((hbv.block _ (by omega)).trans hz) (by omega) _
  case done =>
    rintro D ys W hD rfl hI hK
    obtain ⟨v, hv, hrow, hnil⟩ := hI.out
    have hpl : parseL (linesB s) = (nodesL (linesB s), false) := parseL_good hI.good
    have hpv : parseV s = if checkNodesV (nodesL (linesB s)) ≠ 0 then ([], ((nodesL (linesB s)).length : Int), checkNodesV (nodesL (linesB s))) else (nodesL (linesB s), 0, 0) := by
      unfold parseV
      rw [if_neg hlong, hpl]
      rfl
    have hlen : (nodesL (linesB s)).length ≤ 4096 := by
      have h2 := linesF_len s.size s
      have h3 : (linesF s.size s).length = (linesB s).length := rfl
      simp only [nodesL, List.length_map]
      omega
    have hnm : Names (nodesL (linesB s)) := fun n hn => by
      obtain ⟨x, hx, rfl⟩ := List.mem_map.1 hn
      have h1 := lineS_name x
      have h2 := linesF_mem s.size s x hx
      omega
    have hcn := checkNodes_any (nodesL (linesB s)) v W (hrow.slat encN_len) hnm
    clear hpl hnm
    have hW5 : w.heap.size + 1 + 1 + 1 + 1 + 1 ≤ W.heap.size := by obtain ⟨z, hz⟩ := hI.sb; exact hz.lt
    have hDl : D < W.heap.size := (Array.getElem?_eq_some_iff.1 hK).1
    have hD5 : w.heap.size + 5 ≤ D := by omega
    have i0 := hI.r0
    have i1 := hI.r1
    have i2 := hI.r2
    have ib := hI.below
    clear hI hps hsb
    generalize nodesL (linesB s) = ns at *
    generalize checkNodesV ns = e1 at hcn hpv
    obtain ⟨A, c, rfl⟩ := hrow.slice
    have cvW := hv.cell
    cases hq : (e1 != 0)
    · obtain rfl : e1 = 0 := by simpa using hq
      rw [if_neg (by simp)] at hpv
      have HPV := Lib.hid hpv
      clear hpv
      gi_wp2_with (refine ⟨trivial, ?_⟩; gi_at_call 21; refine (callsIn_wide.2 hcn).mono ?_; rintro e w9 ⟨rfl, hb9⟩; have hv9 := (hb9.block _ (by omega)).trans hv; have j0 : Boxed w9 w.heap.size 29 (.slice none 0 0) := (hb9.block _ (by omega)).trans i0; have j1 : Boxed w9 (w.heap.size + 1) 3 (.int .i64 0) := (hb9.block _ (by omega)).trans i1; have j2 : Boxed w9 (w.heap.size + 1 + 1) 26 (.int .i64 0) := (hb9.block _ (by omega)).trans i2; have cv := Boxed.cell hv9; have f0 := j0.frozen; have k0 := j0.cell; have s1 : Boxed (w9.setCell ⟨w.heap.size, 0, none⟩ (.slice A ns.length c)) (w.heap.size + 1) 3 (.int .i64 0) := j1.other (by omega) _; have f1 := s1.frozen; have k1 := s1.cell; have s2 : Boxed ((w9.setCell ⟨w.heap.size, 0, none⟩ (.slice A ns.length c)).setCell ⟨w.heap.size + 1, 0, none⟩ (.int .i64 0)) (w.heap.size + 1 + 1) 26 (.int .i64 0) := (j2.other (by omega) _).other (by omega) _; have f2 := s2.frozen; have k2 := s2.cell)
      have hK9 : w9.heap[D]? = some (.deferred (some [])) := (hb9.block _ hDl).trans hK
      obtain ⟨q0, q1, q2, q3, q4⟩ := parse_end (u0 := .slice A ns.length c) (u1 := .int .i64 0) (u2 := .int .i64 0) j0 j1 j2 hD5 hK9 rfl (ib.trans (hb9.mono (by omega)))
      refine ⟨by simp, .inl ⟨_, _, rfl, run_takeDeferred q3, ?_⟩⟩
      exact ⟨_, results_cells3 rfl (load_nodes q0) (load_int q1) (load_errno q2) rfl rfl rfl, .slice A ns.length c, by rw [HPV.out], by rw [HPV.out]; exact ((((hrow.ext hb9).setc (by omega) _ _).setc (by omega) _ _).setc (by omega) _ _ |>.mono (by omega)).putObj _ q3 rfl, q4, by rw [HPV.out]; exact hnil⟩
    · have he1 : e1 ≠ 0 := by simpa using hq
      rw [if_pos he1] at hpv
      have HPV := Lib.hid hpv
      clear hpv he1
      gi_wp2_with (refine ⟨trivial, ?_⟩; gi_at_call 21; refine (callsIn_wide.2 hcn).mono ?_; rintro e w9 ⟨rfl, hb9⟩)
      have hv9 : Boxed w9.drew (w.heap.size + 1 + 1 + 1) 29 (.slice A ns.length c) := (hb9.block _ (by omega)).trans hv
      have j0 : Boxed w9.drew w.heap.size 29 (.slice none 0 0) := (hb9.block _ (by omega)).trans i0
      have j1 : Boxed w9.drew (w.heap.size + 1) 3 (.int .i64 0) := (hb9.block _ (by omega)).trans i1
      have j2 : Boxed w9.drew (w.heap.size + 1 + 1) 26 (.int .i64 0) := (hb9.block _ (by omega)).trans i2
      have hK9 : w9.drew.heap[D]? = some (.deferred (some [])) := (hb9.block _ hDl).trans hK
      have ib9 : Below w.heap.size w w9.drew := (ib.trans (hb9.mono (by omega))).drew
      refine wpIn_region_orders [[0, 1, 2, 3, 4, 5], [0, 1, 3, 2, 4, 5], [0, 1, 3, 4, 2, 5], [0, 2, 1, 3, 4, 5], [0, 2, 3, 1, 4, 5], [0, 3, 1, 2, 4, 5], [0, 3, 1, 4, 2, 5], [0, 3, 2, 1, 4, 5], [2, 0, 1, 3, 4, 5], [2, 0, 3, 1, 4, 5], [2, 3, 0, 1, 4, 5], [3, 0, 1, 2, 4, 5], [3, 0, 1, 4, 2, 5], [3, 0, 2, 1, 4, 5], [3, 2, 0, 1, 4, 5]] (by kernel_rfl) (by kernel_rfl) ?_
      generalize w9.drew = X at hv9 j0 j1 j2 hK9 ib9 ⊢
      have cv := hv9.cell
      have f0 := j0.frozen
      have k0 := j0.cell
      have v1 : Boxed (X.setCell ⟨w.heap.size, 0, none⟩ (.slice none 0 0)) (w.heap.size + 1 + 1 + 1) 29 (.slice A ns.length c) := hv9.other (by omega) _
      have s1 : Boxed (X.setCell ⟨w.heap.size, 0, none⟩ (.slice none 0 0)) (w.heap.size + 1) 3 (.int .i64 0) := j1.other (by omega) _
      have s2 : Boxed ((X.setCell ⟨w.heap.size, 0, none⟩ (.slice none 0 0)).setCell ⟨w.heap.size + 1, 0, none⟩ (.int .i64 ns.length)) (w.heap.size + 1 + 1) 26 (.int .i64 0) := (j2.other (by omega) _).other (by omega) _
      have cv1 := v1.cell
      have f1 := s1.frozen
      have k1 := s1.cell
      have f2 := s2.frozen
      have k2 := s2.cell
      have hend := parse_end (u0 := .slice none 0 0) (u1 := .int .i64 ns.length) (u2 := .int .i64 e1) j0 j1 j2 hD5 hK9 rfl ib9
      have HE := Lib.hid hend
      clear hend j0 j1 j2 v1 s1 s2 hv9 hK9 ib9 hK hb9 i0 i1 i2 hcn hrow hnil cvW hv
      intro o ho
      simp only [List.mem_cons, List.not_mem_nil, or_false] at ho
      rcases ho with rfl | rfl | rfl | rfl | rfl | rfl | rfl | rfl | rfl | rfl | rfl | rfl | rfl | rfl | rfl <;> (simp only [List.filterMap_cons, opAt, List.filterMap_nil]; gi_wp2; obtain ⟨q0, q1, q2, q3, q4⟩ := HE.out; refine ⟨by simp, .inl ⟨_, _, rfl, run_takeDeferred q3, ?_⟩⟩; exact ⟨_, results_cells3 rfl (load_nodes q0) (load_int q1) (load_errno q2) rfl rfl rfl, .slice none 0 0, by rw [HPV.out], by rw [HPV.out]; exact Own.nil _, q4, fun _ => rfl⟩)
  case stop =>
    rintro D c pre W hD hSp ⟨rfl, hX⟩ hK
    obtain ⟨p, x, rfl, hgp, hbx, hat⟩ := hX.at_
    obtain ⟨r, hr⟩ := hSp
    have hpl : parseL (linesB s) = (nodesL p, true) := by rw [← hr, List.append_assoc]; exact parseL_bad hgp hbx
    have hpv : parseV s = ([], ((nodesL p).length : Int), 25) := by
      unfold parseV
      rw [if_neg hlong, hpl]
      rfl
    have HPV := Lib.hid hpv
    have i0 := hX.r0
    have i2 := hX.r2
    have ib := hX.below
    have hW5 : w.heap.size + 1 + 1 + 1 + 1 + 1 ≤ W.heap.size := by obtain ⟨z, hz⟩ := hX.sb; exact hz.lt
    have hD5 : w.heap.size + 5 ≤ D := by omega
    clear hpv hpl hr hX
    gi_wp2
    refine ⟨by simp, .inl ⟨_, _, rfl, run_takeDeferred hK, ?_⟩⟩
    exact ⟨_, results_cells3 rfl (load_nodes (Boxed.putD i0 (by omega) _)) (load_int (Boxed.putD hat (by omega) _)) (load_errno (Boxed.putD i2 (by omega) _)) rfl rfl rfl, .slice none 0 0, by rw [HPV.out], by rw [HPV.out]; exact Own.nil _, ib.trans (belowK_b (w := w) (Nat.le_refl _) W D _ _ (by omega) hK rfl rfl), fun _ => rfl⟩
end Go.Proofs.YtlogjgmfkjjhjaaGreatDoor
