/-
  The iterator feeder.chain: it visits the nodes of a chain, from a node up to the root. Condition: each parent lies before its node.
  slices.AppendSeq, slices.Collect at nodes; feeder.chain, feeder.names. At most 2^20 nodes; each parent lies before its node.
-/
import Derived.Test.YtlogjgmfkjjhjaaGreatDoorX04
import Derived.Test.YtlogjgmfkjjhjaaGreatDoorX02
import Derived.RangeFuncNested
import Derived.RangeFuncBound
import Derived.RangeFuncCalls
import Derived.RangeFuncLeaves
import Derived.RangeFuncBox
import Derived.Shelf.Abstract
import Derived.OwnWalkIn
import Derived.TacticsInMore
import Derived.LoopNIn
import Derived.LoopIn
import Derived.Maps.OwnIn
set_option linter.unusedSimpArgs false
set_option linter.unusedVariables false
namespace Go.Proofs.YtlogjgmfkjjhjaaGreatDoor
open Go.RowKit Go.Shelf
attribute [local go_sem] Oper.semAt_some

/-- the nodes from index i on, up to the root; at most f of them -/
def walkN (l : List Nd) : Nat → Int → List Nd
  | 0, _ => []
  | f + 1, i => if 0 ≤ i then l.getD i.toNat default :: walkN l f (findI l (l.getD i.toNat default).parent) else []
def chainN (l : List Nd) (s : ByteArray) : List Nd := walkN l l.length (findI l s)
/-- each parent lies before its node -/
def Acyc (l : List Nd) : Prop := ∀ i, i < l.length → findI l (l.getD i default).parent < (i : Int)

theorem idxFrom_range {α : Type} (p : α → Bool) : ∀ (xs : List α) (i : Nat), -1 ≤ idxFrom p i xs ∧ idxFrom p i xs < (i : Int) + xs.length
  | [], i => by simp [idxFrom]; omega
  | x :: r, i => by
    have := idxFrom_range p r (i + 1)
    unfold idxFrom
    split
    · simp; omega
    · simp only [List.length_cons]; omega
theorem findI_range (l : List Nd) (s : ByteArray) : -1 ≤ findI l s ∧ findI l s < l.length := by
  have := idxFrom_range (fun n : Nd => decide (n.name = s)) l 0
  unfold findI idxI
  omega

set_option maxRecDepth 100000 in
set_option maxHeartbeats 2000000 in
theorem chain_stops (n : Nat) (hn : 1 ≤ n) (lb nb : Nat) (v : Value) (l : List Nd) (s : ByteArray) (hac : Acyc l) (w : World) (hlb : lb < w.heap.size) (hnb : nb < w.heap.size)
    (hcl : w.cell? ⟨lb, 0, none⟩ = some v) (hcn : w.cell? ⟨nb, 0, none⟩ = some (.string s)) (hs : SlAt encN 7 w v l) :
    SeqStopsK Fence.wide n Tryz.prog 173 #[.pointer (some ⟨lb, 0, none⟩), .pointer (some ⟨nb, 0, none⟩)] (fun x : Nd => #[Value.agg (encN x).toArray]) (Below w.heap.size) (fun ys => ys = chainN l s) (fun pre => pre <+: chainN l s) (chainN l s).length w := fun lp J Jx W hW hJ hJx hY h0 => by
  have h0s := hs
  obtain ⟨A, c, rfl, hc, hm, hr⟩ := hs
  have hlen : l.length ≤ 9223372036854775807 := by omega
  have hF : Fence.wide.round = none := rfl
  refine callsIn_of_wp Tryz.func173 rfl trivial ?_ rfl
  simp only [Tryz.ntmps173, List.size_toArray, List.length_cons, List.length_nil, Nat.reduceAdd, Nat.reduceSub, Array.replicate_succ, Array.replicate_zero, List.push_toArray, List.append_toArray, List.nil_append, List.cons_append]
  have kl := (hW.cell (p := ⟨lb, 0, none⟩) hlb).trans hcl
  have kn := (hW.cell (p := ⟨nb, 0, none⟩) hnb).trans hcn
  have hf0 := findI_range l s
  gi_wp2_with (refine ⟨trivial, ?_⟩; gi_at_call 89; refine (callsIn_wide.2 (find_any l _ s _ (h0s.ext hW))).mono ?_; rintro e w1 ⟨rfl, hb1⟩)
  have hb2 : Below w.heap.size w w1 := hW.trans (hb1.mono hW.size)
  have hJ1 : J [] w1 := hJ _ W w1 none h0 ⟨hb1.os, hb1.tape, hb1.output, hb1.size, fun i hi _ => hb1.block i hi⟩ (fun r e => by cases e)
  have hst : chainN l s = [] ++ walkN l l.length (findI l s) := rfl
  have HST := Lib.hid hst
  clear kl kn hst hcn
  generalize findI l s = q0 at hf0 HST ⊢
  generalize hN : (chainN l s).length = N at hY
  have HN := Lib.hid hN
  clear hN
  gi_loopw [4] (fun i wr => ∃ (pre : List Nd) (q : Int) (f : Nat), i = .int .i64 q ∧ -1 ≤ q ∧ q < l.length ∧ q < f ∧ Hid (chainN l s = pre ++ walkN l f q) ∧ Below w.heap.size w wr ∧ J pre wr) (fun i _ => (intOf i + 1).toNat)
  case atStart => exact ⟨[], q0, l.length, rfl, hf0.1, hf0.2, hf0.2, HST, hb2, hJ1⟩
  case round =>
    obtain ⟨pre, q, f, rfl, hq1, hq2, hq3, HC, hbr, hJr⟩ := hrel
    clear HST hb1 hb2 hJ1 h0 hf0
    by_cases h0 : 0 ≤ q
    · obtain ⟨k, rfl⟩ := Int.eq_ofNat_of_zero_le h0
      obtain ⟨f, rfl⟩ : ∃ m, f = m + 1 := ⟨f - 1, by omega⟩
      obtain ⟨b, off, rfl, hbl, hcell⟩ := hr (by omega)
      have hkl : k < l.length := by omega
      have hx : l[k]? = some (l.getD k default) := by rw [List.getD_eq_getElem?_getD, List.getElem?_eq_getElem hkl]; rfl
      have hacx := hac k hkl
      have hstep : chainN l s = (pre ++ [l.getD k default]) ++ walkN l f (findI l (l.getD k default).parent) := by
        rw [HC.out, walkN, if_pos h0]; simp
      have hfr := findI_range l (l.getD k default).parent
      have hpl : pre.length < N := by rw [← HN.out, hstep]; simp
      have hsr := h0s.ext hbr
      generalize l.getD k default = x at hx hacx hstep hfr
      obtain ⟨c0, c1, c2, c3, c4, c5, c6⟩ := nodeCells (fun i u hu => ext_cell hbr (hcell k x hx i u hu))
      have kl := ext_cell hbr hcl
      have HS := Lib.hid hstep
      clear hcell hr hx hstep HC hac
      obtain ⟨fn, tmps, assign, body, hy, hR⟩ := hY pre x wr hJr hpl
      unfold encN at hy
      gi_wp2
      refine hR.mono ?_
      rintro e W3 (⟨rfl, hJ3, hk3⟩ | ⟨rfl, hJx3⟩)
      · skip
        have hk4 : Below w.heap.size w W3 := hbr.trans hk3
        have kl3 := ext_cell hk4 hcl
        have kp3 := (hk3.cell (p := ⟨b, off + k * 7 + 1, none⟩) (by have := hbr.size; simp; omega)).trans c1
        have dB0 : Below W3.heap.size W3 W3 := Below.refl _ _
        gi_wp2
        refine wpIn_wide.2 ?_
        refine wp_region_plan (fun w' => w'.cell? ⟨lb, 0, none⟩ = some (.slice (some ⟨b, off, none⟩) l.length c) ∧ w'.cell? ⟨b, off + k * 7 + 1, none⟩ = some (.string x.parent) ∧ Below W3.heap.size W3 w') [6] [0, 1, 2, 3, 4, 5, 6, 7] (by kernel_rfl) (by kernel_rfl) (by ((first | assumption | exact keep2 (by assumption) (by assumption) | exact keep2 (by assumption) (ext_alloc _ _) | exact keep2 (by assumption) (ext_drew _) | exact keep2 ⟨by assumption, by assumption, by assumption⟩ (ext_drew _) | go_keep))) (fun hSw => ?_)
        repeat (first
          | (refine wpPlan_pas rfl rfl (fun K hK => ?_)
             apply Exists.intro
             refine ⟨?_, ?_⟩
             · first | exact pasOk_no rfl | (apply pasOk_yes rfl; intro wS hS; obtain ⟨s0, s1, s2⟩ := hS; go_simp; first | done | exact rfl | ((try simp only [↓IntWalk.iteOmega]); (try go_bits); (try go_simp); first | done | exact rfl))
             go_simp
             refine hK _ ?_
             clear hK K)
          | (refine wpPlan_no rfl rfl rfl (by assumption) (fun K hK => ?_)
             go_simp
             refine hK _ ?_
             clear hK K)
          | (refine wpPlan_act rfl rfl rfl (fun K hK => ?_)
             go_wp2_with (first | (go_at_call 89; refine (find_any l _ _ _ (h0s.ext (hk4.trans ((held2 (by assumption)).mono hk4.size)))).mono ?_; rintro e w1 ⟨rfl, hb1⟩))
             refine OnlyK.go (hK _ _ (by ((first | assumption | exact keep2 (by assumption) (by assumption) | exact keep2 (by assumption) (ext_alloc _ _) | exact keep2 (by assumption) (ext_drew _) | exact keep2 ⟨by assumption, by assumption, by assumption⟩ (ext_drew _) | go_keep))) (fun hSw => ?_))
             clear hK K))
        refine wpPlan_nil ?_
        obtain ⟨_, _, hb5⟩ := hSw
        rename_i w5 _ _
        have hJ5 := hJ _ _ _ none hJ3 ⟨hb5.os, hb5.tape, hb5.output, hb5.size, fun i hi _ => hb5.block i hi⟩ (fun r e => by cases e)
        have hk5 := hk4.trans (hb5.mono hk4.size)
        go_roundw
        case rel => exact ⟨_, _, _, _, _, _, _, _, _, _, _, _, _, _, _, _, _, ⟨pre ++ [x], _, f, rfl, hfr.1, hfr.2, by omega, HS, hk5, hJ5⟩, rfl⟩
        case measure => simp [intOf]; have := hfr.1; omega
      · gi_wp2
        refine bodyPost_ret (results_none rfl _ _ _) rfl ?_
        exact ⟨⟨_, rfl⟩, .inr ⟨pre ++ [x], ⟨_, HS.out.symm⟩, hJx3⟩⟩
    · obtain rfl : q = -1 := by omega
      gi_wp2
      go_end0
      have hw : chainN l s = pre := by rw [HC.out]; cases f <;> simp [walkN]
      exact ⟨⟨_, rfl⟩, .inl (by rw [hw]; exact hJr)⟩
end Go.Proofs.YtlogjgmfkjjhjaaGreatDoor
namespace Go.Proofs.YtlogjgmfkjjhjaaGreatDoor
open Go.RowKit Go.Shelf
attribute [local go_sem] Oper.semAt_some

section
variable {α : Type} {E : α → List Value} {k base : Nat} {e : TypeId} {w w1 : World} {v : Value} {xs : List α}
theorem Own.kept (h : Own E k base e w v xs) {row : Option Nat} (hg : w.grownBy w1 row) (hr : v.ownBlock = none ∨ v.ownBlock ≠ row) : Own E k base e w1 v xs := World.ownsRow.kept h hg hr
theorem Own.putObj (h : Own E k base e w v xs) {l : Nat} {o : Obj} (o' : Obj) (hl : w.heap[l]? = some o) (ho : o.isCells = false) : Own E k base e (w.putObj l o') v xs := ownsRow_putObj h o' hl ho

theorem Own.mono {base0 : Nat} (h : Own E k base e w v xs) (hb : base0 ≤ base) : Own E k base0 e w v xs := by
  rcases h.2 with h0 | ⟨g, cap, cur, e0, hbb, h1⟩
  · exact ⟨h.1, .inl h0⟩
  · exact ⟨h.1, .inr ⟨g, cap, cur, e0, Nat.le_trans hb hbb, h1⟩⟩
theorem RetSl.before {w0 w2 : World} {e2 : Ending} (h : RetSl E k e xs w e2 w2) (hb : Below w0.heap.size w0 w) : RetSl E k e xs w0 e2 w2 := by
  obtain ⟨v, h1, h2, h3, h4⟩ := h
  exact ⟨v, h1, h2.mono hb.size, ext_trans hb h3, h4⟩

/-- behind an append whose slice lies in a variable's box, and the store back -/
theorem boxed_app {n₀ B : Nat} {t : TypeId} {v' : Value} {ys : List α}
    (hv : Boxed w B t v) (hte : t ≠ e) (hrow : Own E k n₀ e w v xs) (hB : n₀ ≤ B) (hown' : Own E k n₀ e w1 v' ys) (hgrow : w.grownBy w1 v.ownBlock) :
    Boxed w1 B t v ∧ Boxed (w1.setCell ⟨B, 0, none⟩ v') B t v' ∧ Own E k n₀ e (w1.setCell ⟨B, 0, none⟩ v') v' ys ∧ KeepsOthers w (w1.setCell ⟨B, 0, none⟩ v') ∧ Below n₀ w (w1.setCell ⟨B, 0, none⟩ v') := by
  have hv1 : Boxed w1 B t v := hv.kept hgrow (hv.not_row hte hrow)
  refine ⟨hv1, hv1.set v', hown'.kept (grownBy_setCell' w1 B v') (.inr (hv1.not_row hte hown').symm), ?_, ?_⟩
  · refine (KeepsOthers.of_grownBy hgrow fun j o ej hj => ?_).trans (KeepsOthers.setCell _ _ _)
    rcases hrow.2 with ⟨rfl, _⟩ | ⟨g, cap, cur, rfl, _, hgb, _⟩
    · simp [Value.ownBlock] at ej
    · obtain rfl : g = j := by simpa [Value.ownBlock] using ej
      rw [hgb] at hj; cases hj; rfl
  · refine Below.setCell (p := ⟨B, 0, none⟩) ((Below.refl n₀ w).grown hgrow ?_ fun j ej => ?_) hB v'
    · have := hv.lt; omega
    · rcases hrow.2 with ⟨rfl, _⟩ | ⟨g, cap, cur, rfl, hb, _, _⟩
      · simp [Value.ownBlock] at ej
      · obtain rfl : g = j := by simpa [Value.ownBlock] using ej
        exact hb
end

section
variable {F : Fence} {nF : Nat} {P : Program} {ops : Array Oper} {rest : List Oper} {o : Oper} {a : Act} {Q : Exit → Act → World → Prop}
/-- own_append, in a fence -/
theorem own_appendIn {α : Type} {E : α → List Value} {k base : Nat} {e : TypeId} {w0 W : World} (hgd : o.guard = none) (s x : Operand) (t : TypeId) (z : Value) (bytes : Nat)
    (ho : o.op = .call { callee := .builtin .append, args := #[s, x], argTypes := #[t, t] })
    (ht : P.underlying t = some (.slice e)) (hinfo : (P.info? e).map (fun i => (i.zero, i.size, i.bytes)) = some (some z, k, bytes)) (hz : z.cells.size = k) (hk : 0 < k) (hb0 : 0 < bytes)
    (hE : ∀ x, (E x).length = k) (v : Value) (xs : List α) (y : α) (cs : Array Value) (hcs : cs.toList = E y) (hs : a.eval s = v) (hx : a.eval x = .slice (some ⟨W.heap.size, 0, none⟩) 1 1) (h1 : ∀ u ∈ E y, u.oneCell' = true)
    (HO : Own E k base e W v xs) (HB : Below base w0 W) (hbase : base ≤ W.heap.size) (hl : (xs.length + 1) * bytes ≤ 140737488355328)
    (h : ∀ v1 w1, Own E k base e w1 v1 (xs ++ [y]) → Below base w0 w1 → W.grownBy w1 v.ownBlock → v1 ≠ .slice none 0 0 → wpListIn F nF P ops Q rest (a.put o.dst v1) w1) :
    wpListIn F nF P ops Q (o :: rest) a (W.alloc (.cells cs e)) := by
  obtain ⟨i0, hi, hzz⟩ := Option.map_eq_some_iff.1 hinfo
  simp only [Prod.mk.injEq] at hzz
  obtain ⟨hz0, hz1, hz2⟩ := hzz
  have hlen : xs.length + 1 ≤ 140737488355328 := Nat.le_trans (Nat.le_mul_of_pos_right _ hb0) hl
  refine wpListIn_append_own_at (w := W.alloc (.cells cs e)) hgd s x t ho base e i0 z k bytes ht hi hz0 hz1 hz2 hz hk v xs.length (xs.flatMap E) hs (World.ownsRow.alloc HO _) ⟨W.heap.size, 0, none⟩ 1 1 (E y) hx (by rw [hE]; omega)
    (fun j u hu => by
      rw [add_lit, cell_of_row _ W.heap.size _ cs e (0, 0) (heap_alloc_new W _), Nat.zero_add]
      rw [← hcs] at hu
      simpa using hu) h1 (by simp only [maxLen]; omega) hl (by simp; omega) ?_
  intro v1 w1 hown hg hnil hat
  refine h v1 w1 ?_ ((HB.alloc hbase _).grown hg (by simp; omega) HO.base_le) (World.grownBy.trans (World.grownBy_alloc W _ _) hg) (fun e1 => by have := (hnil.1 e1).2; omega)
  unfold Own
  simpa using hown
end

/-- block B holds a whole value's cells -/
def BoxC (W : World) (B : Nat) (t : TypeId) (cs : Array Value) : Prop := W.heap[B]? = some (.cells cs t (0, 0))
theorem BoxC.new (W : World) (t : TypeId) (cs : Array Value) : BoxC (W.alloc (.cells cs t)) W.heap.size t cs := World.alloc_heap_new W _
theorem BoxC.lt {W : World} {B : Nat} {t : TypeId} {cs : Array Value} (h : BoxC W B t cs) : B < W.heap.size := (Array.getElem?_eq_some_iff.1 h).1
theorem BoxC.kept {W W' : World} {row : Option Nat} {B : Nat} {t : TypeId} {cs : Array Value} (h : BoxC W B t cs) (hg : W.grownBy W' row) (hne : some B ≠ row) : BoxC W' B t cs := (hg.block B h.lt hne).trans h
theorem BoxC.alloc {W : World} {B : Nat} {t : TypeId} {cs : Array Value} (h : BoxC W B t cs) (o : Obj) : BoxC (W.alloc o) B t cs := h.kept (World.grownBy_alloc W o none) (by simp)
theorem BoxC.cell {W : World} {B : Nat} {t : TypeId} {cs : Array Value} (h : BoxC W B t cs) (i : Nat) (v : Value) (hi : cs[i]? = some v) : W.cell? ⟨B, i, none⟩ = some v := by
  simp [World.cell?, show W.heap[B]? = _ from h, hi]
theorem BoxC.own (B : Nat) (t : TypeId) (cs : Array Value) : Go.Own (fun (_ : Unit) W => BoxC W B t cs) := by
  rintro s X Y row h hg hrow
  refine BoxC.kept h hg fun e' => ?_
  obtain ⟨o, ho, hc⟩ := hrow B e'.symm
  rw [show X.heap[B]? = _ from h] at ho; cases ho; cases hc

theorem infoN : (Tryz.prog.info? 125).map (fun i => (i.zero, i.size, i.bytes)) = some (some (.agg #[.string ByteArray.empty, .string ByteArray.empty, .int .i64 0, .int .i64 0, .int .i64 0, .int .i64 0, .int .i64 0]), 7, 72) := by kernel_rfl

set_option maxRecDepth 100000 in
set_option maxHeartbeats 2000000 in
theorem appendSeq_in (n : Nat) (hn : 1 ≤ n) (gf : Nat) (lb : Array Value) (eg : ∀ args w, (callFunc gf args).run Tryz.prog w = .ok (.enter gf args) w) (l : List Nd) (w w0 : World) (hb : Below w0.heap.size w0 w) (hl : l.length ≤ 1048576) (Sp : List Nd → Prop)
    (hseq : SeqStopsK Fence.wide (n - 1) Tryz.prog gf lb (fun x : Nd => #[Value.agg (encN x).toArray]) (Below w0.heap.size) (fun ys => ys = l) Sp l.length w0) :
    CallsIn Fence.wide n Tryz.prog 172 #[.slice none 0 0, .func (.func gf) #[] lb] w (RetSl encN 7 125 l w) := by
  refine callsIn_of_wp_marks Tryz.func172 rfl trivial ?_ rfl
  simp only [Tryz.ntmps172, List.size_toArray, List.length_cons, List.length_nil, Nat.reduceAdd, Nat.reduceSub, Array.replicate_succ, Array.replicate_zero, List.push_toArray, List.append_toArray, List.nil_append, List.cons_append]
  gi_wp2
  have bO := Boxed.new w 29 (.slice none 0 0)
  have hB0 : Below w.heap.size w (w.alloc (.cells #[.slice none 0 0] 29)) := (Below.refl _ w).alloc (Nat.le_refl _) _
  have hbs := hb.size
  refine wpIn_rangeFunc_ownH rfl hn (gf := gf) (lb := lb) rfl trivial eg
    hseq belowK_t (belowK_b (by simp; omega)) (hb.alloc hbs _) (fun _ => rfl)
    (fun pre W => (∃ v, Boxed W w.heap.size 29 v ∧ Own encN 7 w.heap.size 125 W v pre ∧ (pre = [] → v = .slice none 0 0)) ∧ Below w.heap.size w W)
    (fun _ _ _ => False)
    (OwnFrom.and (Own.from (holdsRow_own w.heap.size w.heap.size 29 125 7 (fun pre => pre.length) (fun pre => pre.flatMap encN) (fun pre v => pre = [] → v = .slice none 0 0)) _) (ownFrom_below (Nat.le_refl _) (by simp)))
    (fun _ _ _ _ _ hs _ _ => hs)
    ⟨⟨_, bO, Own.nil _, fun _ => rfl⟩, hB0⟩
    (fun x a' W => ∃ Bx, w.heap.size < Bx ∧ BoxC W Bx 125 (encN x).toArray ∧ a' = { tmps := #[.slice none 0 0, .func (.func gf) #[] lb, .pointer (some ⟨w.heap.size, 0, none⟩), undef, .slice none 0 0, .pointer (some ⟨Bx, 0, none⟩), .func (.func gf) #[] lb, .agg (encN x).toArray, undef, undef, undef, undef, undef], defers := [] })
    (fun x a' _ X Y row hs hg hr => by obtain ⟨Bx, h1, h2, h3⟩ := hs; exact ⟨Bx, h1, BoxC.own Bx _ _ () X Y row h2 hg (fun r e => (hr r e).2), h3⟩)
    ?assign ?body ?done ?stop
  case assign =>
    rintro lp pre x W K ⟨⟨v, hv, hrow, hnil⟩, hB1⟩ hK
    unfold encN at hK ⊢
    gi_wp2
    exact hK _ _ ((KeepsOthers.alloc _ _).from _) ((Below.refl _ W).alloc (by have := hB1.size; omega) _) ⟨⟨v, hv.alloc _, hrow.alloc _, hnil⟩, hB1.alloc hB1.size _⟩ ⟨W.heap.size, hv.lt, BoxC.new _ _ _, rfl⟩
  case body =>
    rintro lp pre x a' W hlp ⟨r, hr⟩ ⟨⟨v, hv, hrow, hnil⟩, hB1⟩ ⟨Bx, hBx, bX, rfl⟩ hlt
    unfold encN at bX
    have c0 := bX.cell 0 _ rfl
    have c1 := bX.cell 1 _ rfl
    have c2 := bX.cell 2 _ rfl
    have c3 := bX.cell 3 _ rfl
    have c4 := bX.cell 4 _ rfl
    have c5 := bX.cell 5 _ rfl
    have c6 := bX.cell 6 _ rfl
    have hc := hv.cell
    gi_wp2_with (gi_at_builtin; refine own_appendIn (w0 := w) rfl _ _ 29 _ 72 rfl Tryz.underlying29 infoN rfl (by decide) (by decide) encN_len _ pre x _ rfl rfl rfl (by simp [encN, Value.oneCell']) hrow hB1 hB1.size (by omega) ?_; intro v1 w2 hown hbv hgv hnn; obtain ⟨hv1, hv2, hr2, hk2, hb2⟩ := boxed_app hv (by decide) hrow (Nat.le_refl _) hown hgv; obtain ⟨g', cap', rfl⟩ := ownsRow_succ (k := pre.length) (by unfold Own at hown; simpa using hown); have hc1 := hv1.cell; have hf1 := hv1.frozen)
    exact ⟨hk2.from _, hb2.mono hbs, ⟨_, hv2, hr2, by simp⟩, hB1.trans hb2⟩
  case done =>
    rintro D ys W hD rfl ⟨⟨v, hv, hrow, hnil⟩, hB1⟩ hK
    have hc := hv.cell
    gi_wp2
    refine ⟨by simp, .inl ⟨_, _, rfl, run_takeDeferred hK, ?_⟩⟩
    exact ⟨_, results_tmp rfl _ _ _, v, rfl, hrow.putObj _ hK rfl, hB1.trans (belowK_b (w := w) (Nat.le_refl _) W D _ _ (by simp at hD; omega) hK rfl rfl), hnil⟩
  case stop =>
    rintro D c pre W _ _ h _
    exact h.elim

set_option maxHeartbeats 2000000 in
theorem collect_any (gf : Nat) (lb : Array Value) (eg : ∀ args w, (callFunc gf args).run Tryz.prog w = .ok (.enter gf args) w) (l : List Nd) (w : World) (hl : l.length ≤ 1048576) (Sp : List Nd → Prop)
    (hseq : SeqStopsK Fence.wide 2 Tryz.prog gf lb (fun x : Nd => #[Value.agg (encN x).toArray]) (Below w.heap.size) (fun ys => ys = l) Sp l.length w) :
    Calls Tryz.prog 133 #[.func (.func gf) #[] lb] w (RetSl encN 7 125 l w) := by
  go_enter Tryz.func133, Tryz.ntmps133
  go_wp2_with (go_at_call 172; refine (callsIn_wide.1 (appendSeq_in 3 (by omega) gf lb eg l w w (Below.refl _ _) hl Sp hseq)).mono ?_; rintro e w1 ⟨v, rfl, h1, h2, h3⟩)
  go_ret
  exact ⟨_, rfl, h1, h2, h3⟩

theorem chain_any (v : Value) (hv : ∃ A n c, v = .slice A n c) (s : ByteArray) (w : World) : Calls Tryz.prog 134 #[v, .string s] w fun e w' => e = .returned (.func (.func 173) #[] #[.pointer (some ⟨w.heap.size, 0, none⟩), .pointer (some ⟨w.heap.size + 1, 0, none⟩)]) ∧ w' = (w.alloc (.cells #[v] 29)).alloc (.cells #[.string s] 9) := by
  obtain ⟨A, n, c, rfl⟩ := hv
  go_enter Tryz.func134, Tryz.ntmps134
  go_wp2
  go_ret
  exact ⟨rfl, rfl⟩

theorem label_any (x : Nd) (w : World) : Calls Tryz.prog 74 #[.agg (encN x).toArray] w fun e w' => e = .returned (.string x.name) ∧ Below w.heap.size w w' := by
  unfold encN
  go_enter Tryz.func74, Tryz.ntmps74
  go_wp2
  go_ret
  exact ⟨rfl, by (repeat (first | exact Below.refl _ _ | assumption | refine Below.drew ?_ | refine Below.alloc ?_ (by simp <;> omega) _ | refine Below.alloc ?_ (by simp) _ | refine Below.setCell ?_ (by simp) _))⟩
theorem label_fn (xs : List Nd) (w : World) : FnB 74 #[] (fun x => .agg (encN x).toArray) Value.string Nd.name xs w := fun W x _ _ => label_any x W

theorem walkN_len (l : List Nd) : ∀ (f : Nat) (i : Int), (walkN l f i).length ≤ f
  | 0, _ => by simp [walkN]
  | f + 1, i => by
    unfold walkN
    split
    · have := walkN_len l f (findI l (l.getD i.toNat default).parent)
      simp only [List.length_cons]; omega
    · simp
theorem chainN_len (l : List Nd) (s : ByteArray) : (chainN l s).length ≤ l.length := walkN_len l _ _

theorem SlAt.isSlice {α : Type} {E : α → List Value} {k : Nat} {w : World} {v : Value} {xs : List α} (h : SlAt E k w v xs) : ∃ A n c, v = .slice A n c := by
  obtain ⟨A, c, rfl, _⟩ := h
  exact ⟨_, _, _, rfl⟩
/-- the names of a chain -/
def namesN (l : List Nd) (s : ByteArray) : List ByteArray := (chainN l s).map Nd.name

set_option maxHeartbeats 2000000 in
theorem names_any (v : Value) (l : List Nd) (s : ByteArray) (hac : Acyc l) (hl : l.length ≤ 1048576) (w : World) (hs : SlAt encN 7 w v l) :
    Calls Tryz.prog 71 #[v, .string s] w (RetSl encS 1 9 (namesN l s) w) := by
  have hcl := chainN_len l s
  have eg := enters_of Tryz.func173 (by kernel_rfl) rfl
  have el := enters_of Tryz.func74 (by kernel_rfl) rfl
  go_enter Tryz.func71, Tryz.ntmps71
  have b1 := Boxed.new w 29 v
  have b2 := Boxed.new (w.alloc (.cells #[v] 29)) 9 (.string s)
  rw [World.size_alloc] at b2
  have hb2 : Below w.heap.size w ((w.alloc (.cells #[v] 29)).alloc (.cells #[.string s] 9)) := by (repeat (first | exact Below.refl _ _ | assumption | refine Below.drew ?_ | refine Below.alloc ?_ (by simp <;> omega) _ | refine Below.alloc ?_ (by simp) _ | refine Below.setCell ?_ (by simp) _))
  have hst := fun n hn => chain_stops n hn w.heap.size (w.heap.size + 1) v l s hac _ (by simp; omega) (by simp) (b1.alloc _).cell b2.cell (hs.ext hb2)
  go_wp2_with (first
    | (go_at_call 134; refine (chain_any v hs.isSlice s w).mono ?_; rintro e w1 ⟨rfl, rfl⟩)
    | (go_at_call 133; refine (collect_any _ _ eg (chainN l s) _ (by omega) _ (hst 2 (by omega))).mono ?_; rintro e w2 ⟨v2, rfl, ho2, hb3, hn2⟩; have hb4 := ext_trans hb2 hb3)
    | (go_at_call 72; refine (mappedNS Nd.name _ el (chainN l s) _ _ (ho2.slat encN_len) (by omega) (label_fn _ _)).mono ?_; rintro e w3 ⟨v3, rfl, ho3, hb5, hn3⟩))
  go_ret
  exact ⟨_, rfl, ho3.mono hb4.size, ext_trans hb4 hb5, hn3⟩
end Go.Proofs.YtlogjgmfkjjhjaaGreatDoor
