/-
  The iterator feeder.chain again, for a body that writes a variable of its caller: what the body keeps is what lay below the caller's own memory, and the iterator's box.
  feeder.level, Level.
  Relays: how they lie in memory; Relay.time, Relay.checkPoints.
-/
import Derived.Test.YtlogjgmfkjjhjaaGreatDoorX05
import Derived.Test.YtlogjgmfkjjhjaaGreatDoorX10
set_option linter.unusedSimpArgs false
set_option linter.unusedVariables false
namespace Go.Proofs.YtlogjgmfkjjhjaaGreatDoor
open Go.RowKit Go.Shelf
attribute [local go_sem] Oper.semAt_some

/-- what lies below n is as it was, and block lb too -/
def KL (n lb : Nat) (W W1 : World) : Prop := Below n W W1 ∧ W1.heap[lb]? = W.heap[lb]?
theorem KL.trans {n lb : Nat} {a b c : World} (h1 : KL n lb a b) (h2 : KL n lb b c) : KL n lb a c := ⟨h1.1.trans h2.1, h2.2.trans h1.2⟩
theorem KL.of {n lb m : Nat} {a b : World} (h : Below m a b) (hn : n ≤ m) (hl : lb < m) : KL n lb a b := ⟨h.mono hn, h.block lb hl⟩
theorem KL.cell {n lb : Nat} {a b : World} (h : KL n lb a b) {v : Value} (hc : a.cell? ⟨lb, 0, none⟩ = some v) : b.cell? ⟨lb, 0, none⟩ = some v := by
  rw [← hc]; simp only [World.cell?, h.2]
theorem ext_trans' {w0 w w1 : World} (h : Below w0.heap.size w0 w) (h1 : Below w0.heap.size w w1) : Below w0.heap.size w0 w1 := h.trans h1

set_option maxRecDepth 100000 in
set_option maxHeartbeats 2000000 in
theorem chain_stopsB (n : Nat) (hn : 1 ≤ n) (lb nb : Nat) (v : Value) (l : List Nd) (s : ByteArray) (hac : Acyc l) (w0 w : World) (hw0 : Below w0.heap.size w0 w) (hlb : lb < w.heap.size) (hnb : nb < w.heap.size)
    (hcl : w.cell? ⟨lb, 0, none⟩ = some v) (hcn : w.cell? ⟨nb, 0, none⟩ = some (.string s)) (hs : SlAt encN 7 w0 v l) :
    SeqStopsK Fence.wide n Tryz.prog 173 #[.pointer (some ⟨lb, 0, none⟩), .pointer (some ⟨nb, 0, none⟩)] (fun x : Nd => #[Value.agg (encN x).toArray]) (KL w0.heap.size lb) (fun ys => ys = chainN l s) (fun pre => pre <+: chainN l s) (chainN l s).length w := fun lp J Jx W hW hJ hJx hY h0 => by
  have h0s := hs
  obtain ⟨A, c, rfl, hc, hm, hr⟩ := hs
  have hlen : l.length ≤ 9223372036854775807 := by omega
  have hF : Fence.wide.round = none := rfl
  refine callsIn_of_wp Tryz.func173 rfl trivial ?_ rfl
  simp only [Tryz.ntmps173, List.size_toArray, List.length_cons, List.length_nil, Nat.reduceAdd, Nat.reduceSub, Array.replicate_succ, Array.replicate_zero, List.push_toArray, List.append_toArray, List.nil_append, List.cons_append]
  have kl := (hW.cell (p := ⟨lb, 0, none⟩) hlb).trans hcl
  have kn := (hW.cell (p := ⟨nb, 0, none⟩) hnb).trans hcn
  have hf0 := findI_range l s
  gi_wp2_with (refine ⟨trivial, ?_⟩; gi_at_call 89; refine (callsIn_wide.2 (find_any l _ s _ (h0s.ext (ext_trans hw0 hW)))).mono ?_; rintro e w1 ⟨rfl, hb1⟩)
  have hb2 : KL w0.heap.size lb w w1 := KL.of (hW.trans (hb1.mono hW.size)) hw0.size hlb
  have hJ1 : J [] w1 := hJ _ W w1 none h0 ⟨hb1.os, hb1.tape, hb1.output, hb1.size, fun i hi _ => hb1.block i hi⟩ (fun r e => by cases e)
  have hst : chainN l s = [] ++ walkN l l.length (findI l s) := rfl
  have HST := Lib.hid hst
  clear kl kn hst hcn
  generalize findI l s = q0 at hf0 HST ⊢
  generalize hN : (chainN l s).length = N at hY
  have HN := Lib.hid hN
  clear hN
  gi_loopw [4] (fun i wr => ∃ (pre : List Nd) (q : Int) (f : Nat), i = .int .i64 q ∧ -1 ≤ q ∧ q < l.length ∧ q < f ∧ Hid (chainN l s = pre ++ walkN l f q) ∧ KL w0.heap.size lb w wr ∧ J pre wr) (fun i _ => (intOf i + 1).toNat)
  case atStart => exact ⟨[], q0, l.length, rfl, hf0.1, hf0.2, hf0.2, HST, hb2, hJ1⟩
  case round =>
    obtain ⟨pre, q, f, rfl, hq1, hq2, hq3, HC, hbr, hJr⟩ := hrel
    clear HST hb1 hb2 hJ1 h0 hf0
    by_cases h0 : 0 ≤ q
    · obtain ⟨k, rfl⟩ := Int.eq_ofNat_of_zero_le h0
      obtain ⟨f, rfl⟩ : ∃ m, f = m + 1 := ⟨f - 1, by omega⟩
      obtain ⟨b, off, rfl, hbl, hcell⟩ := hr (by omega)
      have hkl : k < l.length := by omega
      have hx : l[k]? = some (l.getD k default) := by rw [List.getD_eq_getElem?_getD, List.getElem?_eq_getElem hkl]; rfl
      have hacx := hac k hkl
      have hstep : chainN l s = (pre ++ [l.getD k default]) ++ walkN l f (findI l (l.getD k default).parent) := by
        rw [HC.out, walkN, if_pos h0]; simp
      have hfr := findI_range l (l.getD k default).parent
      have hpl : pre.length < N := by rw [← HN.out, hstep]; simp
      have hbr0 := ext_trans' hw0 hbr.1
      have hsr := h0s.ext hbr0
      generalize l.getD k default = x at hx hacx hstep hfr
      obtain ⟨c0, c1, c2, c3, c4, c5, c6⟩ := nodeCells (fun i u hu => ext_cell hbr0 (hcell k x hx i u hu))
      have kl := hbr.cell hcl
      have HS := Lib.hid hstep
      clear hcell hr hx hstep HC hac
      obtain ⟨fn, tmps, assign, body, hy, hR⟩ := hY pre x wr hJr hpl
      unfold encN at hy
      gi_wp2
      refine hR.mono ?_
      rintro e W3 (⟨rfl, hJ3, hk3⟩ | ⟨rfl, hJx3⟩)
      · skip
        have hk4 : KL w0.heap.size lb w W3 := hbr.trans hk3
        have hk40 := ext_trans' hw0 hk4.1
        have kl3 := hk4.cell hcl
        have kp3 := (hk3.1.cell (p := ⟨b, off + k * 7 + 1, none⟩) (by simp; omega)).trans c1
        have dB0 : Below W3.heap.size W3 W3 := Below.refl _ _
        gi_wp2
        refine wpIn_wide.2 ?_
        refine wp_region_plan (fun w' => w'.cell? ⟨lb, 0, none⟩ = some (.slice (some ⟨b, off, none⟩) l.length c) ∧ w'.cell? ⟨b, off + k * 7 + 1, none⟩ = some (.string x.parent) ∧ Below W3.heap.size W3 w') [6] [0, 1, 2, 3, 4, 5, 6, 7] (by kernel_rfl) (by kernel_rfl) (by ((first | assumption | exact keep2 (by assumption) (by assumption) | exact keep2 (by assumption) (ext_alloc _ _) | exact keep2 (by assumption) (ext_drew _) | exact keep2 ⟨by assumption, by assumption, by assumption⟩ (ext_drew _) | go_keep))) (fun hSw => ?_)
        repeat (first
          | (refine wpPlan_pas rfl rfl (fun K hK => ?_)
             apply Exists.intro
             refine ⟨?_, ?_⟩
             · first | exact pasOk_no rfl | (apply pasOk_yes rfl; intro wS hS; obtain ⟨s0, s1, s2⟩ := hS; go_simp; first | done | exact rfl | ((try simp only [↓IntWalk.iteOmega]); (try go_bits); (try go_simp); first | done | exact rfl))
             go_simp
             refine hK _ ?_
             clear hK K)
          | (refine wpPlan_no rfl rfl rfl (by assumption) (fun K hK => ?_)
             go_simp
             refine hK _ ?_
             clear hK K)
          | (refine wpPlan_act rfl rfl rfl (fun K hK => ?_)
             go_wp2_with (first | (go_at_call 89; refine (find_any l _ _ _ (h0s.ext (hk40.trans ((held2 (by assumption)).mono hk40.size)))).mono ?_; rintro e w1 ⟨rfl, hb1⟩))
             refine OnlyK.go (hK _ _ (by ((first | assumption | exact keep2 (by assumption) (by assumption) | exact keep2 (by assumption) (ext_alloc _ _) | exact keep2 (by assumption) (ext_drew _) | exact keep2 ⟨by assumption, by assumption, by assumption⟩ (ext_drew _) | go_keep))) (fun hSw => ?_))
             clear hK K))
        refine wpPlan_nil ?_
        obtain ⟨_, _, hb5⟩ := hSw
        rename_i w5 _ _
        have hJ5 := hJ _ _ _ none hJ3 ⟨hb5.os, hb5.tape, hb5.output, hb5.size, fun i hi _ => hb5.block i hi⟩ (fun r e => by cases e)
        have hk5 := hk4.trans (KL.of hb5 hk40.size (Nat.lt_of_lt_of_le hlb hk4.1.size))
        go_roundw
        case rel => exact ⟨_, _, _, _, _, _, _, _, _, _, _, _, _, _, _, _, _, ⟨pre ++ [x], _, f, rfl, hfr.1, hfr.2, by omega, HS, hk5, hJ5⟩, rfl⟩
        case measure => simp [intOf]; have := hfr.1; omega
      · gi_wp2
        refine bodyPost_ret (results_none rfl _ _ _) rfl ?_
        exact ⟨⟨_, rfl⟩, .inr ⟨pre ++ [x], ⟨_, HS.out.symm⟩, hJx3⟩⟩
    · obtain rfl : q = -1 := by omega
      gi_wp2
      go_end0
      have hw : chainN l s = pre := by rw [HC.out]; cases f <;> simp [walkN]
      exact ⟨⟨_, rfl⟩, .inl (by rw [hw]; exact hJr)⟩
end Go.Proofs.YtlogjgmfkjjhjaaGreatDoor
namespace Go.Proofs.YtlogjgmfkjjhjaaGreatDoor
open Go.RowKit Go.Shelf
attribute [local go_sem] Oper.semAt_some

def wayN : List Nd → Int
  | [] => 1
  | x :: r => x.re + x.im + wayN r
theorem wayN_snoc (a : List Nd) (x : Nd) : wayN (a ++ [x]) = wayN a + (x.re + x.im) := by
  induction a with
  | nil => simp [wayN]; omega
  | cons y r ih => simp [wayN, ih]; omega
theorem wayN_le (m : Int) : ∀ (xs : List Nd), (∀ x ∈ xs, 0 ≤ x.re ∧ x.re ≤ m ∧ 0 ≤ x.im ∧ x.im ≤ m) → 1 ≤ wayN xs ∧ wayN xs ≤ 1 + 2 * (m * xs.length)
  | [], _ => by simp [wayN]
  | x :: r, h => by
    obtain ⟨h1, h2, h3, h4⟩ := h x (by simp)
    have := wayN_le m r (fun y hy => h y (by simp [hy]))
    simp only [wayN, List.length_cons, Int.natCast_add, Int.mul_add]
    simp only [Int.natCast_one, Int.mul_one]
    omega
def levelN (l : List Nd) (st : Int) (s : ByteArray) : Int := st / wayN (chainN l s)
theorem walkN_mem (l : List Nd) : ∀ (f : Nat) (i : Int), i < l.length → ∀ x ∈ walkN l f i, x ∈ l
  | 0, _, _, x, hx => by simp [walkN] at hx
  | f + 1, i, hi, x, hx => by
    unfold walkN at hx
    split at hx
    · rename_i h0
      rcases List.mem_cons.1 hx with rfl | hx
      · have hl : i.toNat < l.length := by omega
        rw [List.getD_eq_getElem?_getD, List.getElem?_eq_getElem hl]
        exact List.getElem_mem hl
      · exact walkN_mem l f _ (findI_range l _).2 x hx
    · simp at hx
theorem chainN_mem {l : List Nd} {s : ByteArray} : ∀ x ∈ chainN l s, x ∈ l := walkN_mem l _ _ (findI_range l s).2

set_option maxRecDepth 100000 in
set_option maxHeartbeats 4000000 in
theorem level_any (v : Value) (l : List Nd) (st : Int) (s : ByteArray) (hac : Acyc l) (hl : l.length ≤ 16) (him : ∀ x ∈ l, 0 ≤ x.re ∧ x.re ≤ 1000 ∧ 0 ≤ x.im ∧ x.im ≤ 1000) (hst0 : 0 ≤ st) (hst1 : st ≤ 1000000000000) (w : World) (hs : SlAt encN 7 w v l) :
    Calls Tryz.prog 90 #[v, .int .i64 st, .string s] w fun e w' => e = .returned (.int .i64 (levelN l st s)) ∧ Below w.heap.size w w' := by
  refine (callsIn_wide (n := 3)).1 ?_
  have hcl := chainN_len l s
  have hcm : ∀ x ∈ chainN l s, 0 ≤ x.re ∧ x.re ≤ 1000 ∧ 0 ≤ x.im ∧ x.im ≤ 1000 := fun x hx => him x (chainN_mem x hx)
  have eg := enters_of Tryz.func173 (by kernel_rfl) rfl
  have hsw := hs
  obtain ⟨A, c, rfl, hc1, hc2, hr⟩ := hs
  clear hr him
  refine callsIn_of_wp_marks Tryz.func90 rfl trivial ?_ rfl
  simp only [Tryz.ntmps90, List.size_toArray, List.length_cons, List.length_nil, Nat.reduceAdd, Nat.reduceSub, Array.replicate_succ, Array.replicate_zero, List.push_toArray, List.append_toArray, List.nil_append, List.cons_append]
  have b0 := Boxed.new w 3 (.int .i64 1)
  have b1 := Boxed.new (w.alloc (.cells #[.int .i64 1] 3)) 29 (.slice A l.length c)
  have b2 := Boxed.new ((w.alloc (.cells #[.int .i64 1] 3)).alloc (.cells #[.slice A l.length c] 29)) 9 (.string s)
  have b0' := (b0.alloc (.cells #[.slice A l.length c] 29)).alloc (.cells #[.string s] 9)
  have b1' := b1.alloc (.cells #[.string s] 9)
  have hb3 : Below w.heap.size w (((w.alloc (.cells #[.int .i64 1] 3)).alloc (.cells #[.slice A l.length c] 29)).alloc (.cells #[.string s] 9)) := by (repeat (first | exact Below.refl _ _ | assumption | refine Below.drew ?_ | refine Below.alloc ?_ (by simp <;> omega) _ | refine Below.alloc ?_ (by simp) _ | refine Below.setCell ?_ (by simp) _))
  have hsz3 : (((w.alloc (.cells #[.int .i64 1] 3)).alloc (.cells #[.slice A l.length c] 29)).alloc (.cells #[.string s] 9)).heap.size = w.heap.size + 1 + 1 + 1 := by simp
  simp only [World.size_alloc] at b1' b2
  have HZ := Lib.hid hsz3
  clear hsz3 b0 b1
  gi_wp2_with (refine ⟨trivial, ?_⟩; gi_at_call 134; refine (callsIn_wide.2 (chain_any _ ⟨_, _, _, rfl⟩ s _)).mono ?_; rintro e w' ⟨rfl, rfl⟩)
  have hst := chain_stopsB 2 (by omega) (w.heap.size + 1) (w.heap.size + 1 + 1) _ l s hac w _ hb3 (by rw [HZ.out]; omega) (by rw [HZ.out]; omega) b1'.cell b2.cell hsw
  generalize hW0 : World.alloc (World.alloc (World.alloc w _) _) _ = W0 at hst b0' b1' hb3 HZ ⊢
  clear hW0 b2 hsw
  have hlv : levelN l st s = st / wayN (chainN l s) := rfl
  have HLV := Lib.hid hlv
  clear hlv hac
  generalize chainN l s = cs at hst hcl hcm HLV
  have hsz := HZ.out
  refine wpIn_rangeFunc_ownH rfl (by omega) (gf := 173) (lb := #[.pointer (some ⟨w.heap.size + 1, 0, none⟩), .pointer (some ⟨w.heap.size + 1 + 1, 0, none⟩)]) rfl trivial eg
    hst KL.trans (fun W l o o' h1 h2 h3 h4 => KL.of (n := w.heap.size) (lb := w.heap.size + 1) (belowK_b (n₀ := w.heap.size + 1 + 1 + 1) (Nat.le_of_eq hsz.symm) W l o o' h1 h2 h3 h4) (by omega) (by omega)) (Below.refl _ _) (fun _ => rfl)
    (fun pre W => (Boxed W w.heap.size 3 (.int .i64 (IntKind.i64.wrap (wayN pre))) ∧ Boxed W (w.heap.size + 1) 29 (.slice A l.length c)) ∧ Below w.heap.size w W)
    (fun _ _ _ => False)
    (OwnFrom.and (OwnFrom.and (Own.from (boxed_own _ _ (fun pre => Value.int .i64 (IntKind.i64.wrap (wayN pre)))) _) (Own.from (boxed_own _ _ (fun _ => Value.slice A l.length c)) _)) (ownFrom_below (Nat.le_refl _) (by omega)))
    (fun _ _ _ _ _ hs _ _ => hs)
    ⟨⟨b0', b1'⟩, hb3⟩
    (fun x a' W => ∃ Bx, w.heap.size < Bx ∧ BoxC W Bx 125 (encN x).toArray ∧ a' = { tmps := #[.slice A l.length c, .int .i64 st, .string s, undef, undef, undef, .int .i64 0, .pointer (some ⟨w.heap.size, 0, none⟩), .pointer (some ⟨Bx, 0, none⟩), .slice A l.length c, .string s, .func (.func 173) #[] #[.pointer (some ⟨w.heap.size + 1, 0, none⟩), .pointer (some ⟨w.heap.size + 1 + 1, 0, none⟩)], .agg (encN x).toArray, undef, undef, undef, undef, undef, undef, undef, undef, undef, undef, undef, undef], defers := [] })
    (fun x a' _ X Y row hs hg hr => by obtain ⟨Bx, h1, h2, h3⟩ := hs; exact ⟨Bx, h1, BoxC.own Bx _ _ () X Y row h2 hg (fun r e => (hr r e).2), h3⟩)
    ?assign ?body ?done ?stop
  case assign =>
    rintro lp pre x W K ⟨⟨hv, hv1⟩, hB1⟩ hK
    unfold encN at hK ⊢
    gi_wp2
    exact hK _ _ ((KeepsOthers.alloc _ _).from _) (KL.of (ext_alloc W _) hB1.size hv1.lt) ⟨⟨hv.alloc _, hv1.alloc _⟩, hB1.alloc hB1.size _⟩ ⟨W.heap.size, hv.lt, BoxC.new _ _ _, rfl⟩
  case body =>
    rintro lp pre x a' W hlp ⟨r, hr⟩ ⟨⟨hv, hv1⟩, hB1⟩ ⟨Bx, hBx, bX, rfl⟩ hlt
    unfold encN at bX
    have c2 := bX.cell 2 _ rfl
    have c3 := bX.cell 3 _ rfl
    have hc := hv.cell
    have hf := hv.frozen
    have hsn := wayN_snoc pre x
    generalize wayN pre = y at hsn hv hc hf
    have HSN := Lib.hid hsn
    clear hsn
    gi_wp2
    refine ⟨(KeepsOthers.setCell _ _ _).from _, ⟨(Below.refl _ W).setCell (p := ⟨w.heap.size, 0, none⟩) (Nat.le_refl _) _, Below.heap_setCell _ _ _ _ (by simp)⟩, ⟨⟨?_, hv1.other (by omega) _⟩, hB1.setCell (p := ⟨w.heap.size, 0, none⟩) (Nat.le_refl _) _⟩⟩
    have hw : ∀ a b c : Int, a = b → Boxed (W.setCell ⟨w.heap.size, 0, none⟩ (.int .i64 a)) w.heap.size c.toNat (.int .i64 a) → Boxed (W.setCell ⟨w.heap.size, 0, none⟩ (.int .i64 a)) w.heap.size c.toNat (.int .i64 b) := fun a b c h h2 => h ▸ h2
    refine hw _ _ 3 ?_ (hv.set _)
    rw [HSN.out]
    simp only [IntKind.wrap_i64, Go.RowKit.wrap64]
    omega
  case done =>
    rintro D ys W hD rfl ⟨⟨hv, hv1⟩, hB1⟩ hK
    have hc := hv.cell
    obtain ⟨g1, g2⟩ := wayN_le 1000 _ hcm
    rw [IntWalk.i64_in _ (by omega)] at hc
    have hne : (wayN ys == 0) = false := by simp; omega
    gi_wp2
    refine ⟨by simp, .inl ⟨_, _, rfl, run_takeDeferred hK, ?_⟩⟩
    exact ⟨_, results_tmp rfl _ _ _, by rw [HLV.out]; rfl, hB1.trans (belowK_b (w := w) (Nat.le_refl _) W D _ _ (by omega) hK rfl rfl)⟩
  case stop =>
    rintro D c pre W _ _ h _
    exact h.elim
def levelE (l : List Nd) (st : Int) (s : ByteArray) : Int := firstV [checkNodesV l, withinV st 0 100000000, whenV (decide (findI l s < 0)) 10]
def levelR (l : List Nd) (st : Int) (s : ByteArray) : Int × Int := if levelE l st s ≠ 0 then (0, levelE l st s) else (levelN l st s, 0)
set_option maxHeartbeats 4000000 in
theorem Level_any (v : Value) (l : List Nd) (st : Int) (s : ByteArray) (w : World) (hs : SlAt encN 7 w v l) (hok : Names l) :
    Calls Tryz.prog 32 #[v, .int .i64 st, .string s] w fun e w' => e = .returned (.tuple #[.int .i64 (levelR l st s).1, .int .i64 (levelR l st s).2]) ∧ Below w.heap.size w w' := by
  have hsw := hs
  obtain ⟨A, c, rfl, hc1, hc2, hr⟩ := hs
  clear hr
  have hc := fun W hW => checkNodes_any l _ W (hsw.ext hW) hok
  have hf := fun W hW => find_any l _ s W (hsw.ext hW)
  have hz : checkNodesV l = 0 → _ := good_of
  have hV : levelR l st s = if firstV [checkNodesV l, withinV st 0 100000000, whenV (decide (findI l s < 0)) 10] ≠ 0 then (0, firstV [checkNodesV l, withinV st 0 100000000, whenV (decide (findI l s < 0)) 10]) else (levelN l st s, 0) := rfl
  rw [hV]
  clear hV
  generalize checkNodesV l = e1 at hc hz ⊢
  generalize findI l s = i1 at hf ⊢
  go_enter Tryz.func32, Tryz.ntmps32
  cases hq0 : decide (i1 < 0)
  all_goals
    cases hq : (firstV [e1, withinV st 0 100000000, whenV (decide (i1 < 0)) 10] != 0)
    · have hq2 : firstV [e1, withinV st 0 100000000, whenV (decide (i1 < 0)) 10] = 0 := by simpa using hq
      have hq3 := hq2
      rw [hq0] at hq3
      rw [if_neg (by simpa using hq3)]
      clear hq3
      have h3 := hq2
      simp only [firstV_zero, List.mem_cons, List.mem_nil_iff, or_false, forall_eq_or_imp, forall_eq, withinV_zero] at h3
      obtain ⟨rfl, ⟨hs0, hs1⟩, _⟩ := h3
      have hg := hz rfl
      have hlv := fun W hW => level_any _ l st s hg.acyc hg.len1 (fun x hx => ⟨(hg.mem hx).re0, (hg.mem hx).re1, (hg.mem hx).im0, (hg.mem hx).im1⟩) hs0 (by omega) W (hsw.ext hW)
      clear hz hg
      rw [hq0] at hq hq2
      have HQ2 := Lib.hid hq2
      clear hq2
      go_wp2_with (first
        | (go_at_call 21; refine (hc _ (Below.refl _ _)).mono ?_; rintro e w1 ⟨rfl, hb1⟩)
        | (go_at_call 88; refine (within_any _ _ _ _).mono ?_; rintro e w3 ⟨rfl, rfl⟩)
        | (go_at_call 89; refine (hf _ hb1).mono ?_; rintro e w2 ⟨rfl, hb2⟩; have hb3 := ext_trans hb1 hb2; have hsz := hb3.size)
        | (go_at_call 82; refine (when_any _ _ _).mono ?_; rintro e w3 ⟨rfl, rfl⟩)
        | (go_at_call 81; refine (first_any [_, _, _] _ _ (slat_new encI_len (by simp) rfl (by simp))).mono ?_; rintro e w3 ⟨rfl, rfl⟩)
        | (go_at_call 90; refine (hlv _ (hb3.alloc hsz _)).mono ?_; rintro e w5 ⟨rfl, hb5⟩))
      go_ret2
      exact ⟨rfl, ext_trans (hb3.alloc hsz _) hb5⟩
    · have hq2 : firstV [e1, withinV st 0 100000000, whenV (decide (i1 < 0)) 10] ≠ 0 := by simpa using hq
      have hq3 := hq2
      rw [hq0] at hq3
      rw [if_pos hq3]
      clear hq3
      rw [hq0] at hq
      clear hz hq2
      go_wp2_with (first
        | (go_at_call 21; refine (hc _ (Below.refl _ _)).mono ?_; rintro e w1 ⟨rfl, hb1⟩)
        | (go_at_call 88; refine (within_any _ _ _ _).mono ?_; rintro e w3 ⟨rfl, rfl⟩)
        | (go_at_call 89; refine (hf _ hb1).mono ?_; rintro e w2 ⟨rfl, hb2⟩; have hb3 := ext_trans hb1 hb2; have hsz := hb3.size)
        | (go_at_call 82; refine (when_any _ _ _).mono ?_; rintro e w3 ⟨rfl, rfl⟩)
        | (go_at_call 81; refine (first_any [_, _, _] _ _ (slat_new encI_len (by simp) rfl (by simp))).mono ?_; rintro e w3 ⟨rfl, rfl⟩))
      go_ret2
      exact ⟨rfl, hb3.alloc hsz _⟩
end Go.Proofs.YtlogjgmfkjjhjaaGreatDoor
namespace Go.Proofs.YtlogjgmfkjjhjaaGreatDoor
open Go.RowKit

/-- a relay: its name, its node, its points, and where these lie -/
structure Rl where
  name : ByteArray
  node : ByteArray
  pa : Option Addr
  pc : Nat
  pts : List (Int × Int)
instance : Inhabited Rl := ⟨⟨ByteArray.empty, ByteArray.empty, none, 0, []⟩⟩
/-- the slice value of its points -/
def Rl.pv (r : Rl) : Value := .slice r.pa r.pts.length r.pc
def encR (r : Rl) : List Value := [.string r.name, .string r.node, r.pv]
theorem encR_len (r : Rl) : (encR r).length = 3 := rfl

theorem foldl_take_succ {α β : Type} (f : β → α → β) (a : β) (xs : List α) (k : Nat) (h : k < xs.length) : (xs.take (k + 1)).foldl f a = f ((xs.take k).foldl f a) xs[k] := by
  rw [List.take_succ_eq_append_getElem h, List.foldl_append]; rfl
def timeStep (lv : Int) (o : Int × Bool) (p : Int × Int) : Int × Bool := if p.1 ≤ lv then (p.2, true) else o
def timeV (lv : Int) (pts : List (Int × Int)) : Int × Bool := pts.foldl (timeStep lv) (0, false)

set_option maxHeartbeats 2000000 in
theorem time_any (r : Rl) (lv : Int) (w : World) (hs : SlAt encG 2 w r.pv r.pts) :
    Calls Tryz.prog 148 #[.agg (encR r).toArray, .int .i64 lv] w fun e w' => e = .returned (.tuple #[.int .i64 (timeV lv r.pts).1, .bool (timeV lv r.pts).2]) ∧ Below w.heap.size w w' := by
  unfold encR
  have hV : timeV lv r.pts = r.pts.foldl (timeStep lv) (0, false) := rfl
  rw [hV]
  clear hV
  generalize r.pv = pv at hs ⊢
  generalize r.pts = pts at hs ⊢
  generalize r.name = rn
  generalize r.node = rd
  have hsw := hs
  obtain ⟨A, c, rfl, hc1, hc2, hr⟩ := hs
  have hlen : pts.length ≤ 9223372036854775807 := by omega
  go_enter Tryz.func148, Tryz.ntmps148
  go_wp2
  go_loopw [13, 6, 7] (fun i o b wr => ∃ k : Nat, k ≤ pts.length ∧ i = .int .i64 k ∧ o = .int .i64 ((pts.take k).foldl (timeStep lv) (0, false)).1 ∧ b = .bool ((pts.take k).foldl (timeStep lv) (0, false)).2 ∧ Below w.heap.size w wr) (fun i _ _ _ => pts.length - (intOf i).toNat)
  case atStart => exact ⟨0, Nat.zero_le _, rfl, rfl, rfl, by (repeat (first | exact Below.refl _ _ | assumption | refine Below.drew ?_ | refine Below.alloc ?_ (by simp <;> omega) _ | refine Below.alloc ?_ (by simp) _ | refine Below.setCell ?_ (by simp) _))⟩
  case round =>
    obtain ⟨k, hk, rfl, rfl, rfl, hb⟩ := hrel
    by_cases hlt : k < pts.length
    · obtain ⟨b, off, rfl, hbl, hcell⟩ := hr (by omega)
      have hx : pts[k]? = some pts[k] := List.getElem?_eq_getElem hlt
      have hst := foldl_take_succ (timeStep lv) (0, false) pts k hlt
      have c0 := ext_cell hb (hcell k _ hx 0 _ rfl)
      have c1 := ext_cell hb (hcell k _ hx 1 _ rfl)
      rw [Nat.add_zero] at c0
      generalize pts[k] = p at hst c0 c1
      generalize (pts.take k).foldl (timeStep lv) (0, false) = o at hst ⊢
      have hsz := hb.size
      clear hx hcell hr
      cases hq : decide (p.1 ≤ lv)
      · have hst2 : (pts.take (k + 1)).foldl (timeStep lv) (0, false) = o := by rw [hst, timeStep, if_neg (by simpa using hq)]
        have HST := Lib.hid hst2
        clear hst hst2
        go_wp2
        go_roundw
        case rel => exact ⟨k + 1, by omega, by go_num, by rw [HST.out], by rw [HST.out], hb.alloc hsz _⟩
        case measure => simp [intOf]; omega
      · have hst2 : (pts.take (k + 1)).foldl (timeStep lv) (0, false) = (p.2, true) := by rw [hst, timeStep, if_pos (by simpa using hq)]
        have HST := Lib.hid hst2
        clear hst hst2
        go_wp2
        go_roundw
        case rel => exact ⟨k + 1, by omega, by go_num, by rw [HST.out], by rw [HST.out], hb.alloc hsz _⟩
        case measure => simp [intOf]; omega
    · obtain rfl : k = pts.length := by omega
      rw [List.take_of_length_le (Nat.le_refl _)]
      go_wp2
      go_ret2
      exact ⟨rfl, hb⟩
end Go.Proofs.YtlogjgmfkjjhjaaGreatDoor
