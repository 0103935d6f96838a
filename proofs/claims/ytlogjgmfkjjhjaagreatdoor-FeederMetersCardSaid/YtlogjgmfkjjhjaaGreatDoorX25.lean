/-
  A range over a function whose iterator stores into a box of its own (block sb): what the caller holds must stand such stores too.
  strings.Lines: the iterator.
  A region that draws its order, in whatever frame: each order walked. A line of a text.
-/
import Derived.Test.YtlogjgmfkjjhjaaGreatDoorX24
import Derived.Test.YtlogjgmfkjjhjaaGreatDoorX11
import Derived.RangeFuncNested
import Derived.OrdersIn
set_option linter.unusedSimpArgs false
set_option linter.unusedVariables false
namespace Go.Proofs.YtlogjgmfkjjhjaaGreatDoor
open Go.RowKit

/-- stands a store into block sb -/
def Stands {β : Type} (sb : Nat) (J : β → World → Prop) : Prop := ∀ s W v, J s W → J s (W.setCell ⟨sb, 0, none⟩ v)
/-- an iterator that writes its own box: it hands its caller's round xs one by one, for every J that abides growth and stands its stores -/
def SeqBox {α : Type} (F : Fence) (n : Nat) (P : Program) (g : Nat) (lb : Array Value) (encs : α → Array Value) (Kp : World → World → Prop) (S Sp : List α → Prop) (sb : Nat) (w : World) : Prop :=
  ∀ (l : Nat) (J Jx : List α → World → Prop) (W : World), Below w.heap.size w W → AbidesFrom W.heap.size J → AbidesFrom W.heap.size Jx → Stands sb J → Stands sb Jx →
    (∀ pre x W1, J pre W1 → Sp (pre ++ [x]) → YieldAt F (n - 1) P l (encs x) W1 fun e W' =>
      (e = .returned (.bool true) ∧ J (pre ++ [x]) W' ∧ Kp W1 W') ∨ (e = .returned (.bool false) ∧ Jx (pre ++ [x]) W')) →
    J [] W →
    CallsIn F n P g (#[.func (.yield l) #[] #[]] ++ lb) W fun e W' => (∃ v, e = .returned v) ∧ ((∃ xs, S xs ∧ J xs W') ∨ (∃ pre, Sp pre ∧ Jx pre W'))

section
variable {F : Fence} {n : Nat} {P : Program} {w : World}
set_option maxHeartbeats 1000000 in
theorem rangeFunc_box {α : Type} {g : Operand} {ps : Array Tmp} {assign body : Code} {Q : Exit → Act → World → Prop} {a : Act}
    (hro : F.round = none) (h1 : 1 ≤ n) {gf : Nat} {lb : Array Value} (hg : a.eval g = .func (.func gf) #[] lb) (hFg : F.fn gf) (eg : ∀ args w, (callFunc gf args).run P w = .ok (.enter gf args) w)
    {encs : α → Array Value} {Kp : World → World → Prop} {S Sp : List α → Prop} {sb : Nat} (hsb : sb < w.heap.size) (hseq : SeqBox F (n - 1) P gf lb encs Kp S Sp sb w)
    (hKt : ∀ {A B C : World}, Kp A B → Kp B C → Kp A C) (hKb : ∀ (W : World) (l : Nat) (o o' : Obj), w.heap.size ≤ l → W.heap[l]? = some o → o.isCells = false → o.isWalk = false → Kp W (W.putObj l o')) (hps : ∀ x, (encs x).size = ps.size)
    (I : List α → World → Prop) (Ix : Code → List α → World → Prop) (hI : OwnFrom w.heap.size I) (hIx : ∀ c, OwnFrom w.heap.size (Ix c)) (hIs : Stands sb I) (hIxs : ∀ c, Stands sb (Ix c)) (h0 : I [] w) (Ax : α → Act → World → Prop) (hAx : ∀ x a', OwnFrom w.heap.size (fun (_ : Unit) W => Ax x a' W))
    (hassign : ∀ (l : Nat) (pre : List α) (x : α) (W : World) (K : Act → World → Prop), I pre W → (∀ a' W', KeepsFrom w.heap.size W W' → Kp W W' → I pre W' → Ax x a' W' → K a' W') →
      assign.wpIn (F.inRound l) (n - 1 - 1) P (Exit.then K (fun _ _ _ => False)) { tmps := (ps.zip (encs x)).foldl (fun t (p, v) => t.setIfInBounds p v) a.tmps, defers := [] } W)
    (hbody : ∀ (l : Nat) (pre : List α) (x : α) (a' : Act) (W : World), w.heap.size ≤ l → I pre W → Ax x a' W → Sp (pre ++ [x]) → body.wpIn (F.inRound l) (n - 1 - 1) P (ownPostG w.heap.size Kp I Ix (pre ++ [x]) W) a' W)
    (hdone : ∀ (D : Nat) (xs : List α) (W : World), w.heap.size ≤ D → S xs → I xs W → W.heap[D]? = some (.deferred (some [])) → Q .normal { a with defers := { target := .collected D, args := #[] } :: a.defers } W)
    (hstop : ∀ (D : Nat) (c : Code) (pre : List α) (W : World), w.heap.size ≤ D → Sp pre → Ix c pre W → W.heap[D]? = some (.deferred (some [])) → c.wpIn F n P Q { a with defers := { target := .collected D, args := #[] } :: a.defers } W) :
    (Code.rangeFunc g ps assign body).wpIn F n P Q a w := by
  refine wpIn_rangeFunc ?_
  intro fn hfn
  rw [hro]
  -- the loop's record: at block w.heap.size + 1; the block for deferred calls: at w.heap.size
  generalize hq : w.heap.size = q at *
  obtain ⟨rec_, hrec⟩ : ∃ r : LoopState → Option Code → Loop, r = fun st pe => { state := st, pending := pe, fn, tmps := a.tmps, params := ps, assign, body, defers := q } := ⟨_, rfl⟩
  obtain ⟨W1, hW1⟩ : ∃ W1, (w.alloc (.deferred (some []))).alloc (.loop (rec_ .ready none)) = W1 := ⟨_, rfl⟩
  have hz1 : W1.heap.size = q + 1 + 1 := by rw [← hW1]; simp [hq]
  have hbusy : ∀ st, { rec_ st none with state := .busy } = rec_ .busy none := fun st => by rw [hrec]
  have hrec1 : W1.heap[q + 1]? = some (.loop (rec_ .ready none)) := by
    have := World.alloc_heap_new (w.alloc (.deferred (some []))) (.loop (rec_ .ready none))
    rw [World.size_alloc, hq, hW1] at this
    exact this
  have hdef1 : W1.heap[q]? = some (.deferred (some [])) := by
    have := World.alloc_heap_new w (.deferred (some []))
    rw [hq] at this
    rw [← hW1]
    exact (Below.heap_alloc _ _ _ (by simp [hq])).trans this
  have hI1 : I [] W1 := by rw [← hW1]; exact hI.alloc _ (hI.alloc _ h0)
  have hb1 : Below w.heap.size w W1 := by rw [← hW1]; exact ((Below.refl _ w).alloc (Nat.le_refl _) _).alloc (by simp) _
  -- the two blocks of book-keeping
  have bk : ∀ {A B : World} {row : Option Nat} {st : LoopState} {pe : Option Code}, A.grownBy B row → (∀ r, row = some r → ∃ o : Obj, A.heap[r]? = some o ∧ o.isWalk = true) →
      A.heap[q + 1]? = some (.loop (rec_ st pe)) ∧ A.heap[q]? = some (.deferred (some [])) → B.heap[q + 1]? = some (.loop (rec_ st pe)) ∧ B.heap[q]? = some (.deferred (some [])) :=
    fun hgr hr h => ⟨(grownBy_keeps hgr hr h.1 rfl).trans h.1, (grownBy_keeps hgr hr h.2 rfl).trans h.2⟩
  have bs : ∀ {A : World} {v : Value} {st : LoopState} {pe : Option Code}, A.heap[q + 1]? = some (.loop (rec_ st pe)) ∧ A.heap[q]? = some (.deferred (some [])) →
      (A.setCell ⟨sb, 0, none⟩ v).heap[q + 1]? = some (.loop (rec_ st pe)) ∧ (A.setCell ⟨sb, 0, none⟩ v).heap[q]? = some (.deferred (some [])) :=
    fun h => ⟨(Below.heap_setCell _ _ _ _ (by simp; omega)).trans h.1, (Below.heap_setCell _ _ _ _ (by simp; omega)).trans h.2⟩
  have own : ∀ {A : World} {row : Option Nat}, (∀ r, row = some r → W1.heap.size ≤ r ∧ ∃ o : Obj, A.heap[r]? = some o ∧ o.isWalk = true) → ∀ r, row = some r → q ≤ r ∧ ∃ o : Obj, A.heap[r]? = some o ∧ o.isCells = false :=
    fun hr r e => by
      obtain ⟨hB, o, ho, hw⟩ := hr r e
      exact ⟨by omega, o, ho, Obj.not_cells_of_walk hw⟩
  have hround : ∀ (pre : List α) (x : α) (W : World), (I pre W ∧ W.heap[q + 1]? = some (.loop (rec_ .ready none)) ∧ W.heap[q]? = some (.deferred (some []))) → Sp (pre ++ [x]) → YieldAt F (n - 1 - 1) P (q + 1) (encs x) W fun e W' =>
      (e = .returned (.bool true) ∧ (I (pre ++ [x]) W' ∧ W'.heap[q + 1]? = some (.loop (rec_ .ready none)) ∧ W'.heap[q]? = some (.deferred (some []))) ∧ Kp W W') ∨
      (e = .returned (.bool false) ∧ ∃ c, Ix c (pre ++ [x]) W' ∧ W'.heap[q + 1]? = some (.loop (rec_ .done (some c))) ∧ W'.heap[q]? = some (.deferred (some []))) := by
      rintro pre x W ⟨hi, hl, hk⟩ hlen
      have hy := run_yield (P := P) (args := encs x) hl (by rw [hrec]; exact hps x)
      rw [hrec] at hy
      refine ⟨fn, _, assign, body, hy, roundIn_of_wpIn hfn (hassign _ pre x W _ hi ?_)⟩
      intro a' V hkf hkp hiV hax
      have hlV := hkf.same _ _ (by omega) hl rfl
      have hkV := hkf.same _ _ (Nat.le_refl _) hk rfl
      have hbr := run_beginRound (P := P) hlV (by rw [hrec])
      rw [hbusy] at hbr
      refine ⟨_, hbr, ?_⟩
      have hsz : q + 1 < V.heap.size := (Array.getElem?_eq_some_iff.1 hlV).1
      have hl2 : (V.putObj (q + 1) (.loop (rec_ .busy none))).heap[q + 1]? = some (.loop (rec_ .busy none)) := World.putObj_heap_same hsz
      have hk2 : (V.putObj (q + 1) (.loop (rec_ .busy none))).heap[q]? = some (.deferred (some [])) := (World.putObj_heap_other (by omega)).trans hkV
      have hkp2 := hkp
      have hkp3 : Kp V (V.putObj (q + 1) (.loop (rec_ .busy none))) := hKb _ _ _ _ (by omega) hlV rfl rfl
      refine wpIn_mono (hbody _ pre x a' _ (by omega) (hI.putObj _ hiV (by omega) hlV rfl) ((hAx x a').putObj (s := ()) _ hax (by omega) hlV rfl) hlen) ?_
      -- the round's end
      have fin : ∀ (jump : Option Code) (V3 : World), KeepsFrom q (V.putObj (q + 1) (.loop (rec_ .busy none))) V3 →
          V3.heap[q + 1]? = some (.loop (rec_ .busy none)) ∧ (Instr.endRound (q + 1) jump).run P V3 = .ok (.bool jump.isNone) (V3.putObj (q + 1) (.loop (rec_ (if jump.isNone then .ready else .done) jump))) ∧
          ((V3.putObj (q + 1) (.loop (rec_ (if jump.isNone then .ready else .done) jump))).heap[q + 1]? = some (.loop (rec_ (if jump.isNone then .ready else .done) jump)) ∧
          (V3.putObj (q + 1) (.loop (rec_ (if jump.isNone then .ready else .done) jump))).heap[q]? = some (.deferred (some []))) := fun jump V3 h3 => by
        have hl3 := h3.same _ _ (by omega) hl2 rfl
        have he := run_endRound (P := P) jump hl3
        rw [hrec] at he hl3 ⊢
        exact ⟨hl3, he, World.putObj_heap_same (Array.getElem?_eq_some_iff.1 hl3).1, (World.putObj_heap_other (by omega)).trans (h3.same _ _ (Nat.le_refl _) hk2 rfl)⟩
      rintro e a3 V3 hp
      cases e with
      | normal =>
        obtain ⟨h3, hk3, hi3⟩ := hp
        obtain ⟨hl3, hr, hbk⟩ := fin none V3 h3
        exact ⟨_, _, hr, .inl ⟨rfl, ⟨hI.putObj _ hi3 (by omega) hl3 rfl, hbk⟩, hKt hkp2 (hKt (hKt hkp3 hk3) (hKb _ _ _ _ (by omega) hl3 rfl rfl))⟩⟩
      | ret =>
        obtain ⟨h3, hi3⟩ := hp
        obtain ⟨hl3, hr, hbk⟩ := fin (some .ret) V3 h3
        exact ⟨_, _, hr, .inr ⟨rfl, .ret, (hIx _).putObj _ hi3 (by omega) hl3 rfl, hbk⟩⟩
      | exit id =>
        obtain ⟨h3, hi3⟩ := hp
        obtain ⟨hl3, hr, hbk⟩ := fin (some (.exit id)) V3 h3
        exact ⟨_, _, hr, .inr ⟨rfl, .exit id, (hIx _).putObj _ hi3 (by omega) hl3 rfl, hbk⟩⟩
      | goto t =>
        obtain ⟨h3, hi3⟩ := hp
        obtain ⟨hl3, hr, hbk⟩ := fin (some (.goto t)) V3 h3
        exact ⟨_, _, hr, .inr ⟨rfl, .goto t, (hIx _).putObj _ hi3 (by omega) hl3 rfl, hbk⟩⟩
      | panic ch => exact hp.elim
      | outgrown => exact hp.elim
  have hit := hseq (q + 1)
    (fun pre W => I pre W ∧ W.heap[q + 1]? = some (.loop (rec_ .ready none)) ∧ W.heap[q]? = some (.deferred (some [])))
    (fun pre W => ∃ c, Ix c pre W ∧ W.heap[q + 1]? = some (.loop (rec_ .done (some c))) ∧ W.heap[q]? = some (.deferred (some [])))
    W1 hb1
    (fun s A B row h hgr hr => ⟨hI s A B row h.1 hgr (own hr), bk hgr (fun r e => (hr r e).2) h.2⟩)
    (fun s A B row h hgr hr => by
      obtain ⟨c, hc, hk⟩ := h
      exact ⟨c, hIx c s A B row hc hgr (own hr), bk hgr (fun r e => (hr r e).2) hk⟩)
    (fun s A v h => ⟨hIs s A v h.1, bs h.2⟩)
    (fun s A v h => by
      obtain ⟨c, hc, hk⟩ := h
      exact ⟨c, hIxs c s A v hc, bs hk⟩)
    hround
    ⟨hI1, hrec1, hdef1⟩
  refine ⟨q + 1, [{ target := .collected q, args := #[] }], W1, { target := .fn (.func gf) lb, args := #[.func (.yield (q + 1)) #[] #[]] }, W1, gf, #[.func (.yield (q + 1)) #[] #[]] ++ lb, W1, ?_, ?_, ?_, ?_, fun _ => h1, ?_⟩
  · have := run_enterLoop_outer (P := P) (w := w) fn a.tmps ps assign body
    rw [← hW1, hrec]
    rw [hq] at this
    exact this
  · simp only [resolve, hg]
    simp [go_sem]
  · intro f' hf'
    simp [Target.leads] at hf'
    subst hf'
    exact hFg
  · simp [invoke, go_sem, eg]
  · refine hit.mono ?_
    rintro e W2 ⟨⟨v, rfl⟩, (⟨xs, hS, hi, hl, hk⟩ | ⟨pre, hSp, c, hi, hl, hk⟩)⟩
    · exact ⟨none, _, (by have h := run_endLoop (P := P) hl (by rw [hrec]; simp); rw [hrec] at h; exact h), hdone _ xs _ (Nat.le_refl _) hS (hI.putObj _ hi (by omega) hl rfl) ((World.putObj_heap_other (by omega)).trans hk)⟩
    · exact ⟨some c, _, (by have h := run_endLoop (P := P) hl (by rw [hrec]; simp); rw [hrec] at h; exact h), hstop _ c pre _ (Nat.le_refl _) hSp ((hIx c).putObj _ hi (by omega) hl rfl) ((World.putObj_heap_other (by omega)).trans hk)⟩
end
end Go.Proofs.YtlogjgmfkjjhjaaGreatDoor
namespace Go.Proofs.YtlogjgmfkjjhjaaGreatDoor
open Go.RowKit Go.Shelf
attribute [local go_sem] Oper.semAt_some

/-- the lines of a string, each with its line feed -/
def linesF : Nat → ByteArray → List ByteArray
  | 0, _ => []
  | f + 1, r => if r.size = 0 then [] else if 0 ≤ Lib.indexByte r.data.toList 10 then r.extract 0 (Lib.indexByte r.data.toList 10 + 1).toNat :: linesF f (r.extract (Lib.indexByte r.data.toList 10 + 1).toNat r.size) else [r]
def linesB (s : ByteArray) : List ByteArray := linesF s.size s

theorem linesMk_any (s : ByteArray) (w : World) : Calls Tryz.prog 128 #[.string s] w fun e w' => e = .returned (.func (.func 167) #[] #[.pointer (some ⟨w.heap.size, 0, none⟩)]) ∧ w' = w.alloc (.cells #[.string s] 9) := by
  go_enter Tryz.func128, Tryz.ntmps128
  go_wp2
  go_ret
  exact ⟨rfl, rfl⟩

theorem indexByte_lt : ∀ (l : List UInt8) (c : UInt8), -1 ≤ Lib.indexByte l c ∧ Lib.indexByte l c < (l.length : Int)
  | [], _ => by simp [Lib.indexByte]
  | b :: l, c => by
    have ih := indexByte_lt l c
    unfold Lib.indexByte
    simp only [List.length_cons]
    split
    · omega
    · split <;> omega
def KB (sb : Nat) (A B : World) : Prop := B.heap[sb]? = A.heap[sb]?

set_option maxRecDepth 100000 in
set_option maxHeartbeats 4000000 in
theorem lines_stops (n : Nat) (hn : 1 ≤ n) (sb : Nat) (s : ByteArray) (hs : s.size ≤ 9223372036854775806) (w : World) (hsb : sb < w.heap.size) (hcl : Boxed w sb 9 (.string s)) :
    SeqBox Fence.wide n Tryz.prog 167 #[.pointer (some ⟨sb, 0, none⟩)] (fun x : ByteArray => #[.string x]) (KB sb) (fun ys => ys = linesB s) (fun pre => pre <+: linesB s) sb w := fun lp J Jx W hW hJ hJx hSt hStx hY h0 => by
  have hF : Fence.wide.round = none := rfl
  refine callsIn_of_wp Tryz.func167 rfl trivial ?_ rfl
  simp only [Tryz.ntmps167, List.size_toArray, List.length_cons, List.length_nil, Nat.reduceAdd, Nat.reduceSub, Array.replicate_succ, Array.replicate_zero, List.push_toArray, List.append_toArray, List.nil_append, List.cons_append]
  have kl : Boxed W sb 9 (.string s) := (hW.block sb hsb).trans hcl
  have hst : linesB s = [] ++ linesF s.size s := rfl
  have HST := Lib.hid hst
  clear hst
  clear hcl
  gi_wp2
  gi_loopw [3] (fun i wr => ∃ (pre : List ByteArray) (r : ByteArray) (f : Nat), r.size ≤ f ∧ r.size ≤ 9223372036854775806 ∧ Hid (linesB s = pre ++ linesF f r) ∧ Boxed wr sb 9 (.string r) ∧ J pre wr) (fun i wr => match wr.cell? ⟨sb, 0, none⟩ with | some (.string r) => r.size | _ => 0)
  case atStart => exact ⟨[], s, s.size, Nat.le_refl _, by omega, HST, kl, h0⟩
  case round =>
    obtain ⟨pre, r, f, hrf, hrm, HC, hbx, hJr⟩ := hrel
    clear HST kl h0
    have c0 := hbx.cell
    have fz := hbx.frozen
    by_cases h0 : r.size = 0
    · have hz : decide ((0 : Int) < (r.size : Int)) = false := by rw [h0]; rfl
      gi_wp2
      go_end0
      have hl : linesF f r = [] := by cases f <;> simp [linesF, h0]
      exact ⟨⟨_, rfl⟩, .inl ⟨pre, by rw [HC.out, hl]; simp, hJr⟩⟩
    · have hz : decide ((0 : Int) < (r.size : Int)) = true := by simp; omega
      obtain ⟨f, rfl⟩ : ∃ m, f = m + 1 := Nat.exists_eq_succ_of_ne_zero (fun e => h0 (Nat.le_zero.1 (e ▸ hrf)))
      have hib := fun W => Tryz.strings_IndexByte r 10 W
      obtain ⟨hi1, hi2⟩ := indexByte_lt r.data.toList 10
      rw [size_list] at hi2
      have hlf : linesF (f + 1) r = if 0 ≤ Lib.indexByte r.data.toList 10 then r.extract 0 (Lib.indexByte r.data.toList 10 + 1).toNat :: linesF f (r.extract (Lib.indexByte r.data.toList 10 + 1).toNat r.size) else [r] := by
        rw [linesF, if_neg h0]
      have e10 : (10 : Int).toNat.toUInt8 = (10 : UInt8) := rfl
      rw [e10] at hib
      clear e10
      generalize Lib.indexByte r.data.toList 10 = i at hib hi1 hi2 hlf
      by_cases hneg : i < 0
      · rw [if_neg (by omega)] at hlf
        have hd0 : decide (0 ≤ i) = false := by simp; omega
        have hc2 : linesB s = (pre ++ [r]) ++ linesF 0 ⟨#[]⟩ := by rw [HC.out, hlf]; simp [linesF]
        have HC2 := Lib.hid hc2
        have hpl : pre ++ [r] <+: linesB s := ⟨_, hc2.symm⟩
        clear hlf hc2
        obtain ⟨fn, tmps, assign, body, hy, hR⟩ := hY pre r (wr.setCell ⟨sb, 0, none⟩ (.string ⟨#[]⟩)) (hSt _ _ _ hJr) hpl
        have hbx2 : Boxed (wr.setCell ⟨sb, 0, none⟩ (.string ⟨#[]⟩)) sb 9 (.string ⟨#[]⟩) := hbx.set _
        gi_wp2_with (refine ⟨trivial, ?_⟩; gi_at_call 168; refine (callsIn_wide.2 (hib _)).mono ?_; rintro e w1 ⟨rfl, rfl⟩)
        refine hR.mono ?_
        rintro e W3 (⟨rfl, hJ3, hk3⟩ | ⟨rfl, hJx3⟩)
        · have hbx3 : Boxed W3 sb 9 (.string ⟨#[]⟩) := hk3.trans hbx2
          have hcc := hbx3.cell
          have hcc0 := c0
          gi_wp2
          exact ⟨⟨pre ++ [r], ⟨#[]⟩, 0, by decide, by decide, HC2, hbx3, hJ3⟩, by rw [hcc, c0]; exact Nat.pos_of_ne_zero h0⟩
        · gi_wp2
          refine bodyPost_ret (results_none rfl _ _ _) rfl ?_
          exact ⟨⟨_, rfl⟩, .inr ⟨pre ++ [r], ⟨_, HC2.out.symm⟩, hJx3⟩⟩
      · obtain ⟨k, rfl⟩ := Int.eq_ofNat_of_zero_le (show 0 ≤ i by omega)
        rw [if_pos (by omega), show ((k : Int) + 1).toNat = k + 1 from by omega] at hlf
        have hd0 : decide ((0 : Int) ≤ (k : Int)) = true := by simp
        have hc2 : linesB s = (pre ++ [r.extract 0 (k + 1)]) ++ linesF f (r.extract (k + 1) r.size) := by rw [HC.out, hlf]; simp
        have HC2 := Lib.hid hc2
        have hpl : pre ++ [r.extract 0 (k + 1)] <+: linesB s := ⟨_, hc2.symm⟩
        have hks : k + 1 ≤ r.size := by omega
        have hwr : IntKind.i64.wrap ((k : Int) + 1) = (k : Int) + 1 := IntWalk.i64_in _ (by omega)
        clear hlf hc2 hi1 hi2 hneg
        gi_wp2_with (refine ⟨trivial, ?_⟩; gi_at_call 168; refine (callsIn_wide.2 (hib _)).mono ?_; rintro e w1 ⟨rfl, rfl⟩)
        refine wpIn_wide.2 ?_
        have dB0 : Below w1.heap.size w1 w1 := Below.refl _ _
        have hTF : True ∨ False := Or.inl trivial
        have c0d : w1.drew.cell? ⟨sb, 0, none⟩ = some (.string r) := c0
        have fzd : w1.drew.frozen? ⟨sb, 0, none⟩ = false := fz
        refine wp_region_tree (fun w' => True ∨ False) [0, 4, 9] (.one 1 (.one 2 (.one 5 (.one 6 (.two 0 4 (.one 3 (.one 8 (.one 4 (.one 7 (.one 9 .nil))))) (.one 7 (.one 0 (.one 3 (.one 8 (.one 9 .nil)))))))))) (by kernel_rfl) (by kernel_rfl) (by ((first | assumption | exact keep0 (by assumption) (by assumption) | exact keep0 (by assumption) (ext_alloc _ _) | exact keep0 (by assumption) (ext_drew _) | exact keep0 (by assumption) (ext_drew _) | go_keep))) (fun hSw => ?_)
        iterate 4 (first
          | (refine wpT_pas rfl rfl (fun K hK => ?_)
             apply Exists.intro
             refine ⟨?_, ?_⟩
             · first | exact pasOk_no rfl | (apply pasOk_yes rfl; intro wS hS; obtain s0 := hS; go_simp; first | done | exact rfl | ((try simp only [↓IntWalk.iteOmega]); (try go_bits); (try go_simp); first | done | exact rfl))
             go_simp
             refine hK _ ?_
             clear hK K)
          | (refine wpT_act rfl rfl rfl (fun K hK => ?_)
             go_wp2
             refine OnlyK.go (hK _ _ (by ((first | assumption | exact keep0 (by assumption) (by assumption) | exact keep0 (by assumption) (ext_alloc _ _) | exact keep0 (by assumption) (ext_drew _) | exact keep0 (by assumption) (ext_drew _) | go_keep))) (fun hSw => ?_))
             clear hK K))
        refine wpT_two rfl rfl rfl rfl (fun K hK => ?_) (fun K hK => ?_)
        · go_wp2
          refine OnlyK.go (hK _ _ (by ((first | assumption | exact keep0 (by assumption) (by assumption) | exact keep0 (by assumption) (ext_alloc _ _) | exact keep0 (by assumption) (ext_drew _) | exact keep0 (by assumption) (ext_drew _) | go_keep))) (fun hSw => ?_))
          clear hK K
          iterate 5 (first
            | (refine wpT_pas rfl rfl (fun K hK => ?_)
               apply Exists.intro
               refine ⟨?_, ?_⟩
               · first | exact pasOk_no rfl | (apply pasOk_yes rfl; intro wS hS; obtain s0 := hS; go_simp; first | done | exact rfl | ((try simp only [↓IntWalk.iteOmega]); (try go_bits); (try go_simp); first | done | exact rfl))
               go_simp
               refine hK _ ?_
               clear hK K)
            | (refine wpT_act rfl rfl rfl (fun K hK => ?_)
               go_wp2
               refine OnlyK.go (hK _ _ (by ((first | assumption | exact keep0 (by assumption) (by assumption) | exact keep0 (by assumption) (ext_alloc _ _) | exact keep0 (by assumption) (ext_drew _) | exact keep0 (by assumption) (ext_drew _) | go_keep))) (fun hSw => ?_))
               clear hK K))
          refine wpT_nil ?_
          clear hSw c0d fzd
          have hJ2 : J pre (w1.setCell ⟨sb, 0, none⟩ (.string (r.extract (k + 1) r.size))).drew := hJ _ _ _ none (hSt _ _ _ hJr) ⟨rfl, rfl, rfl, Nat.le_refl _, fun _ _ _ => rfl⟩ (fun r e => by cases e)
          obtain ⟨fn, tmps, assign, body, hy, hR⟩ := hY pre (r.extract 0 (k + 1)) _ hJ2 hpl
          have hbx2 : Boxed (w1.setCell ⟨sb, 0, none⟩ (.string (r.extract (k + 1) r.size))) sb 9 (.string (r.extract (k + 1) r.size)) := hbx.set _
          have hsx : (r.extract (k + 1) r.size).size = r.size - (k + 1) := by rw [ByteArray.size_extract]; omega
          have HSX := Lib.hid hsx
          clear hsx
          gi_wp2
          refine hR.mono ?_
          rintro e W3 (⟨rfl, hJ3, hk3⟩ | ⟨rfl, hJx3⟩)
          · have hbx3 : Boxed W3 sb 9 (.string (r.extract (k + 1) r.size)) := Eq.trans hk3 hbx2
            have hcc := hbx3.cell
            gi_wp2
            exact ⟨⟨pre ++ [r.extract 0 (k + 1)], r.extract (k + 1) r.size, f, by rw [HSX.out]; omega, by rw [HSX.out]; omega, HC2, hbx3, hJ3⟩, by rw [hcc, c0]; simp only; rw [HSX.out]; omega⟩
          · gi_wp2
            refine bodyPost_ret (results_none rfl _ _ _) rfl ?_
            exact ⟨⟨_, rfl⟩, .inr ⟨pre ++ [r.extract 0 (k + 1)], ⟨_, HC2.out.symm⟩, hJx3⟩⟩
        · go_wp2
          refine OnlyK.go (hK _ _ (by ((first | assumption | exact keep0 (by assumption) (by assumption) | exact keep0 (by assumption) (ext_alloc _ _) | exact keep0 (by assumption) (ext_drew _) | exact keep0 (by assumption) (ext_drew _) | go_keep))) (fun hSw => ?_))
          clear hK K
          iterate 5 (first
            | (refine wpT_pas rfl rfl (fun K hK => ?_)
               apply Exists.intro
               refine ⟨?_, ?_⟩
               · first | exact pasOk_no rfl | (apply pasOk_yes rfl; intro wS hS; obtain s0 := hS; go_simp; first | done | exact rfl | ((try simp only [↓IntWalk.iteOmega]); (try go_bits); (try go_simp); first | done | exact rfl))
               go_simp
               refine hK _ ?_
               clear hK K)
            | (refine wpT_act rfl rfl rfl (fun K hK => ?_)
               go_wp2
               refine OnlyK.go (hK _ _ (by ((first | assumption | exact keep0 (by assumption) (by assumption) | exact keep0 (by assumption) (ext_alloc _ _) | exact keep0 (by assumption) (ext_drew _) | exact keep0 (by assumption) (ext_drew _) | go_keep))) (fun hSw => ?_))
               clear hK K))
          refine wpT_nil ?_
          clear hSw c0d fzd
          have hJ2 : J pre (w1.setCell ⟨sb, 0, none⟩ (.string (r.extract (k + 1) r.size))).drew := hJ _ _ _ none (hSt _ _ _ hJr) ⟨rfl, rfl, rfl, Nat.le_refl _, fun _ _ _ => rfl⟩ (fun r e => by cases e)
          obtain ⟨fn, tmps, assign, body, hy, hR⟩ := hY pre (r.extract 0 (k + 1)) _ hJ2 hpl
          have hbx2 : Boxed (w1.setCell ⟨sb, 0, none⟩ (.string (r.extract (k + 1) r.size))) sb 9 (.string (r.extract (k + 1) r.size)) := hbx.set _
          have hsx : (r.extract (k + 1) r.size).size = r.size - (k + 1) := by rw [ByteArray.size_extract]; omega
          have HSX := Lib.hid hsx
          clear hsx
          gi_wp2
          refine hR.mono ?_
          rintro e W3 (⟨rfl, hJ3, hk3⟩ | ⟨rfl, hJx3⟩)
          · have hbx3 : Boxed W3 sb 9 (.string (r.extract (k + 1) r.size)) := Eq.trans hk3 hbx2
            have hcc := hbx3.cell
            gi_wp2
            exact ⟨⟨pre ++ [r.extract 0 (k + 1)], r.extract (k + 1) r.size, f, by rw [HSX.out]; omega, by rw [HSX.out]; omega, HC2, hbx3, hJ3⟩, by rw [hcc, c0]; simp only; rw [HSX.out]; omega⟩
          · gi_wp2
            refine bodyPost_ret (results_none rfl _ _ _) rfl ?_
            exact ⟨⟨_, rfl⟩, .inr ⟨pre ++ [r.extract 0 (k + 1)], ⟨_, HC2.out.symm⟩, hJx3⟩⟩
end Go.Proofs.YtlogjgmfkjjhjaaGreatDoor
namespace Go.Proofs.YtlogjgmfkjjhjaaGreatDoor
open Go.RowKit Go.Shelf

section
variable {F : Fence} {n : Nat} {P : Program} {ops : Array Oper} {Q : Exit → Act → World → Prop} {md : Region.Mode}
/-- all orders in which a region's operations may come up -/
def allOrd (md : Region.Mode) (ops : Array Oper) : Nat → Array Bool → List (List Nat)
  | 0, _ => [[]]
  | f + 1, listed => match Region.ready md ops listed with
    | [] => [[]]
    | r :: rs => (r :: rs).flatMap fun i => (allOrd md ops f (listed.setIfInBounds i true)).map (i :: ·)
theorem go_mem_allOrd : ∀ (fuel t : Nat) (listed : Array Bool), Region.linearise.go md ops fuel t listed [] ∈ allOrd md ops fuel listed
  | 0, t, listed => by simp [Region.linearise.go, allOrd]
  | f + 1, t, listed => by
    simp only [Region.linearise.go]
    change (match (Region.ready md ops listed)[t % (Region.ready md ops listed).length]? with
      | some i => Region.linearise.go md ops f (t / (Region.ready md ops listed).length) (listed.setIfInBounds i true) [i]
      | none => [].reverse) ∈ _
    unfold allOrd
    cases hr : Region.ready md ops listed with
    | nil => simp
    | cons r rs =>
      have hlt : t % (r :: rs).length < (r :: rs).length := Nat.mod_lt _ (by simp)
      rw [List.getElem?_eq_getElem hlt]
      simp only
      rw [linearise_go_acc, List.reverse_singleton, List.singleton_append]
      exact List.mem_flatMap.2 ⟨_, List.getElem_mem hlt, List.mem_map.2 ⟨_, go_mem_allOrd f _ _, rfl⟩⟩
theorem opsIn_list : ∀ (o : List Nat) (L : List Oper), (o.map fun i => ops[i]?) = L.map some → ∀ a w, wpListIn F n P ops Q L a w → wpOpsIn F n P ops Q o a w
  | [], [], _, a, w, h => h
  | [], _ :: _, e, _, _, _ => by simp at e
  | _ :: _, [], e, _, _, _ => by simp at e
  | i :: o, x :: L, e, a, w, h => by
    simp only [List.map_cons, List.cons.injEq] at e
    unfold wpOpsIn
    rw [e.1]
    simp only
    unfold wpListIn at h
    split at h
    · rename_i hw
      rw [if_pos hw]
      exact Oper.wpIn_mono (fun a w hh => opsIn_list o L e.2 a w hh) h
    · rename_i hw
      rw [if_neg hw]
      exact ⟨h.1, opsIn_list o L e.2 _ _ h.2⟩
theorem wpIn_region_orders {id : Nat} {a : Act} {w : World} {l : List Oper} (orders : List (List Nat)) (hm : P.follows .mixedOrders = true)
    (hB : (allOrd .any l.toArray l.toArray.size (Array.replicate l.toArray.size false) == orders && orders.all (fun o => o.all (fun i => decide (i < l.length)))) = true)
    (h : ∀ o ∈ orders, wpListIn F n P l.toArray Q (o.filterMap (opAt l)) a w.drew) : (Code.region id l.toArray true).wpIn F n P Q a w := by
  simp only [Bool.and_eq_true, beq_iff_eq] at hB
  refine wpIn_region_draw fun t => ?_
  have hmem : Region.schedule (P.follows .mixedOrders) l.toArray t ∈ orders := by
    rw [← hB.1]
    simp only [Region.schedule, hm, Bool.true_or, if_true]
    exact go_mem_allOrd _ _ _
  refine opsIn_list _ _ ?_ _ _ (h _ hmem)
  have hall := List.all_eq_true.1 hB.2 _ hmem
  generalize Region.schedule (P.follows .mixedOrders) l.toArray t = o at hall
  clear hmem h hB
  induction o with
  | nil => rfl
  | cons i o ih =>
    simp only [List.all_cons, Bool.and_eq_true, decide_eq_true_eq] at hall
    have hi : opAt l i = some l[i] := by rw [← opAt_get]; exact List.getElem?_eq_getElem hall.1
    rw [List.filterMap_cons, hi]
    simp only [List.map_cons]
    rw [ih hall.2]
    simp [hall.1]
end

theorem TkAt.kept {w w1 : World} {tb : Nat} {ws : List ByteArray} {wr : Bool} (h : TkAt w tb ws wr) {row : Option Nat} (hg : w.grownBy w1 row) (hr : ∀ r, row = some r → tb < r) : TkAt w1 tb ws wr := by
  obtain ⟨A, c, h1, h2, h3, h4⟩ := h
  refine ⟨A, c, h1.kept hg (fun e => by have := hr _ e.symm; omega), h2, h3, fun hp => ?_⟩
  obtain ⟨b, o, e, hl, hc⟩ := h4 hp
  have hlt : b < w.heap.size := Nat.lt_trans hl h1.lt
  exact ⟨b, o, e, hl, fun j x hx => by
    rw [World.cell?_of_block (hg.block b hlt (fun e => by have := hr _ e.symm; omega))]
    exact hc j x hx⟩

/-- the words of a line -/
def bodyB (x : ByteArray) : ByteArray := ⟨(Lib.trimSuffix x.data.toList [10]).toArray⟩
def splitW (x : ByteArray) : List ByteArray := Lib.splitB ⟨#[32]⟩ 0 (Lib.countB (bodyB x) ⟨#[32]⟩) (bodyB x)
def dashP (s : ByteArray) : ByteArray := if s.toList == [45] then ByteArray.empty else s
/-- a line's node, and whether the line is wrong -/
def lineS (x : ByteArray) : Nd × Bool :=
  let a0 := wordS (splitW x) false
  let a1 := wordS a0.2.1 a0.2.2
  let a2 := wordS a1.2.1 a1.2.2
  let a3 := numberS a2.2.1 a2.2.2
  let a4 := numberS a3.2.1 a3.2.2
  let a5 := numberS a4.2.1 a4.2.2
  let a6 := numberS a5.2.1 a5.2.2
  let a7 := numberS a6.2.1 a6.2.2
  (⟨a1.1, dashP a2.1, a3.1, a4.1, a5.1, a6.1, a7.1⟩, !Lib.hasSuffix x.data.toList [10] || !(a0.1.toList == [110, 111, 100, 101]) || a7.2.2 || decide (0 < a7.2.1.length))

theorem lineS_eq {x y0 y1 y2 : ByteArray} {ws1 ws2 ws3 ws4 ws5 ws6 ws7 ws8 : List ByteArray} {wr1 wr2 wr3 wr4 wr5 wr6 wr7 wr8 : Bool} {z3 z4 z5 z6 z7 : Int}
    (h0 : wordS (splitW x) false = (y0, ws1, wr1)) (h1 : wordS ws1 wr1 = (y1, ws2, wr2)) (h2 : wordS ws2 wr2 = (y2, ws3, wr3)) (h3 : numberS ws3 wr3 = (z3, ws4, wr4)) (h4 : numberS ws4 wr4 = (z4, ws5, wr5)) (h5 : numberS ws5 wr5 = (z5, ws6, wr6)) (h6 : numberS ws6 wr6 = (z6, ws7, wr7)) (h7 : numberS ws7 wr7 = (z7, ws8, wr8)) :
    lineS x = (⟨y1, dashP y2, z3, z4, z5, z6, z7⟩, !Lib.hasSuffix x.data.toList [10] || !(y0.toList == [110, 111, 100, 101]) || wr8 || decide (0 < ws8.length)) := by
  unfold lineS
  simp only [h0, h1, h2, h3, h4, h5, h6, h7]
theorem TkAt.lt {w : World} {tb : Nat} {ws : List ByteArray} {wr : Bool} (h : TkAt w tb ws wr) : tb < w.heap.size := by
  obtain ⟨A, c, h1, _⟩ := h
  exact h1.lt
theorem below_grown1 {n : Nat} {w a b : World} {tb : Nat} (h : Below n w a) (hg : a.grownBy b (some tb)) (h0 : n ≤ w.heap.size) (ht : n ≤ tb) : Below n w b := h.grown hg (Nat.le_trans h0 h.size) (fun j e => by cases e; exact ht)
theorem TkAt.set {w : World} {tb : Nat} {ws : List ByteArray} {wr : Bool} (h : TkAt w tb ws wr) (nb i : Nat) (v : Value) (hl : tb < nb) : TkAt (w.setCell ⟨nb, i, none⟩ v) tb ws wr := h.kept (setCell_grown w nb i v) (fun r e => by cases e; exact hl)
theorem boxed_app5 {α : Type} {E : α → List Value} {k n₀ B : Nat} {e t : TypeId} {w w1 : World} {v v' : Value} {xs ys : List α}
    (hv : Boxed w B t v) (hte : t ≠ e) (hrow : Own E k n₀ e w v xs) (hown' : Own E k n₀ e w1 v' ys) (hgrow : w.grownBy w1 v.ownBlock) :
    Boxed w1 B t v ∧ Boxed (w1.setCell ⟨B, 0, none⟩ v') B t v' ∧ Own E k n₀ e (w1.setCell ⟨B, 0, none⟩ v') v' ys ∧ KeepsOthers w (w1.setCell ⟨B, 0, none⟩ v') := by
  have hv1 : Boxed w1 B t v := hv.kept hgrow (hv.not_row hte hrow)
  refine ⟨hv1, hv1.set v', hown'.kept (grownBy_setCell' w1 B v') (.inr (hv1.not_row hte hown').symm), ?_⟩
  refine (KeepsOthers.of_grownBy hgrow fun j o ej hj => ?_).trans (KeepsOthers.setCell _ _ _)
  rcases hrow.2 with ⟨rfl, _⟩ | ⟨g, cap, cur, rfl, _, hgb, _⟩
  · simp [Value.ownBlock] at ej
  · obtain rfl : g = j := by simpa [Value.ownBlock] using ej
    rw [hgb] at hj; cases hj; rfl
theorem KeepsFrom.ofBelow {B : Nat} {w w1 : World} (h : Below w.heap.size w w1) : KeepsFrom B w w1 := ⟨h.size, fun k o _ hk _ => (h.block k (Array.getElem?_eq_some_iff.1 hk).1).trans hk⟩
theorem bodyB_size (x : ByteArray) : (bodyB x).size ≤ x.size := by
  have : (bodyB x).size = (Lib.trimSuffix x.data.toList [10]).length := rfl
  rw [this]
  have h2 : x.size = x.data.toList.length := rfl
  rw [h2]
  unfold Lib.trimSuffix
  split <;> simp
theorem splitB_le (sep : ByteArray) (save : Nat) : ∀ (k : Nat) (s : ByteArray), ∀ x ∈ Lib.splitB sep save k s, x.size ≤ s.size
  | 0, s, x, hx => by
    simp only [Lib.splitB, List.mem_singleton] at hx
    rw [hx]; exact Nat.le_refl _
  | k + 1, s, x, hx => by
    unfold Lib.splitB at hx
    split at hx
    · simp only [List.mem_singleton] at hx
      rw [hx]; exact Nat.le_refl _
    · rcases List.mem_cons.1 hx with rfl | hx
      · rw [ByteArray.size_extract]; omega
      · refine Nat.le_trans (splitB_le sep save k _ x hx) ?_
        rw [ByteArray.size_extract]; omega
theorem splitW_le (x : ByteArray) : ∀ y ∈ splitW x, y.size ≤ x.size := fun y hy => Nat.le_trans (splitB_le _ _ _ _ y hy) (bodyB_size x)
theorem wordS_le (m : Nat) (ws : List ByteArray) (wr : Bool) (h : ∀ y ∈ ws, y.size ≤ m) : (wordS ws wr).1.size ≤ m ∧ ∀ y ∈ (wordS ws wr).2.1, y.size ≤ m := by
  cases ws with
  | nil => exact ⟨Nat.zero_le _, fun y hy => by cases hy⟩
  | cons x r =>
    unfold wordS
    simp only
    split
    · exact ⟨Nat.zero_le _, fun y hy => by cases hy⟩
    · exact ⟨h x (by simp), fun y hy => h y (by simp [hy])⟩
theorem lineS_name (x : ByteArray) : (lineS x).1.name.size ≤ x.size := by
  have h0 := wordS_le x.size (splitW x) false (splitW_le x)
  exact (wordS_le x.size _ _ h0.2).1
theorem linesF_mem : ∀ (f : Nat) (r : ByteArray), ∀ x ∈ linesF f r, x.size ≤ r.size
  | 0, r, x, hx => by simp [linesF] at hx
  | f + 1, r, x, hx => by
    unfold linesF at hx
    split at hx
    · simp at hx
    · split at hx
      · rcases List.mem_cons.1 hx with rfl | hx
        · rw [ByteArray.size_extract]; omega
        · refine Nat.le_trans (linesF_mem f _ x hx) ?_
          rw [ByteArray.size_extract]; omega
      · simp only [List.mem_singleton] at hx
        rw [hx]; exact Nat.le_refl _
theorem linesF_len : ∀ (f : Nat) (r : ByteArray), (linesF f r).length ≤ f
  | 0, r => by simp [linesF]
  | f + 1, r => by
    unfold linesF
    split
    · simp
    · split
      · have := linesF_len f (r.extract (Lib.indexByte r.data.toList 10 + 1).toNat r.size)
        simp only [List.length_cons]; omega
      · simp
/-- the lines up to the first that is wrong -/
def parseL : List ByteArray → List Nd × Bool
  | [] => ([], false)
  | x :: r => if (lineS x).2 then ([], true) else ((lineS x).1 :: (parseL r).1, (parseL r).2)
def parseV (s : ByteArray) : List Nd × Int × Int :=
  if 4096 < s.size then ([], 0, 26) else
  if (parseL (linesB s)).2 then ([], (parseL (linesB s)).1.length, 25) else
  if checkNodesV (parseL (linesB s)).1 ≠ 0 then ([], (parseL (linesB s)).1.length, checkNodesV (parseL (linesB s)).1) else ((parseL (linesB s)).1, 0, 0)
def goodP (pre : List ByteArray) : Prop := ∀ x ∈ pre, (lineS x).2 = false
def nodesL (pre : List ByteArray) : List Nd := pre.map fun x => (lineS x).1
theorem nodesL_snoc (pre : List ByteArray) (x : ByteArray) : nodesL (pre ++ [x]) = nodesL pre ++ [(lineS x).1] := by simp [nodesL]
theorem parseL_good : ∀ {pre : List ByteArray}, goodP pre → parseL pre = (nodesL pre, false)
  | [], _ => rfl
  | x :: r, h => by
    have h1 := h x (by simp)
    have h2 := parseL_good (pre := r) (fun y hy => h y (by simp [hy]))
    rw [parseL, if_neg (by rw [h1]; simp), h2]
    rfl
theorem parseL_bad : ∀ {pre : List ByteArray} {x : ByteArray} {r : List ByteArray}, goodP pre → (lineS x).2 = true → parseL (pre ++ x :: r) = (nodesL pre, true)
  | [], x, r, _, hx => by
    show parseL (x :: r) = _
    rw [parseL, if_pos hx]
    rfl
  | y :: p, x, r, h, hx => by
    have h1 := h y (by simp)
    have h2 := parseL_bad (pre := p) (r := r) (fun z hz => h z (by simp [hz])) hx
    show parseL (y :: (p ++ x :: r)) = _
    rw [parseL, if_neg (by rw [h1]; simp), h2]
    rfl
end Go.Proofs.YtlogjgmfkjjhjaaGreatDoor
