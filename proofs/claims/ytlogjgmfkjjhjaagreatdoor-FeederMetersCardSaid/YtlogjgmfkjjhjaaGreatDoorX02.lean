/-
  The contract of channel.IsName: a string is a name by its bytes. No condition beyond the length that every string has.
  One order serves all orders of a region that draws its order: the operations that only read are taken as soon as they may, the others come up one behind the other. What holds of every world on the way is a condition of the user's choice. No condition on the program beyond a check that the kernel runs.
  '==' and '!=' between structs of this program, as plain Bools. No condition.
-/
import Derived.Test.YtlogjgmfkjjhjaaGreatDoorX01
import Derived.Deep.RegionHeld3
import Derived.Laws.StructEq
set_option linter.unusedSimpArgs false
set_option linter.unusedVariables false
namespace Go.Proofs.YtlogjgmfkjjhjaaGreatDoor
open Go.RowKit

def goodC (first : Bool) (c : Nat) : Bool := (97 ≤ c && c ≤ 122) || (65 ≤ c && c ≤ 90) || (!first && (c == 95 || (48 ≤ c && c ≤ 57)))
def goodL : Bool → List UInt8 → Bool
  | _, [] => true
  | f, c :: r => goodC f c.toNat && goodL false r
def isNameB (s : ByteArray) : Bool := goodL true s.data.toList && (s.size != 0) && decide (s.size ≤ 24)

theorem goodL_drop (l : List UInt8) : ∀ (k : Nat) (f : Bool), k ≤ l.length → (∀ j (h : j < l.length), j < k → goodC (f && j == 0) (l[j].toNat) = true) → goodL f l = goodL (f && k == 0) (l.drop k)
  | 0, f, _, _ => by simp
  | k + 1, f, hk, h => by
    cases l with
    | nil => simp at hk
    | cons c r =>
      have h0 := h 0 (by simp) (by omega)
      simp only [List.getElem_cons_zero, beq_self_eq_true, Bool.and_true] at h0
      rw [goodL, h0, Bool.true_and, List.drop_succ_cons, goodL_drop r k false (by simp at hk; omega) (fun j hj hjk => by
        have := h (j + 1) (by simp; omega) (by omega)
        simpa using this)]
      simp
theorem size_list (s : ByteArray) : s.data.toList.length = s.size := by rw [Array.length_toList]; rfl

theorem getList (s : ByteArray) (k : Nat) (h : k < s.size) : s.data.toList[k]'(by rw [size_list]; exact h) = s[k] := rfl

theorem isName_bad (s : ByteArray) (pos : Nat) (hp : pos < s.size) (hg : ∀ j (h : j < s.data.toList.length), j < pos → goodC (j == 0) (s.data.toList[j].toNat) = true) (hb : goodC (pos == 0) s[pos].toNat = false) : isNameB s = false := by
  unfold isNameB
  have hl := size_list s
  rw [goodL_drop s.data.toList pos true (by omega) (fun j h hj => by simpa using hg j h hj), List.drop_eq_getElem_cons (by omega), goodL]
  simp only [Bool.true_and]
  rw [show (s.data.toList[pos]'(by omega)).toNat = s[pos].toNat from rfl, hb]
  rfl
theorem isName_end (s : ByteArray) (hg : ∀ j (h : j < s.data.toList.length), j < s.size → goodC (j == 0) (s.data.toList[j].toNat) = true) : isNameB s = ((s.size != 0) && decide (s.size ≤ 24)) := by
  unfold isNameB
  have hl := size_list s
  rw [goodL_drop s.data.toList s.size true (by omega) (fun j h hj => by simpa using hg j h hj), List.drop_of_length_le (by omega)]
  simp [goodL]
theorem goodC_not (f : Bool) (n : Nat) (h1 : ¬ (97 ≤ n ∧ n ≤ 122)) (h2 : ¬ (65 ≤ n ∧ n ≤ 90)) (h3 : f = true ∨ (n ≠ 95 ∧ ¬ (48 ≤ n ∧ n ≤ 57))) : goodC f n = false := by
  unfold goodC
  rcases h3 with h3 | ⟨h3, h4⟩
  · subst h3; simp; omega
  · cases f <;> simp <;> omega
theorem goodC_yes (f : Bool) (n : Nat) (h : (97 ≤ n ∧ n ≤ 122) ∨ (65 ≤ n ∧ n ≤ 90) ∨ (f = false ∧ (n = 95 ∨ (48 ≤ n ∧ n ≤ 57)))) : goodC f n = true := by
  unfold goodC
  rcases h with h | h | ⟨rfl, h⟩
  · simp [h]
  · simp [h]
  · rcases h with h | h <;> simp [h]

set_option maxHeartbeats 2000000 in
theorem isName_any (s : ByteArray) (w : World) (hs : s.size ≤ 9223372036854775807) : Calls Tryz.prog 98 #[.string s] w fun e w' => e = .returned (.bool (isNameB s)) ∧ Below w.heap.size w w' := by
  go_enter Tryz.func98, Tryz.ntmps98
  go_wp2
  go_loopw [3] (fun _ w' => ∃ pos : Nat, w' = w.iter s pos ∧ pos ≤ s.size ∧ Hid (∀ j (h : j < s.data.toList.length), j < pos → goodC (j == 0) (s.data.toList[j].toNat) = true)) (fun _ w' => s.size - w'.iterPos w.heap.size)
  case atStart => exact ⟨0, rfl, Nat.zero_le _, fun j _ hj => absurd hj (Nat.not_lt_zero _)⟩
  case round =>
    obtain ⟨pos, rfl, hpos, hg⟩ := hrel
    by_cases hp : pos < s.size
    · obtain ⟨c, p', hnx, hp1, hgood⟩ : ∃ (c : Int) (p' : Nat), (∀ ty, (Instr.next (.pointer (some ⟨w.heap.size, 0, none⟩)) true ty).run Tryz.prog (w.iter s pos) = .ok (.tuple #[.bool true, .int .i64 pos, .int .i32 c]) (w.iter s p')) ∧ pos < p' ∧
          Hid ((c = (s[pos].toNat : Int) ∧ p' = pos + 1) ∨ (128 ≤ c ∧ 128 ≤ s[pos].toNat)) := by
        by_cases ha : s[pos].toNat < 128
        · exact ⟨_, _, fun ty => run_next_ascii w s pos ty hp ha, by omega, .inl ⟨rfl, rfl⟩⟩
        · have := decode_high s pos hp (by omega)
          exact ⟨_, _, fun ty => run_next_any w s pos ty hp, by omega, .inr ⟨by omega, by omega⟩⟩
      have hbad : (goodC (pos == 0) s[pos].toNat = false) → isNameB s = false := isName_bad s pos hp hg.out
      have HBAD := Lib.hid hbad
      clear hbad
      have hstep : (p' = pos + 1) → goodC (pos == 0) s[pos].toNat = true → Hid (∀ j (h : j < s.data.toList.length), j < p' → goodC (j == 0) (s.data.toList[j].toNat) = true) := fun e h j hj hjp => by
        by_cases ej : j = pos
        · subst ej; exact h
        · exact hg.out j hj (by omega)
      have HSTEP := Lib.hid hstep
      clear hstep hg
      by_cases hlet : (97 ≤ c ∧ c ≤ 122) ∨ (c < 97 ∧ 65 ≤ c ∧ c ≤ 90)
      · have hq := hgood.out
        have e1 : p' = pos + 1 := by omega
        have hfin := HSTEP.out e1 (goodC_yes _ _ (by omega))
        have HF := hfin
        have hps : p' ≤ s.size := by omega
        have E1 := Lib.hid e1
        clear hq e1 HBAD HSTEP hfin
        rcases hlet with ⟨g1, g2⟩ | ⟨g1, g2, g3⟩
        all_goals
          go_wp2
          go_roundw
          case rel => exact ⟨p', rfl, hps, HF⟩
          case measure => rw [World.iterPos_iter, World.iterPos_iter]; omega
      · by_cases h0 : pos = 0
        · have hz : ((pos : Int) == 0) = true := by simp [h0]
          have hq := hgood.out
          have hbad := HBAD.out (goodC_not _ _ (by omega) (by omega) (.inl (by simp [h0])))
          have H0 := Lib.hid h0
          clear h0
          have HB := Lib.hid hbad
          clear hbad hq HBAD HSTEP
          have hnl : (decide (97 ≤ c) = true ∧ decide (c ≤ 122) = false ∧ decide (65 ≤ c) = true ∧ decide (c ≤ 90) = false) ∨ (decide (97 ≤ c) = false ∧ decide (65 ≤ c) = true ∧ decide (c ≤ 90) = false) ∨ (decide (97 ≤ c) = false ∧ decide (65 ≤ c) = false) := by simp only [decide_eq_true_eq, decide_eq_false_iff_not]; omega
          clear hlet
          rcases hnl with ⟨g1, g2, g3, g4⟩ | ⟨g1, g2, g3⟩ | ⟨g1, g2⟩
          all_goals
            go_wp2
            go_ret
            exact ⟨by rw [HB.out]; rfl, by unfold World.iter; (repeat (first | exact Below.refl _ _ | assumption | refine Below.drew ?_ | refine Below.alloc ?_ (by simp <;> omega) _ | refine Below.alloc ?_ (by simp) _ | refine Below.setCell ?_ (by simp) _))⟩
        · have hz : ((pos : Int) == 0) = false := by simp; omega
          have hnl : (decide (97 ≤ c) = true ∧ decide (c ≤ 122) = false ∧ decide (65 ≤ c) = true ∧ decide (c ≤ 90) = false) ∨ (decide (97 ≤ c) = false ∧ decide (65 ≤ c) = true ∧ decide (c ≤ 90) = false) ∨ (decide (97 ≤ c) = false ∧ decide (65 ≤ c) = false) := by simp only [decide_eq_true_eq, decide_eq_false_iff_not]; omega
          have HL := Lib.hid hlet
          clear hlet
          by_cases h95 : c = 95
          · have hq := hgood.out
            have e1 : p' = pos + 1 := by omega
            have HF := HSTEP.out e1 (goodC_yes _ _ (.inr (.inr ⟨by simpa using h0, by omega⟩)))
            have hps : p' ≤ s.size := by omega
            clear hq HBAD HSTEP hgood hnl e1
            subst h95
            go_wp2
            go_roundw
            case rel => exact ⟨p', rfl, hps, HF⟩
            case measure => rw [World.iterPos_iter, World.iterPos_iter]; omega
          · have hn95 : (c != 95) = true := by simpa using h95
            by_cases hd : 48 ≤ c ∧ c ≤ 57
            · have hq := hgood.out
              have e1 : p' = pos + 1 := by omega
              have HF := HSTEP.out e1 (goodC_yes _ _ (.inr (.inr ⟨by simpa using h0, by omega⟩)))
              have hps : p' ≤ s.size := by omega
              obtain ⟨d1, d2⟩ := hd
              clear hq HBAD HSTEP hgood hnl e1
              go_wp2
              go_roundw
              case rel => exact ⟨p', rfl, hps, HF⟩
              case measure => rw [World.iterPos_iter, World.iterPos_iter]; omega
            · have hq := hgood.out
              have hlet := HL.out
              have hbad := HBAD.out (goodC_not _ _ (by omega) (by omega) (.inr (by omega)))
              have HB := Lib.hid hbad
              clear hbad hq HBAD HSTEP hlet HL
              have hdd : decide (c < 48) = true ∨ (decide (c < 48) = false ∧ decide (57 < c) = true) := by simp only [decide_eq_true_eq, decide_eq_false_iff_not]; omega
              clear hd
              rcases hdd with d1 | ⟨d1, d2⟩ <;> rcases hnl with ⟨g1, g2, g3, g4⟩ | ⟨g1, g2, g3⟩ | ⟨g1, g2⟩
              all_goals
                go_wp2
                go_ret
                exact ⟨by rw [HB.out]; rfl, by unfold World.iter; (repeat (first | exact Below.refl _ _ | assumption | refine Below.drew ?_ | refine Below.alloc ?_ (by simp <;> omega) _ | refine Below.alloc ?_ (by simp) _ | refine Below.setCell ?_ (by simp) _))⟩
    · obtain rfl : pos = s.size := by omega
      have hnx : ∀ ty, (Instr.next (.pointer (some ⟨w.heap.size, 0, none⟩)) true ty).run Tryz.prog (w.iter s s.size) = _ := fun ty => run_next_end w s s.size ty (by omega)
      have hend := isName_end s hg.out
      have HE := Lib.hid hend
      clear hend hg
      have e1 : s.toList.isEmpty = (s.size == 0) := by
        rw [ByteArray.toList_eq, ← size_list]
        cases s.data.toList <;> rfl
      have e2 : decide ((s.size : Int) ≤ 24) = decide (s.size ≤ 24) := by simp; omega
      have E1 := Lib.hid e1
      have E2 := Lib.hid e2
      clear e1 e2
      cases hne : s.toList.isEmpty
      · go_wp2
        go_ret
        refine ⟨?_, by unfold World.iter; (repeat (first | exact Below.refl _ _ | assumption | refine Below.drew ?_ | refine Below.alloc ?_ (by simp <;> omega) _ | refine Below.alloc ?_ (by simp) _ | refine Below.setCell ?_ (by simp) _))⟩
        rw [HE.out, ← E2.out]
        have := E1.out
        rw [hne] at this
        simp [bne, ← this]
      · go_wp2
        go_ret
        refine ⟨?_, by unfold World.iter; (repeat (first | exact Below.refl _ _ | assumption | refine Below.drew ?_ | refine Below.alloc ?_ (by simp <;> omega) _ | refine Below.alloc ?_ (by simp) _ | refine Below.setCell ?_ (by simp) _))⟩
        rw [HE.out]
        have := E1.out
        rw [hne] at this
        simp [bne, ← this]
end Go.Proofs.YtlogjgmfkjjhjaaGreatDoor
namespace Go.Proofs.YtlogjgmfkjjhjaaGreatDoor
open Go.RowKit

section
variable {P : Program} {ops : Array Oper} {Q : Exit → Act → World → Prop} {S : World → Prop} {md : Region.Mode} {ac : List Nat}

/-- in every world that meets S the operation leaves v and nothing else -/
def pasOk (P : Program) (ops : Array Oper) (S : World → Prop) (o : Oper) (a : Act) (v : Value) : Prop :=
  if Region.wanted o (yielded ops a.tmps) = true then ∀ w, S w → (execOp a.eval o).run P w = .ok (.value v) w else v = undef
theorem pasOk.yields {o : Oper} {a : Act} {v : Value} (h : pasOk P ops S o a v) : YieldsIf P ops S o v a := by
  unfold pasOk at h
  split at h
  · rename_i hw; exact .inl ⟨hw, h⟩
  · rename_i hw; exact .inr ⟨by simpa using hw, h⟩

def wpPlan (P : Program) (ops : Array Oper) (Q : Exit → Act → World → Prop) (S : World → Prop) (ac : List Nat) : List Nat → Act → World → Prop
  | [], a, w => Q .normal a w
  | i :: r, a, w => match ops[i]? with
    | none => False
    | some o => if ac.contains i = true then wpOp P ops (NoPanic Q) i (fun a' w' => S w' ∧ wpPlan P ops Q S ac r a' w') a w else ∃ v, pasOk P ops S o a v ∧ wpPlan P ops Q S ac r (a.put o.dst v) w

def planB (md : Region.Mode) (ops : Array Oper) (ac : List Nat) : List Nat → Array Bool → Bool
  | [], listed => (Region.ready md ops listed).isEmpty
  | i :: r, listed => (if ac.contains i = true then Region.ready md ops listed == [i] else (Region.ready md ops listed).contains i && Region.free md ops listed i) && planB md ops ac r (listed.setIfInBounds i true)

theorem plan_sound (hs : Region.noSelect ops = true) : ∀ (r : List Nat) (listed : Array Bool) (a : Act) (w : World), planB md ops ac r listed = true → S w → wpPlan P ops Q S ac r a w → wpAnyH P md ops (NoPanic Q) S r.length listed a w
  | [], listed, a, w, hB, hS, h => wpAnyH_done (by simpa [planB] using hB) (NoPanic.normal h) _
  | i :: r, listed, a, w, hB, hS, h => by
    simp only [planB, Bool.and_eq_true] at hB
    obtain ⟨hB1, hB2⟩ := hB
    unfold wpPlan at h
    split at h
    · exact h.elim
    · rename_i o ho
      by_cases ha : ac.contains i = true
      · rw [if_pos ha] at h hB1
        have hr : Region.ready md ops listed = [i] := by simpa using hB1
        refine wpAnyH_all hr (by simp) fun j hj => ?_
        obtain rfl : j = i := by simpa using hj
        exact wpOp_mono (fun a' w' hh => ⟨hh.1, plan_sound hs r _ a' w' hB2 hh.1 hh.2⟩) h
      · rw [if_neg ha] at h hB1
        simp only [Bool.and_eq_true] at hB1
        obtain ⟨v, hv, hh⟩ := h
        exact wpAnyH_take ho hs hB1.2 hB1.1 (fun _ _ _ hp => hp) hv.yields hS (plan_sound hs r _ _ w hB2 hS hh)

theorem wp_region_plan {id : Nat} {a : Act} {w : World} (S : World → Prop) (ac plan : List Nat) {l : List Oper} (hm : P.follows .mixedOrders = true)
    (hB : (Region.noSelect l.toArray && (plan.length == l.toArray.size) && planB .any l.toArray ac plan (Array.replicate l.toArray.size false)) = true) (hS : S w.drew)
    (h : S w.drew → wpPlan P l.toArray Q S ac plan a w.drew) : (Code.region id l.toArray true).wp P Q a w := by
  simp only [Bool.and_eq_true, beq_iff_eq] at hB
  refine wp_region_noPanic (wp_region_held (S := S) hm ?_)
  have := plan_sound (md := .any) hB.1.1 plan _ a w.drew hB.2 hS (h hS)
  rw [hB.1.2] at this
  exact this

def opAt : List Oper → Nat → Option Oper
  | [], _ => none
  | o :: _, 0 => some o
  | _ :: r, n + 1 => opAt r n
theorem opAt_get : ∀ (l : List Oper) (i : Nat), l[i]? = opAt l i
  | [], _ => rfl
  | _ :: _, 0 => rfl
  | _ :: r, n + 1 => by simpa [opAt] using opAt_get r n
theorem wpPlan_nil {a : Act} {w : World} (h : Q .normal a w) : wpPlan P ops Q S ac [] a w := h
theorem wpPlan_pas {i : Nat} {r : List Nat} {o : Oper} {a : Act} {w : World} {l : List Oper} (ho' : opAt l i = some o) (ha : ac.contains i = false) (h : ∀ K : Act → Prop, (∀ a, wpPlan P l.toArray Q S ac r a w → K a) → ∃ v, pasOk P l.toArray S o a v ∧ K (a.put o.dst v)) : wpPlan P l.toArray Q S ac (i :: r) a w := by
  have ho : l.toArray[i]? = some o := by rw [← ho', ← opAt_get]; simp
  unfold wpPlan
  rw [ho]
  simp only
  rw [if_neg (by rw [ha]; simp)]
  exact h _ (fun _ h => h)
theorem pasOk_yes {o : Oper} {a : Act} {v : Value} (hw : Region.wanted o (yielded ops a.tmps) = true) (h : ∀ w, S w → (execOp a.eval o).run P w = .ok (.value v) w) : pasOk P ops S o a v := by unfold pasOk; rw [if_pos hw]; exact h
theorem pasOk_no {o : Oper} {a : Act} (hw : Region.wanted o (yielded ops a.tmps) = false) : pasOk P ops S o a undef := by unfold pasOk; rw [if_neg (by rw [hw]; simp)]
/-- what is to be shown behind an operation that may turn the world -/
def OnlyK (K : Act → World → Prop) : Exit → Act → World → Prop
  | .normal, a, w => K a w
  | _, _, _ => False
theorem OnlyK.go {K : Act → World → Prop} {a : Act} {w : World} (h : K a w) : OnlyK K .normal a w := h
theorem wp_imp {o : Oper} {a : Act} {w : World} {K : Act → World → Prop} {Q1 Q2 : Exit → Act → World → Prop} (h : ∀ e a w, Q1 e a w → e ≠ .normal → Q2 e a w) (hh : o.wp P a w K Q1) : o.wp P a w K Q2 := by
  unfold Oper.wp at *
  generalize (execOp a.eval o).run P w = r at *
  have hl : LetsOut Q1 → LetsOut Q2 := fun ⟨a, w, hq⟩ => ⟨a, w, h _ _ _ hq (by simp)⟩
  cases r with
  | ok n w' =>
    cases n <;> simp only [Oper.upon] at hh ⊢ <;>
      first
        | exact hh
        | exact Calls.mono hh (fun e w'' he => by
            cases e with
            | returned v => exact he
            | panicked c => exact h _ _ _ he (by simp)
            | outgrown => exact hl he)
  | halt x w' =>
    cases x <;> simp only [Oper.upon] at hh ⊢
    case panic u => exact h _ _ _ hh (by simp)
theorem wpPlan_act {i : Nat} {r : List Nat} {d : Option Tmp} {op : Op} {ty : TypeId} {ps : String} {af : Array Edge} {g : Option (Nat × Bool)} {a : Act} {w : World} {l : List Oper} (ho' : opAt l i = some ⟨d, op, ty, ps, af, g⟩) (ha : ac.contains i = true) (hw : Region.wanted ⟨d, op, ty, ps, af, g⟩ (yielded l.toArray a.tmps) = true)
    (h : ∀ K : Act → World → Prop, (∀ a w, S w → (S w → wpPlan P l.toArray Q S ac r a w) → K a w) → wpList P #[] (OnlyK K) [⟨d, op, ty, ps, af, none⟩] a w) : wpPlan P l.toArray Q S ac (i :: r) a w := by
  have h := h (fun a w => S w ∧ wpPlan P l.toArray Q S ac r a w) (fun a w hS hh => ⟨hS, hh hS⟩)
  have ho : l.toArray[i]? = some ⟨d, op, ty, ps, af, g⟩ := by rw [← ho', ← opAt_get]; simp
  unfold wpPlan
  rw [ho]
  simp only
  rw [if_pos ha]
  unfold wpOp
  rw [ho]
  simp only
  rw [if_pos hw]
  have hq : ∀ e a w, OnlyK (fun a w => S w ∧ wpPlan P l.toArray Q S ac r a w) e a w → e ≠ .normal → NoPanic Q e a w := fun e a w hp hne => by
    cases e with
    | normal => exact absurd rfl hne
    | _ => exact hp.elim
  unfold wpList at h
  rw [if_pos (by simp [Region.wanted])] at h
  rcases h with h | ⟨h1, h2⟩
  · refine .inl (wp_imp hq (Oper.wp_mono (fun a' w' hh => hh) (?_ : Oper.wp P ⟨d, op, ty, ps, af, g⟩ a w (wpList P #[] (OnlyK fun a w => S w ∧ wpPlan P l.toArray Q S ac r a w) []) _)))
    exact h
  · obtain ⟨a, w, hh⟩ := h2
    exact hh.elim
theorem wpPlan_no {i : Nat} {r : List Nat} {o : Oper} {a : Act} {w : World} {l : List Oper} (ho' : opAt l i = some o) (ha : ac.contains i = true) (hw : Region.wanted o (yielded l.toArray a.tmps) = false) (hS : S w)
    (h : ∀ K : Act → Prop, (∀ a, wpPlan P l.toArray Q S ac r a w → K a) → K (a.put o.dst undef)) : wpPlan P l.toArray Q S ac (i :: r) a w := by
  have ho : l.toArray[i]? = some o := by rw [← ho', ← opAt_get]; simp
  unfold wpPlan
  rw [ho]
  simp only
  rw [if_pos ha]
  unfold wpOp
  rw [ho]
  simp only
  rw [if_neg (by rw [hw]; simp)]
  exact ⟨hS, h _ (fun _ h => h)⟩
end
end Go.Proofs.YtlogjgmfkjjhjaaGreatDoor
namespace Go.Proofs.YtlogjgmfkjjhjaaGreatDoor
open Go.RowKit

theorem eqGauss (a b c d : Int) (w : World) : (Op.equalIn 10000 97 (.agg #[.int .i64 a, .int .i64 b]) (.agg #[.int .i64 c, .int .i64 d])).run Tryz.prog w = .ok (a == c && b == d) w := by
  have u3 := Tryz.underlying3
  have a3 := Tryz.isAgg3
  have z3 := Tryz.sizeOf3
  have hS : Tryz.prog.underlying 97 = some (.struct (Tryz.prog.fieldsOf 97)) := by kernel_rfl
  have hp : Tryz.prog.stoodInHeld 97 = false := by kernel_rfl
  rw [show (10000 : Nat) = 9999 + 1 from rfl, run_equalIn_agg w 9999 97 _ _ hS hp]
  simp only [Program.fieldsOf, Tryz.underlying97]
  go_simp
  by_cases h1 : a = c <;> by_cases h2 : b = d <;> simp [h1, h2]
end Go.Proofs.YtlogjgmfkjjhjaaGreatDoor
