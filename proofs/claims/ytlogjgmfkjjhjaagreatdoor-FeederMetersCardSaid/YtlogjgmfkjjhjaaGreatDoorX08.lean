/-
  feeder.checkEnds: the first error of intervals. At most 2^20 intervals.
  As the plan of a region that draws its order, where two operations that turn the world may come up in either order: a tree of plans.
  '==' between arrays of two ints of this program, as a plain Bool. No condition.
-/
import Derived.Test.YtlogjgmfkjjhjaaGreatDoorX07
import Derived.Test.YtlogjgmfkjjhjaaGreatDoorX02
import Derived.Test.YtlogjgmfkjjhjaaGreatDoorX01
import Derived.Laws.StructEq
import Derived.ChangeKeysEq
set_option linter.unusedSimpArgs false
set_option linter.unusedVariables false
namespace Go.Proofs.YtlogjgmfkjjhjaaGreatDoor
open Go.RowKit

theorem infoI : (Tryz.prog.info? 26).map (fun i => (i.zero, i.size, i.bytes)) = some (some (.int .i64 0), 1, 8) := by kernel_rfl
set_option maxHeartbeats 2000000 in
theorem mappedIE {lb : Array Value} (f : Int × Int → Int) (g : Nat) (eg : ∀ args w, (callFunc g args).run Tryz.prog w = .ok (.enter g args) w) (xs : List (Int × Int)) (v : Value) (w : World)
    (hs : SlAt encG 2 w v xs) (hn : xs.length ≤ 1048576) (hp : FnB g lb (fun x : Int × Int => .agg (encG x).toArray) (Value.int .i64) f xs w) :
    Calls Tryz.prog 141 #[v, .func (.func g) #[] lb] w (RetSl encI 1 26 (xs.map f) w) := by
  obtain ⟨A, c, rfl, hc, hm, hr⟩ := hs
  have hlen : xs.length ≤ 9223372036854775807 := by omega
  go_enter Tryz.func141, Tryz.ntmps141
  go_wp2
  go_loopw [10, 5] (fun i o wr => ∃ k : Nat, k ≤ xs.length ∧ i = .int .i64 k ∧ Below w.heap.size w wr ∧ Own encI 1 w.heap.size 26 wr o ((xs.take k).map f) ∧ Hid ((xs.take k).map f = [] → o = .slice none 0 0)) (fun i _ _ => xs.length - (intOf i).toNat)
  case atStart => exact ⟨0, Nat.zero_le _, rfl, Below.refl _ _, Own.nil _, fun _ => rfl⟩
  case round =>
    obtain ⟨k, hk, rfl, hb, ho, hnil⟩ := hrel
    by_cases hlt : k < xs.length
    · obtain ⟨b, off, rfl, hbl, hcell⟩ := hr (by omega)
      have hx : xs[k]? = some xs[k] := List.getElem?_eq_getElem hlt
      have hcall := fun W hW => hp W xs[k] (List.getElem_mem hlt) hW
      have hts := map_take_succ f xs k hlt
      generalize xs[k] = x at hx hcall hts
      have c0 := ext_cell hb (hcell k x hx 0 _ rfl)
      have c1 := ext_cell hb (hcell k x hx 1 _ rfl)
      rw [Nat.add_zero] at c0
      have hlt2 : ((xs.take k).map f).length = k := by simp; omega
      have HTS := Lib.hid hts
      have HL := Lib.hid hlt2
      clear hcell hr hp hx hts hlt2
      generalize (xs.take k).map f = ys at ho hnil HTS HL
      generalize f x = y at hcall HTS
      unfold encG at hcall
      have hsz := hb.size
      go_wp2_with (first
        | (go_at_fn g; refine (hcall _ (hb.alloc hsz _)).mono ?_; rintro e w1 ⟨rfl, hb1⟩; have hbw := ext_trans (hb.alloc hsz _) hb1; have ho1 := (ho.alloc (.cells #[.int .i64 x.1, .int .i64 x.2] 105)).ext hb1)
        | (at_builtin; refine own_append (w0 := w) rfl _ _ 224 (.int .i64 0) 8 rfl Tryz.underlying224 infoI rfl (by decide) (by decide) encI_len _ ys y _ rfl rfl rfl (by simp [encI, Value.oneCell']) ho1 hbw hbw.size (by have := HL.out; omega) ?_; intro v1 w2 hown hbv hgv hnn))
      go_roundw
      case rel => exact ⟨k + 1, by omega, by go_num, hbv, by rw [HTS.out]; exact hown, fun h => by rw [HTS.out] at h; simp at h⟩
      case measure => simp [intOf]; omega
    · obtain rfl : k = xs.length := by omega
      rw [List.take_of_length_le (Nat.le_refl _)] at ho hnil
      go_wp2
      go_ret
      exact ⟨_, rfl, ho, hb, hnil.out⟩

def endErr (x : Int × Int) : Int := firstV [withinV x.1 (-1000000000) 1000000000, withinV x.2 (-1000000000) 1000000000, whenV (decide (x.2 < x.1)) 11]
set_option maxHeartbeats 2000000 in
theorem checkEnds1_any (x : Int × Int) (w : World) : Calls Tryz.prog 142 #[.agg (encG x).toArray] w fun e w' => e = .returned (.int .i64 (endErr x)) ∧ Below w.heap.size w w' := by
  unfold encG
  have hV : endErr x = firstV [withinV x.1 (-1000000000) 1000000000, withinV x.2 (-1000000000) 1000000000, whenV (decide (x.2 < x.1)) 11] := rfl
  have HV := Lib.hid hV
  clear hV
  go_enter Tryz.func142, Tryz.ntmps142
  go_wp2
  generalize hW : World.alloc w _ = W
  have hbW : Below w.heap.size w W := by rw [← hW]; exact ext_alloc _ _
  have cW0 : W.cell? ⟨w.heap.size, 0, none⟩ = some (.int .i64 x.1) := by rw [← hW]; simp [World.cell?_alloc_new]
  have cW1 : W.cell? ⟨w.heap.size, 1, none⟩ = some (.int .i64 x.2) := by rw [← hW]; simp [World.cell?_alloc_new]
  clear hW
  have dB0 : Below W.heap.size W W := Below.refl _ _
  cases hq : decide (x.2 < x.1)
  · skip
    refine wp_region_plan (fun w' => w'.cell? ⟨w.heap.size, 0, none⟩ = some (.int .i64 x.1) ∧ w'.cell? ⟨w.heap.size, 1, none⟩ = some (.int .i64 x.2) ∧ Below W.heap.size W w') [2, 5, 11, 12, 13] [0, 1, 3, 4, 6, 7, 8, 9, 10, 2, 5, 11, 12, 13, 14] (by kernel_rfl) (by kernel_rfl) (by ((first | assumption | exact keep2 (by assumption) (by assumption) | exact keep2 (by assumption) (ext_alloc _ _) | exact keep2 (by assumption) (ext_drew _) | exact keep2 ⟨by assumption, by assumption, by assumption⟩ (ext_drew _) | go_keep))) (fun hSw => ?_)
    repeat (first
      | (refine wpPlan_pas rfl rfl (fun K hK => ?_)
         apply Exists.intro
         refine ⟨?_, ?_⟩
         · first | exact pasOk_no rfl | (apply pasOk_yes rfl; intro wS hS; obtain ⟨s0, s1, s2⟩ := hS; go_simp; first | done | exact rfl | ((try simp only [↓IntWalk.iteOmega]); (try go_bits); (try go_simp); first | done | exact rfl))
         go_simp
         refine hK _ ?_
         clear hK K)
      | (refine wpPlan_no rfl rfl rfl (by assumption) (fun K hK => ?_)
         go_simp
         refine hK _ ?_
         clear hK K)
      | (refine wpPlan_act rfl rfl rfl (fun K hK => ?_)
         go_wp2_with (first | (go_at_call 88; refine (within_any _ _ _ _).mono ?_; rintro e w1 ⟨rfl, rfl⟩) | (go_at_call 82; refine (when_any _ _ _).mono ?_; rintro e w1 ⟨rfl, rfl⟩) | (go_at_call 81; refine (first_any [_, _, _] _ _ (SlAt.drew (slat_new encI_len (by simp) rfl (by simp)))).mono ?_; rintro e w1 ⟨rfl, rfl⟩))
         refine OnlyK.go (hK _ _ (by ((first | assumption | exact keep2 (by assumption) (by assumption) | exact keep2 (by assumption) (ext_alloc _ _) | exact keep2 (by assumption) (ext_drew _) | exact keep2 ⟨by assumption, by assumption, by assumption⟩ (ext_drew _) | go_keep))) (fun hSw => ?_))
         clear hK K))
    refine wpPlan_nil ?_
    go_wp2
    go_ret
    exact ⟨by rw [HV.out, hq]; rfl, ext_trans hbW (held2 hSw)⟩
  · skip
    refine wp_region_plan (fun w' => w'.cell? ⟨w.heap.size, 0, none⟩ = some (.int .i64 x.1) ∧ w'.cell? ⟨w.heap.size, 1, none⟩ = some (.int .i64 x.2) ∧ Below W.heap.size W w') [2, 5, 11, 12, 13] [0, 1, 3, 4, 6, 7, 8, 9, 10, 2, 5, 11, 12, 13, 14] (by kernel_rfl) (by kernel_rfl) (by ((first | assumption | exact keep2 (by assumption) (by assumption) | exact keep2 (by assumption) (ext_alloc _ _) | exact keep2 (by assumption) (ext_drew _) | exact keep2 ⟨by assumption, by assumption, by assumption⟩ (ext_drew _) | go_keep))) (fun hSw => ?_)
    repeat (first
      | (refine wpPlan_pas rfl rfl (fun K hK => ?_)
         apply Exists.intro
         refine ⟨?_, ?_⟩
         · first | exact pasOk_no rfl | (apply pasOk_yes rfl; intro wS hS; obtain ⟨s0, s1, s2⟩ := hS; go_simp; first | done | exact rfl | ((try simp only [↓IntWalk.iteOmega]); (try go_bits); (try go_simp); first | done | exact rfl))
         go_simp
         refine hK _ ?_
         clear hK K)
      | (refine wpPlan_no rfl rfl rfl (by assumption) (fun K hK => ?_)
         go_simp
         refine hK _ ?_
         clear hK K)
      | (refine wpPlan_act rfl rfl rfl (fun K hK => ?_)
         go_wp2_with (first | (go_at_call 88; refine (within_any _ _ _ _).mono ?_; rintro e w1 ⟨rfl, rfl⟩) | (go_at_call 82; refine (when_any _ _ _).mono ?_; rintro e w1 ⟨rfl, rfl⟩) | (go_at_call 81; refine (first_any [_, _, _] _ _ (SlAt.drew (slat_new encI_len (by simp) rfl (by simp)))).mono ?_; rintro e w1 ⟨rfl, rfl⟩))
         refine OnlyK.go (hK _ _ (by ((first | assumption | exact keep2 (by assumption) (by assumption) | exact keep2 (by assumption) (ext_alloc _ _) | exact keep2 (by assumption) (ext_drew _) | exact keep2 ⟨by assumption, by assumption, by assumption⟩ (ext_drew _) | go_keep))) (fun hSw => ?_))
         clear hK K))
    refine wpPlan_nil ?_
    go_wp2
    go_ret
    exact ⟨by rw [HV.out, hq]; rfl, ext_trans hbW (held2 hSw)⟩

def endsErr (l : List Nd) (ends : List (Int × Int)) : Int := if ends.length ≠ l.length then 2 else firstV (ends.map endErr)
set_option maxHeartbeats 2000000 in
theorem checkEnds_any (v ve : Value) (l : List Nd) (ends : List (Int × Int)) (w : World) (hs : SlAt encN 7 w v l) (he : SlAt encG 2 w ve ends) (hn : ends.length ≤ 1048576) :
    Calls Tryz.prog 84 #[v, ve] w fun e w' => e = .returned (.int .i64 (endsErr l ends)) ∧ Below w.heap.size w w' := by
  have hm := mappedIE endErr _ (enters_of Tryz.func142 (by kernel_rfl) rfl) ends ve w he hn (lb := #[]) (fun W x _ _ => checkEnds1_any x W)
  obtain ⟨A, c, rfl, hc1, hc2, hr⟩ := hs
  clear hr
  obtain ⟨A', c', rfl, hc1', hc2', hr⟩ := he
  clear hr
  have hl1 : ends.length ≤ 9223372036854775807 := by omega
  have hl2 : l.length ≤ 9223372036854775807 := by omega
  by_cases hq : ends.length = l.length
  · have hd : ((ends.length : Int) != (l.length : Int)) = false := by simp [hq]
    have hV : endsErr l ends = firstV (ends.map endErr) := by rw [endsErr, if_neg (by simpa using hq)]
    rw [hV]
    clear hV hq
    go_enter Tryz.func84, Tryz.ntmps84
    go_wp2_with (first
      | (go_at_call 141; refine hm.mono ?_; rintro e w1 ⟨v1, rfl, ho1, hb1, hn1⟩)
      | (go_at_call 81; refine (first_any _ _ _ (ho1.slat encI_len)).mono ?_; rintro e w1 ⟨rfl, rfl⟩))
    go_ret
    exact ⟨rfl, hb1⟩
  · have hd : ((ends.length : Int) != (l.length : Int)) = true := by simp; omega
    have hV : endsErr l ends = 2 := by rw [endsErr, if_pos hq]
    rw [hV]
    clear hV hq
    go_enter Tryz.func84, Tryz.ntmps84
    go_wp2
    go_ret
    exact ⟨rfl, Below.refl _ _⟩
end Go.Proofs.YtlogjgmfkjjhjaaGreatDoor
namespace Go.Proofs.YtlogjgmfkjjhjaaGreatDoor
open Go.RowKit

inductive PT where
  | nil
  | one (i : Nat) (r : PT)
  | two (i j : Nat) (ri rj : PT)
def PT.len : PT → Nat
  | .nil => 0
  | .one _ r => r.len + 1
  | .two _ _ ri _ => ri.len + 1

section
variable {P : Program} {ops : Array Oper} {Q : Exit → Act → World → Prop} {S : World → Prop} {md : Region.Mode} {ac : List Nat}
def wpT (P : Program) (ops : Array Oper) (Q : Exit → Act → World → Prop) (S : World → Prop) (ac : List Nat) : PT → Act → World → Prop
  | .nil, a, w => Q .normal a w
  | .one i r, a, w => match ops[i]? with
    | none => False
    | some o => if ac.contains i = true then wpOp P ops (NoPanic Q) i (fun a' w' => S w' ∧ wpT P ops Q S ac r a' w') a w else ∃ v, pasOk P ops S o a v ∧ wpT P ops Q S ac r (a.put o.dst v) w
  | .two i j ri rj, a, w => wpOp P ops (NoPanic Q) i (fun a' w' => S w' ∧ wpT P ops Q S ac ri a' w') a w ∧ wpOp P ops (NoPanic Q) j (fun a' w' => S w' ∧ wpT P ops Q S ac rj a' w') a w
def ptB (md : Region.Mode) (ops : Array Oper) (ac : List Nat) : PT → Array Bool → Bool
  | .nil, listed => (Region.ready md ops listed).isEmpty
  | .one i r, listed => (if ac.contains i = true then Region.ready md ops listed == [i] else (Region.ready md ops listed).contains i && Region.free md ops listed i) && ptB md ops ac r (listed.setIfInBounds i true)
  | .two i j ri rj, listed => (Region.ready md ops listed == [i, j]) && (ri.len == rj.len) && ptB md ops ac ri (listed.setIfInBounds i true) && ptB md ops ac rj (listed.setIfInBounds j true)

theorem pt_sound (hs : Region.noSelect ops = true) : ∀ (r : PT) (listed : Array Bool) (a : Act) (w : World), ptB md ops ac r listed = true → S w → wpT P ops Q S ac r a w → wpAnyH P md ops (NoPanic Q) S r.len listed a w
  | .nil, listed, a, w, hB, hS, h => wpAnyH_done (by simpa [ptB] using hB) (NoPanic.normal h) _
  | .one i r, listed, a, w, hB, hS, h => by
    simp only [ptB, Bool.and_eq_true] at hB
    obtain ⟨hB1, hB2⟩ := hB
    unfold wpT at h
    split at h
    · exact h.elim
    · rename_i o ho
      by_cases ha : ac.contains i = true
      · rw [if_pos ha] at h hB1
        have hr : Region.ready md ops listed = [i] := by simpa using hB1
        refine wpAnyH_all hr (by simp) fun j hj => ?_
        obtain rfl : j = i := by simpa using hj
        exact wpOp_mono (fun a' w' hh => ⟨hh.1, pt_sound hs r _ a' w' hB2 hh.1 hh.2⟩) h
      · rw [if_neg ha] at h hB1
        simp only [Bool.and_eq_true] at hB1
        obtain ⟨v, hv, hh⟩ := h
        exact wpAnyH_take ho hs hB1.2 hB1.1 (fun _ _ _ hp => hp) hv.yields hS (pt_sound hs r _ _ w hB2 hS hh)
  | .two i j ri rj, listed, a, w, hB, hS, h => by
    simp only [ptB, Bool.and_eq_true, beq_iff_eq] at hB
    obtain ⟨⟨⟨hB1, hB2⟩, hB3⟩, hB4⟩ := hB
    unfold wpT at h
    refine wpAnyH_all hB1 (by simp) fun k hk => ?_
    have : k = i ∨ k = j := by simpa using hk
    by_cases e : k = i
    · subst e
      exact wpOp_mono (fun a' w' hh => ⟨hh.1, pt_sound hs ri _ a' w' hB3 hh.1 hh.2⟩) h.1
    · obtain rfl : k = j := by rcases this with h1 | h1; exact absurd h1 e; exact h1
      refine wpOp_mono (fun a' w' hh => ⟨hh.1, ?_⟩) h.2
      show wpAnyH P md ops (NoPanic Q) S ri.len _ a' w'
      rw [hB2]
      exact pt_sound hs rj _ a' w' hB4 hh.1 hh.2

theorem wp_region_tree {id : Nat} {a : Act} {w : World} (S : World → Prop) (ac : List Nat) (plan : PT) {l : List Oper} (hm : P.follows .mixedOrders = true)
    (hB : (Region.noSelect l.toArray && (plan.len == l.toArray.size) && ptB .any l.toArray ac plan (Array.replicate l.toArray.size false)) = true) (hS : S w.drew)
    (h : S w.drew → wpT P l.toArray Q S ac plan a w.drew) : (Code.region id l.toArray true).wp P Q a w := by
  simp only [Bool.and_eq_true, beq_iff_eq] at hB
  refine wp_region_noPanic (wp_region_held (S := S) hm ?_)
  have := pt_sound (md := .any) hB.1.1 plan _ a w.drew hB.2 hS (h hS)
  rw [hB.1.2] at this
  exact this

theorem wpT_nil {a : Act} {w : World} (h : Q .normal a w) : wpT P ops Q S ac .nil a w := h
theorem wpT_pas {i : Nat} {r : PT} {o : Oper} {a : Act} {w : World} {l : List Oper} (ho' : opAt l i = some o) (ha : ac.contains i = false) (h : ∀ K : Act → Prop, (∀ a, wpT P l.toArray Q S ac r a w → K a) → ∃ v, pasOk P l.toArray S o a v ∧ K (a.put o.dst v)) : wpT P l.toArray Q S ac (.one i r) a w := by
  have ho : l.toArray[i]? = some o := by rw [← ho', ← opAt_get]; simp
  unfold wpT
  rw [ho]
  simp only
  rw [if_neg (by rw [ha]; simp)]
  exact h _ (fun _ h => h)
theorem wpOp_act {i : Nat} {R : Act → World → Prop} {d : Option Tmp} {op : Op} {ty : TypeId} {ps : String} {af : Array Edge} {g : Option (Nat × Bool)} {a : Act} {w : World} {l : List Oper} (ho' : opAt l i = some ⟨d, op, ty, ps, af, g⟩)
    (hw : Region.wanted ⟨d, op, ty, ps, af, g⟩ (yielded l.toArray a.tmps) = true)
    (h : ∀ K : Act → World → Prop, (∀ a w, S w → (S w → R a w) → K a w) → wpList P #[] (OnlyK K) [⟨d, op, ty, ps, af, none⟩] a w) : wpOp P l.toArray (NoPanic Q) i (fun a' w' => S w' ∧ R a' w') a w := by
  have h := h (fun a w => S w ∧ R a w) (fun a w hS hh => ⟨hS, hh hS⟩)
  have ho : l.toArray[i]? = some ⟨d, op, ty, ps, af, g⟩ := by rw [← ho', ← opAt_get]; simp
  unfold wpOp
  rw [ho]
  simp only
  rw [if_pos hw]
  have hq : ∀ e a w, OnlyK (fun a w => S w ∧ R a w) e a w → e ≠ .normal → NoPanic Q e a w := fun e a w hp hne => by
    cases e with
    | normal => exact absurd rfl hne
    | _ => exact hp.elim
  unfold wpList at h
  rw [if_pos (by simp [Region.wanted])] at h
  rcases h with h | ⟨h1, h2⟩
  · refine .inl (wp_imp hq (Oper.wp_mono (fun a' w' hh => hh) (?_ : Oper.wp P ⟨d, op, ty, ps, af, g⟩ a w (wpList P #[] (OnlyK fun a w => S w ∧ R a w) []) _)))
    exact h
  · obtain ⟨a, w, hh⟩ := h2
    exact hh.elim
theorem wpT_act {i : Nat} {r : PT} {d : Option Tmp} {op : Op} {ty : TypeId} {ps : String} {af : Array Edge} {g : Option (Nat × Bool)} {a : Act} {w : World} {l : List Oper} (ho' : opAt l i = some ⟨d, op, ty, ps, af, g⟩) (ha : ac.contains i = true) (hw : Region.wanted ⟨d, op, ty, ps, af, g⟩ (yielded l.toArray a.tmps) = true)
    (h : ∀ K : Act → World → Prop, (∀ a w, S w → (S w → wpT P l.toArray Q S ac r a w) → K a w) → wpList P #[] (OnlyK K) [⟨d, op, ty, ps, af, none⟩] a w) : wpT P l.toArray Q S ac (.one i r) a w := by
  have h2 := wpOp_act (Q := Q) (S := S) ho' hw h
  have ho : l.toArray[i]? = some ⟨d, op, ty, ps, af, g⟩ := by rw [← ho', ← opAt_get]; simp
  unfold wpT
  rw [ho]
  simp only
  rw [if_pos ha]
  exact h2
theorem wpT_two {i j : Nat} {ri rj : PT} {di dj : Option Tmp} {opi opj : Op} {tyi tyj : TypeId} {psi psj : String} {afi afj : Array Edge} {gi gj : Option (Nat × Bool)} {a : Act} {w : World} {l : List Oper} (hoi : opAt l i = some ⟨di, opi, tyi, psi, afi, gi⟩) (hoj : opAt l j = some ⟨dj, opj, tyj, psj, afj, gj⟩)
    (hwi : Region.wanted ⟨di, opi, tyi, psi, afi, gi⟩ (yielded l.toArray a.tmps) = true) (hwj : Region.wanted ⟨dj, opj, tyj, psj, afj, gj⟩ (yielded l.toArray a.tmps) = true)
    (hi : ∀ K : Act → World → Prop, (∀ a w, S w → (S w → wpT P l.toArray Q S ac ri a w) → K a w) → wpList P #[] (OnlyK K) [⟨di, opi, tyi, psi, afi, none⟩] a w)
    (hj : ∀ K : Act → World → Prop, (∀ a w, S w → (S w → wpT P l.toArray Q S ac rj a w) → K a w) → wpList P #[] (OnlyK K) [⟨dj, opj, tyj, psj, afj, none⟩] a w) : wpT P l.toArray Q S ac (.two i j ri rj) a w :=
  ⟨wpOp_act hoi hwi hi, wpOp_act hoj hwj hj⟩
end
end Go.Proofs.YtlogjgmfkjjhjaaGreatDoor
namespace Go.Proofs.YtlogjgmfkjjhjaaGreatDoor
open Go.RowKit

theorem eqPair (a b c d : Int) (w : World) : (Op.equalIn 10000 229 (.agg #[.int .i64 a, .int .i64 b]) (.agg #[.int .i64 c, .int .i64 d])).run Tryz.prog w = .ok (a == c && b == d) w := by
  have u3 := Tryz.underlying3
  have a3 := Tryz.isAgg3
  have z3 := Tryz.sizeOf3
  obtain ⟨i, hi⟩ : ∃ i, Tryz.prog.info? 3 = some i := by
    have : (Tryz.prog.info? 3).isSome = true := by kernel_rfl
    exact Option.isSome_iff_exists.1 this
  rw [show (10000 : Nat) = 9999 + 1 from rfl, run_equalIn_array w 9999 #[.int .i64 a, .int .i64 b] #[.int .i64 c, .int .i64 d] Tryz.underlying229 hi]
  have hc : Tryz.prog.cellsOf 3 = 1 := by kernel_rfl
  rw [hc]
  have hl : List.range 2 = [0, 1] := rfl
  rw [hl]
  simp only [Op.eqItems]
  go_simp
  by_cases h1 : a = c <;> by_cases h2 : b = d <;> simp [h1, h2]
end Go.Proofs.YtlogjgmfkjjhjaaGreatDoor
