/-
  The contract of feeder.CheckNodes: the first error of nodes, or 0.
  Rows that a call owns and appends to, whatever the number of cells of an element; an append of one element in the walk's own form. No condition beyond the model's bound on bytes.
  Contracts of feeder.mapped at nodes: what a function that lays only new memory makes of each element, in a new slice. At most 2^20 elements.
-/
import Derived.Test.YtlogjgmfkjjhjaaGreatDoorX03
import Derived.Test.YtlogjgmfkjjhjaaGreatDoorX01
import Derived.Maps.AppendAt
set_option linter.unusedSimpArgs false
set_option linter.unusedVariables false
namespace Go.Proofs.YtlogjgmfkjjhjaaGreatDoor
open Go.RowKit

def checkGo : List Nd → List Nd → Int
  | _, [] => 0
  | before, n :: r => if nodeErr before n ≠ 0 then nodeErr before n else checkGo (before ++ [n]) r
def checkNodesV (l : List Nd) : Int := if l.length = 0 then 12 else if 16 < l.length then 5 else checkGo [] l
theorem checkGo_step (l : List Nd) (k : Nat) (hk : k < l.length) : checkGo (l.take k) (l.drop k) = if nodeErr (l.take k) l[k] ≠ 0 then nodeErr (l.take k) l[k] else checkGo (l.take (k + 1)) (l.drop (k + 1)) := by
  rw [List.drop_eq_getElem_cons hk, checkGo, List.take_succ_eq_append_getElem hk]

set_option maxHeartbeats 2000000 in
theorem checkNodes_any (l : List Nd) (v : Value) (w : World) (hs : SlAt encN 7 w v l) (hok : ∀ n ∈ l, n.name.size ≤ 9223372036854775807) :
    Calls Tryz.prog 21 #[v] w fun e w' => e = .returned (.int .i64 (checkNodesV l)) ∧ Below w.heap.size w w' := by
  have hs0 := hs
  obtain ⟨A, c, rfl, hc, hm, hr⟩ := hs
  have hlen : l.length ≤ 9223372036854775807 := by omega
  by_cases h0 : l.length = 0
  · have hd : ((l.length : Int) == 0) = true := by simpa using h0
    have hd2 : decide ((16 : Int) < (l.length : Int)) = false := by simp; omega
    have H0 := Lib.hid h0
    clear h0 hr
    have hf : firstV [whenV true 12, whenV false 5] = 12 := rfl
    go_enter Tryz.func21, Tryz.ntmps21
    go_wp2_with (first
      | (go_at_call 82; refine (when_any _ _ _).mono ?_; rintro e w1 ⟨rfl, rfl⟩)
      | (go_at_call 81; refine (first_any [_, _] _ _ (slat_new encI_len (by simp) rfl (by simp))).mono ?_; rintro e w1 ⟨rfl, rfl⟩))
    go_ret
    refine ⟨?_, by (repeat (first | exact Below.refl _ _ | assumption | refine Below.drew ?_ | refine Below.alloc ?_ (by simp <;> omega) _ | refine Below.alloc ?_ (by simp) _ | refine Below.setCell ?_ (by simp) _))⟩
    rw [checkNodesV, if_pos H0.out]; rfl
  · by_cases h16 : 16 < l.length
    · have hd : ((l.length : Int) == 0) = false := by simpa using h0
      have hd2 : decide ((16 : Int) < (l.length : Int)) = true := by simp; omega
      have hf : firstV [whenV false 12, whenV true 5] = 5 := rfl
      have H0 := Lib.hid h0
      have H16 := Lib.hid h16
      clear h0 h16 hr
      go_enter Tryz.func21, Tryz.ntmps21
      go_wp2_with (first
        | (go_at_call 82; refine (when_any _ _ _).mono ?_; rintro e w1 ⟨rfl, rfl⟩)
        | (go_at_call 81; refine (first_any [_, _] _ _ (slat_new encI_len (by simp) rfl (by simp))).mono ?_; rintro e w1 ⟨rfl, rfl⟩))
      go_ret
      refine ⟨?_, by (repeat (first | exact Below.refl _ _ | assumption | refine Below.drew ?_ | refine Below.alloc ?_ (by simp <;> omega) _ | refine Below.alloc ?_ (by simp) _ | refine Below.setCell ?_ (by simp) _))⟩
      rw [checkNodesV, if_neg H0.out, if_pos H16.out]; rfl
    · have hd : ((l.length : Int) == 0) = false := by simpa using h0
      have hd2 : decide ((16 : Int) < (l.length : Int)) = false := by simp; omega
      have hf : firstV [whenV false 12, whenV false 5] = 0 := rfl
      have hV : checkNodesV l = checkGo (l.take 0) (l.drop 0) := by rw [checkNodesV, if_neg h0, if_neg h16]; rfl
      have HV := Lib.hid hV
      clear h0 h16 hV
      go_enter Tryz.func21, Tryz.ntmps21
      go_wp2_with (first
        | (go_at_call 82; refine (when_any _ _ _).mono ?_; rintro e w1 ⟨rfl, rfl⟩)
        | (go_at_call 81; refine (first_any [_, _] _ _ (slat_new encI_len (by simp) rfl (by simp))).mono ?_; rintro e w1 ⟨rfl, rfl⟩))
      go_loopw [22] (fun i wr => ∃ k : Nat, k ≤ l.length ∧ i = .int .i64 k ∧ Below w.heap.size w wr ∧ Hid (checkNodesV l = checkGo (l.take k) (l.drop k))) (fun i _ => l.length - (intOf i).toNat)
      case atStart => exact ⟨0, Nat.zero_le _, rfl, by (repeat (first | exact Below.refl _ _ | assumption | refine Below.drew ?_ | refine Below.alloc ?_ (by simp <;> omega) _ | refine Below.alloc ?_ (by simp) _ | refine Below.setCell ?_ (by simp) _)), HV⟩
      case round =>
        obtain ⟨k, hk, rfl, hb, hz⟩ := hrel
        clear HV hd hd2
        by_cases hlt : k < l.length
        · have hcheck := fun W hW => check_any (l.take k) l[k] (.slice A k c) W hW (hok _ (List.getElem_mem hlt))
          have hs1 : SlAt encN 7 wr (.slice A k c) (l.take k) := (hs0.ext hb).take hk
          have hst := checkGo_step l k hlt
          rw [← hz.out] at hst
          obtain ⟨b, off, rfl, hbl, hcell⟩ := hr (by omega)
          have hx : l[k]? = some l[k] := List.getElem?_eq_getElem hlt
          generalize l[k] = x at hx hcheck hst
          obtain ⟨c0, c1, c2, c3, c4, c5, c6⟩ := nodeCells (fun i u hu => ext_cell hb (hcell k x hx i u hu))
          have HST := Lib.hid hst
          clear hst hr hcell hx hf
          go_wp2
          have hbr := hb
          generalize hW : World.alloc wr _ = W
          have hbW : Below wr.heap.size wr W := by rw [← hW]; exact ext_alloc _ _
          have cW0 : W.cell? ⟨wr.heap.size, 0, none⟩ = some (.string x.name) := by rw [← hW]; simp [World.cell?_alloc_new]
          have cW1 : W.cell? ⟨wr.heap.size, 1, none⟩ = some (.string x.parent) := by rw [← hW]; simp [World.cell?_alloc_new]
          have cW2 : W.cell? ⟨wr.heap.size, 2, none⟩ = some (.int .i64 x.re) := by rw [← hW]; simp [World.cell?_alloc_new]
          have cW3 : W.cell? ⟨wr.heap.size, 3, none⟩ = some (.int .i64 x.im) := by rw [← hW]; simp [World.cell?_alloc_new]
          have cW4 : W.cell? ⟨wr.heap.size, 4, none⟩ = some (.int .i64 x.lim) := by rw [← hW]; simp [World.cell?_alloc_new]
          have cW5 : W.cell? ⟨wr.heap.size, 5, none⟩ = some (.int .i64 x.cre) := by rw [← hW]; simp [World.cell?_alloc_new]
          have cW6 : W.cell? ⟨wr.heap.size, 6, none⟩ = some (.int .i64 x.cim) := by rw [← hW]; simp [World.cell?_alloc_new]
          clear hW
          refine wp_region_plan (fun w' => w'.cell? ⟨wr.heap.size, 0, none⟩ = some (.string x.name) ∧ w'.cell? ⟨wr.heap.size, 1, none⟩ = some (.string x.parent) ∧ w'.cell? ⟨wr.heap.size, 2, none⟩ = some (.int .i64 x.re) ∧ w'.cell? ⟨wr.heap.size, 3, none⟩ = some (.int .i64 x.im) ∧ w'.cell? ⟨wr.heap.size, 4, none⟩ = some (.int .i64 x.lim) ∧ w'.cell? ⟨wr.heap.size, 5, none⟩ = some (.int .i64 x.cre) ∧ w'.cell? ⟨wr.heap.size, 6, none⟩ = some (.int .i64 x.cim) ∧ Below wr.heap.size wr w') [4] [0, 1, 2, 3, 4, 5] (by kernel_rfl) (by kernel_rfl) (by ((first | assumption | exact keep7 (by assumption) (by assumption) | exact keep7 (by assumption) (ext_alloc _ _) | exact keep7 (by assumption) (ext_drew _) | exact keep7 ⟨by assumption, by assumption, by assumption, by assumption, by assumption, by assumption, by assumption, by assumption⟩ (ext_drew _) | go_keep))) (fun hSw => ?_)
          repeat (first
            | (refine wpPlan_pas rfl rfl (fun K hK => ?_)
               apply Exists.intro
               refine ⟨?_, ?_⟩
               · first | exact pasOk_no rfl | (apply pasOk_yes rfl; intro wS hS; obtain ⟨s0, s1, s2, s3, s4, s5, s6, s7⟩ := hS; go_simp; first | done | exact rfl | ((try simp only [↓IntWalk.iteOmega]); (try go_bits); (try go_simp); first | done | exact rfl))
               go_simp
               refine hK _ ?_
               clear hK K)
            | (refine wpPlan_no rfl rfl rfl (by assumption) (fun K hK => ?_)
               go_simp
               refine hK _ ?_
               clear hK K)
            | (refine wpPlan_act rfl rfl rfl (fun K hK => ?_)
               go_wp2_with (first | (go_at_call 83; refine (hcheck _ (hs1.ext (held7 (by assumption)))).mono ?_; rintro e w1 ⟨rfl, hb1⟩))
               refine OnlyK.go (hK _ _ (by ((first | assumption | exact keep7 (by assumption) (by assumption) | exact keep7 (by assumption) (ext_alloc _ _) | exact keep7 (by assumption) (ext_drew _) | exact keep7 ⟨by assumption, by assumption, by assumption, by assumption, by assumption, by assumption, by assumption, by assumption⟩ (ext_drew _) | go_keep))) (fun hSw => ?_))
               clear hK K))
          refine wpPlan_nil ?_
          have dB := held7 hSw
          generalize nodeErr (l.take k) x = e1 at HST ⊢
          clear hSw hcheck hs0 hs1
          cases hq : (e1 != 0)
          · have hst : checkNodesV l = checkGo (l.take (k + 1)) (l.drop (k + 1)) := by rw [HST.out, if_neg (by simpa using hq)]
            have HS2 := Lib.hid hst
            clear hst
            go_wp2
            go_roundw
            case rel => exact ⟨k + 1, by omega, by go_num, ext_trans hbr dB, HS2⟩
            case measure => simp [intOf]; omega
          · have hst : checkNodesV l = e1 := by rw [HST.out, if_pos (by simpa using hq)]
            have HS2 := Lib.hid hst
            clear hst
            go_wp2
            go_ret
            exact ⟨by rw [HS2.out]; rfl, ext_trans hbr dB⟩
        · have hst : checkNodesV l = 0 := by rw [hz.out, List.drop_of_length_le (by omega)]; rfl
          have HS2 := Lib.hid hst
          clear hst
          go_wp2
          go_ret
          exact ⟨by rw [HS2.out]; rfl, hb⟩
end Go.Proofs.YtlogjgmfkjjhjaaGreatDoor
namespace Go.Proofs.YtlogjgmfkjjhjaaGreatDoor
open Go.RowKit

/-- the call's own row: v holds xs in a block from base on -/
def Own {α : Type} (E : α → List Value) (k base : Nat) (e : TypeId) (w : World) (v : Value) (xs : List α) : Prop := w.ownsRow base e k v xs.length (xs.flatMap E)

section
variable {α : Type} {E : α → List Value} {k base : Nat} {e : TypeId} {w w1 : World} {v : Value} {xs : List α}
theorem Own.nil (w : World) : Own E k base e w (.slice none 0 0) [] := ⟨by simp, .inl ⟨rfl, rfl⟩⟩
theorem Own.ext (h : Own E k base e w v xs) (hb : Below w.heap.size w w1) : Own E k base e w1 v xs :=
  World.ownsRow.kept h (row := none) ⟨hb.os, hb.tape, hb.output, hb.size, fun i hi _ => hb.block i hi⟩ (by cases v.ownBlock <;> simp)
theorem Own.alloc (h : Own E k base e w v xs) (o : Obj) : Own E k base e (w.alloc o) v xs := h.ext (ext_alloc w o)
theorem Own.drew (h : Own E k base e w v xs) : Own E k base e w.drew v xs := h
theorem Own.slat (hE : ∀ x, (E x).length = k) (h : Own E k base e w v xs) : SlAt E k w v xs := by
  rcases h.2 with ⟨rfl, h0⟩ | ⟨g, cap, cur, rfl, hb, hh, hc, hm, hz, ht⟩
  · have : xs = [] := List.eq_nil_of_length_eq_zero h0
    subst this
    exact SlAt.nil w
  · refine slat_blk hE hh (fun i u hu => ?_) hc (by unfold maxLen at hm; omega)
    rw [← ht, List.getElem?_take] at hu
    split at hu
    · simpa using hu
    · cases hu
theorem Own.base_le (h : Own E k base e w v xs) : ∀ b, v.ownBlock = some b → base ≤ b := by
  intro b hb
  rcases h.2 with ⟨rfl, h0⟩ | ⟨g, cap, cur, rfl, hbb, _⟩
  · simp [Value.ownBlock] at hb
  · have : g = b := by simpa [Value.ownBlock] using hb
    omega
theorem Own.slice (h : Own E k base e w v xs) : ∃ A c, v = .slice A xs.length c := by
  rcases h.2 with ⟨rfl, h0⟩ | ⟨g, cap, cur, rfl, hbb, _⟩
  · exact ⟨none, 0, by rw [h0]⟩
  · exact ⟨_, cap, rfl⟩
theorem Own.iff_nil (hk : 0 < k) (h : Own E k base e w v xs) : v = .slice none 0 0 → xs = [] := by
  rintro rfl
  rcases h.2 with ⟨_, h0⟩ | ⟨g, cap, cur, e, _⟩
  · exact List.eq_nil_of_length_eq_zero h0
  · cases e
end

section
variable {P : Program} {ops : Array Oper} {rest : List Oper} {o : Oper} {a : Act} {Q : Exit → Act → World → Prop}
/-- append(v, y): behind 'at_builtin'; the goal's world is 'W.alloc' of the variadic's box -/
theorem own_append {α : Type} {E : α → List Value} {k base : Nat} {e : TypeId} {w0 W : World} (hgd : o.guard = none) (s x : Operand) (t : TypeId) (z : Value) (bytes : Nat)
    (ho : o.op = .call { callee := .builtin .append, args := #[s, x], argTypes := #[t, t] })
    (ht : P.underlying t = some (.slice e)) (hinfo : (P.info? e).map (fun i => (i.zero, i.size, i.bytes)) = some (some z, k, bytes)) (hz : z.cells.size = k) (hk : 0 < k) (hb0 : 0 < bytes)
    (hE : ∀ x, (E x).length = k) (v : Value) (xs : List α) (y : α) (cs : Array Value) (hcs : cs.toList = E y) (hs : a.eval s = v) (hx : a.eval x = .slice (some ⟨W.heap.size, 0, none⟩) 1 1) (h1 : ∀ u ∈ E y, u.oneCell' = true)
    (HO : Own E k base e W v xs) (HB : Below base w0 W) (hbase : base ≤ W.heap.size) (hl : (xs.length + 1) * bytes ≤ 140737488355328)
    (h : ∀ v1 w1, Own E k base e w1 v1 (xs ++ [y]) → Below base w0 w1 → W.grownBy w1 v.ownBlock → v1 ≠ .slice none 0 0 → wpList P ops Q rest (a.put o.dst v1) w1) :
    wpList P ops Q (o :: rest) a (W.alloc (.cells cs e)) := by
  obtain ⟨i0, hi, hzz⟩ := Option.map_eq_some_iff.1 hinfo
  simp only [Prod.mk.injEq] at hzz
  obtain ⟨hz0, hz1, hz2⟩ := hzz
  have hlen : xs.length + 1 ≤ 140737488355328 := Nat.le_trans (Nat.le_mul_of_pos_right _ hb0) hl
  refine wpList_append_own_at (W.alloc (.cells cs e)) hgd s x t ho base e i0 z k bytes ht hi hz0 hz1 hz2 hz hk v xs.length (xs.flatMap E) hs (World.ownsRow.alloc HO _) ⟨W.heap.size, 0, none⟩ 1 1 (E y) hx (by rw [hE]; omega)
    (fun j u hu => by
      rw [add_lit, cell_of_row _ W.heap.size _ cs e (0, 0) (heap_alloc_new W _), Nat.zero_add]
      rw [← hcs] at hu
      simpa using hu) h1 (by simp only [maxLen]; omega) hl (by simp; omega) ?_
  intro v1 w1 hown hg hnil hat
  refine h v1 w1 ?_ ((HB.alloc hbase _).grown hg (by simp; omega) HO.base_le) (World.grownBy.trans (World.grownBy_alloc W _ _) hg) (fun e1 => by have := (hnil.1 e1).2; omega)
  unfold Own
  simpa using hown
end
end Go.Proofs.YtlogjgmfkjjhjaaGreatDoor
namespace Go.Proofs.YtlogjgmfkjjhjaaGreatDoor
open Go.RowKit

/-- What is asked of a function value that is called on the elements of a list. -/
def FnB {α β : Type} (g : Nat) (lb : Array Value) (EA : α → Value) (VU : β → Value) (f : α → β) (xs : List α) (w : World) : Prop :=
  ∀ (W : World) (x : α), x ∈ xs → Below w.heap.size w W → Calls Tryz.prog g (#[EA x] ++ lb) W fun e w' => e = .returned (VU (f x)) ∧ Below W.heap.size W w'
theorem FnB.ext {α β : Type} {g : Nat} {lb : Array Value} {EA : α → Value} {VU : β → Value} {f : α → β} {xs : List α} {w w1 : World} (h : FnB g lb EA VU f xs w) (hb : Below w.heap.size w w1) : FnB g lb EA VU f xs w1 :=
  fun W x hx hW => h W x hx (ext_trans hb hW)

def encS (s : ByteArray) : List Value := [.string s]
theorem encS_len (s : ByteArray) : (encS s).length = 1 := rfl
theorem infoS : (Tryz.prog.info? 9).map (fun i => (i.zero, i.size, i.bytes)) = some (some (.string ByteArray.empty), 1, 16) := by kernel_rfl

/-- What has been gathered after k rounds. -/
theorem map_take_succ {α β : Type} (f : α → β) (xs : List α) (k : Nat) (h : k < xs.length) : (xs.take (k + 1)).map f = (xs.take k).map f ++ [f xs[k]] := by
  rw [List.take_succ_eq_append_getElem h, List.map_append]; rfl

/-- What a call hands back: a slice that reads as xs in memory of its own, nil just where xs is empty. -/
def RetSl {α : Type} (E : α → List Value) (k : Nat) (e : TypeId) (xs : List α) (w : World) (e' : Ending) (w' : World) : Prop :=
  ∃ v, e' = .returned v ∧ Own E k w.heap.size e w' v xs ∧ Below w.heap.size w w' ∧ (xs = [] → v = .slice none 0 0)

set_option maxHeartbeats 2000000 in
theorem mappedNS {lb : Array Value} (f : Nd → ByteArray) (g : Nat) (eg : ∀ args w, (callFunc g args).run Tryz.prog w = .ok (.enter g args) w) (xs : List Nd) (v : Value) (w : World)
    (hs : SlAt encN 7 w v xs) (hn : xs.length ≤ 1048576) (hp : FnB g lb (fun x => .agg (encN x).toArray) Value.string f xs w) :
    Calls Tryz.prog 72 #[v, .func (.func g) #[] lb] w (RetSl encS 1 9 (xs.map f) w) := by
  obtain ⟨A, c, rfl, hc, hm, hr⟩ := hs
  have hlen : xs.length ≤ 9223372036854775807 := by omega
  go_enter Tryz.func72, Tryz.ntmps72
  go_wp2
  go_loopw [10, 5] (fun i o wr => ∃ k : Nat, k ≤ xs.length ∧ i = .int .i64 k ∧ Below w.heap.size w wr ∧ Own encS 1 w.heap.size 9 wr o ((xs.take k).map f) ∧ Hid ((xs.take k).map f = [] → o = .slice none 0 0)) (fun i _ _ => xs.length - (intOf i).toNat)
  case atStart => exact ⟨0, Nat.zero_le _, rfl, Below.refl _ _, Own.nil _, fun _ => rfl⟩
  case round =>
    obtain ⟨k, hk, rfl, hb, ho, hnil⟩ := hrel
    by_cases hlt : k < xs.length
    · obtain ⟨b, off, rfl, hbl, hcell⟩ := hr (by omega)
      have hx : xs[k]? = some xs[k] := List.getElem?_eq_getElem hlt
      have hcall := fun W hW => hp W xs[k] (List.getElem_mem hlt) hW
      have hts := map_take_succ f xs k hlt
      generalize xs[k] = x at hx hcall hts
      obtain ⟨c0, c1, c2, c3, c4, c5, c6⟩ := nodeCells (fun i u hu => ext_cell hb (hcell k x hx i u hu))
      have hlt2 : ((xs.take k).map f).length = k := by simp; omega
      have HTS := Lib.hid hts
      have HL := Lib.hid hlt2
      clear hcell hr hp hx hts hlt2
      generalize (xs.take k).map f = ys at ho hnil HTS HL
      generalize f x = y at hcall HTS
      unfold encN at hcall
      have hsz := hb.size
      go_wp2_with (first
        | (go_at_fn g; refine (hcall _ (hb.alloc hsz _)).mono ?_; rintro e w1 ⟨rfl, hb1⟩; have hbw := ext_trans (hb.alloc hsz _) hb1; have ho1 := (ho.alloc (.cells #[.string x.name, .string x.parent, .int .i64 x.re, .int .i64 x.im, .int .i64 x.lim, .int .i64 x.cre, .int .i64 x.cim] 125)).ext hb1)
        | (at_builtin; refine own_append (w0 := w) rfl _ _ 25 (.string ByteArray.empty) 16 rfl Tryz.underlying25 infoS rfl (by decide) (by decide) encS_len _ ys y _ rfl rfl rfl (by simp [encS, Value.oneCell']) ho1 hbw hbw.size (by have := HL.out; omega) ?_; intro v1 w2 hown hbv hgv hnn))
      go_roundw
      case rel => exact ⟨k + 1, by omega, by go_num, hbv, by rw [HTS.out]; exact hown, fun h => by rw [HTS.out] at h; simp at h⟩
      case measure => simp [intOf]; omega
    · obtain rfl : k = xs.length := by omega
      rw [List.take_of_length_le (Nat.le_refl _)] at ho hnil
      go_wp2
      go_ret
      exact ⟨_, rfl, ho, hb, hnil.out⟩
end Go.Proofs.YtlogjgmfkjjhjaaGreatDoor
