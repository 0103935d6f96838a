/-
  feeder.checkNames, isNode.
  feeder.isNode, Grid.checkFailed.
  Grid.opens.
-/
import Derived.Test.YtlogjgmfkjjhjaaGreatDoorX15
import Derived.Laws.StructEq
set_option linter.unusedSimpArgs false
set_option linter.unusedVariables false
namespace Go.Proofs.YtlogjgmfkjjhjaaGreatDoor
open Go.RowKit

def nameErr (is : ByteArray → Bool) (before : List ByteArray) (s : ByteArray) : Int := firstV [whenV (!is s) 10, whenV (hasS before s) 9]
def namesGo (is : ByteArray → Bool) : List ByteArray → List ByteArray → Int
  | _, [] => 0
  | before, s :: r => if nameErr is before s ≠ 0 then nameErr is before s else namesGo is (before ++ [s]) r
def namesErr (is : ByteArray → Bool) (l : List ByteArray) : Int := namesGo is [] l
theorem namesGo_step (is : ByteArray → Bool) (l : List ByteArray) (k : Nat) (hk : k < l.length) : namesGo is (l.take k) (l.drop k) = if nameErr is (l.take k) l[k] ≠ 0 then nameErr is (l.take k) l[k] else namesGo is (l.take (k + 1)) (l.drop (k + 1)) := by
  rw [List.drop_eq_getElem_cons hk, namesGo, List.take_succ_eq_append_getElem hk]

set_option maxHeartbeats 4000000 in
theorem checkNames_any {lb : Array Value} (is : ByteArray → Bool) (g : Nat) (eg : ∀ args w, (callFunc g args).run Tryz.prog w = .ok (.enter g args) w) (l : List ByteArray) (v : Value) (w : World) (hs : SlAt encS 1 w v l) (hp : FnB g lb Value.string Value.bool is l w) :
    Calls Tryz.prog 113 #[v, .func (.func g) #[] lb] w fun e w' => e = .returned (.int .i64 (namesErr is l)) ∧ Below w.heap.size w w' := by
  have hs0 := hs
  obtain ⟨A, c, rfl, hc, hm, hr⟩ := hs.one Value.string (fun _ => rfl)
  have hlen : l.length ≤ 9223372036854775807 := by omega
  have hV : namesErr is l = namesGo is (l.take 0) (l.drop 0) := rfl
  have HV := Lib.hid hV
  clear hV hs
  go_enter Tryz.func113, Tryz.ntmps113
  go_wp2
  go_loopw [10] (fun i wr => ∃ k : Nat, k ≤ l.length ∧ i = .int .i64 k ∧ Below w.heap.size w wr ∧ Hid (namesErr is l = namesGo is (l.take k) (l.drop k))) (fun i _ => l.length - (intOf i).toNat)
  case atStart => exact ⟨0, Nat.zero_le _, rfl, Below.refl _ _, HV⟩
  case round =>
    obtain ⟨k, hk, rfl, hb, hz⟩ := hrel
    clear HV
    by_cases hlt : k < l.length
    · have hst := namesGo_step is l k hlt
      rw [← hz.out] at hst
      obtain ⟨b, off, rfl, hbl, hcell⟩ := hr (by omega)
      have hx : l[k]? = some l[k] := List.getElem?_eq_getElem hlt
      have c0 := ext_cell hb (hcell k _ hx)
      have hcall := fun W hW => hp W l[k] (List.getElem_mem hlt) hW
      have hct := fun (W : World) (hW : Below w.heap.size w W) => containsS_any (l.take k) (.slice (some ⟨b, off, none⟩) k c) l[k] W ((hs0.ext hW).take hk)
      have hne : nameErr is (l.take k) l[k] = firstV [whenV (!is l[k]) 10, whenV (hasS (l.take k) l[k]) 9] := rfl
      rw [hne] at hst
      generalize hasS (l.take k) l[k] = h2 at hst hct
      generalize l[k] = s at hst c0 hcall hct hx
      generalize is s = h1 at hst hcall
      have HST := Lib.hid hst
      clear hst hne hx hcell hr
      have hkc : k ≤ c := by omega
      go_wp2
      have dB0 : Below wr.heap.size wr wr := Below.refl _ _
      refine wp_region_plan (fun w' => w'.cell? ⟨b, off + k, none⟩ = some (.string s) ∧ Below wr.heap.size wr w') [2, 4, 9, 10, 11, 12] [0, 1, 5, 6, 7, 8, 2, 3, 4, 9, 10, 11, 12, 13] (by kernel_rfl) (by kernel_rfl) (by ((first | assumption | exact keep1 (by assumption) (by assumption) | exact keep1 (by assumption) (ext_alloc _ _) | exact keep1 (by assumption) (ext_drew _) | exact keep1 ⟨by assumption, by assumption⟩ (ext_drew _) | go_keep))) (fun hSw => ?_)
      repeat (first
        | (refine wpPlan_pas rfl rfl (fun K hK => ?_)
           apply Exists.intro
           refine ⟨?_, ?_⟩
           · first | exact pasOk_no rfl | (apply pasOk_yes rfl; intro wS hS; obtain ⟨s0, s1⟩ := hS; go_simp; first | done | exact rfl | ((try simp only [↓IntWalk.iteOmega]); (try go_bits); (try go_simp); first | done | exact rfl))
           go_simp
           refine hK _ ?_
           clear hK K)
        | (refine wpPlan_no rfl rfl rfl (by assumption) (fun K hK => ?_)
           go_simp
           refine hK _ ?_
           clear hK K)
        | (refine wpPlan_act rfl rfl rfl (fun K hK => ?_)
           go_wp2_with (first | (go_at_fn g; refine (hcall _ (ext_trans hb hSw.2)).mono ?_; rintro e w1 ⟨rfl, hb1⟩) | (go_at_call 82; refine (when_any _ _ _).mono ?_; rintro e w1 ⟨rfl, rfl⟩) | (go_at_call 119; refine (hct _ (ext_trans hb hSw.2)).mono ?_; rintro e w1 ⟨rfl, rfl⟩) | (go_at_call 81; refine (first_any [_, _] _ _ (slat_new encI_len (by simp) rfl (by simp))).mono ?_; rintro e w1 ⟨rfl, rfl⟩))
           refine OnlyK.go (hK _ _ (by ((first | assumption | exact keep1 (by assumption) (by assumption) | exact keep1 (by assumption) (ext_alloc _ _) | exact keep1 (by assumption) (ext_drew _) | exact keep1 ⟨by assumption, by assumption⟩ (ext_drew _) | go_keep))) (fun hSw => ?_))
           clear hK K))
      refine wpPlan_nil ?_
      have hbT := ext_trans hb hSw.2
      clear hSw
      generalize firstV [whenV (!h1) 10, whenV h2 9] = e1 at HST ⊢
      cases hq : (e1 != 0)
      · have hst : namesErr is l = namesGo is (l.take (k + 1)) (l.drop (k + 1)) := by rw [HST.out, if_neg (by simpa using hq)]
        have HS2 := Lib.hid hst
        clear hst
        go_wp2
        go_roundw
        case rel => exact ⟨k + 1, by omega, by go_num, hbT, HS2⟩
        case measure => simp [intOf]; omega
      · have hst : namesErr is l = e1 := by rw [HST.out, if_pos (by simpa using hq)]
        have HS2 := Lib.hid hst
        clear hst
        go_wp2
        go_ret
        exact ⟨by rw [HS2.out]; rfl, hbT⟩
    · have hst : namesErr is l = 0 := by rw [hz.out, List.drop_of_length_le (by omega)]; rfl
      have HS2 := Lib.hid hst
      clear hst
      go_wp2
      go_ret
      exact ⟨by rw [HS2.out]; rfl, hb⟩
end Go.Proofs.YtlogjgmfkjjhjaaGreatDoor
namespace Go.Proofs.YtlogjgmfkjjhjaaGreatDoor
open Go.RowKit

theorem isNode1_any (lb : Nat) (v : Value) (l : List Nd) (s : ByteArray) (w : World) (hcl : w.cell? ⟨lb, 0, none⟩ = some v) (hs : SlAt encN 7 w v l) :
    Calls Tryz.prog 157 #[.string s, .pointer (some ⟨lb, 0, none⟩)] w fun e w' => e = .returned (.bool (decide (0 ≤ findI l s))) ∧ Below w.heap.size w w' := by
  have hf := find_any l v s w hs
  obtain ⟨A, n, c, rfl⟩ := hs.isSlice
  clear hs
  generalize findI l s = fi at hf ⊢
  go_enter Tryz.func157, Tryz.ntmps157
  go_wp2_with (go_at_call 89; refine hf.mono ?_; rintro e w1 ⟨rfl, hb1⟩)
  go_ret
  exact ⟨rfl, hb1⟩
theorem isNode_any (v : Value) (hv : ∃ A n c, v = .slice A n c) (w : World) : Calls Tryz.prog 120 #[v] w fun e w' => e = .returned (.func (.func 157) #[] #[.pointer (some ⟨w.heap.size, 0, none⟩)]) ∧ w' = w.alloc (.cells #[v] 29) := by
  obtain ⟨A, n, c, rfl⟩ := hv
  go_enter Tryz.func120, Tryz.ntmps120
  go_wp2
  go_ret
  exact ⟨rfl, rfl⟩
theorem isNode_fn (v : Value) (l : List Nd) (xs : List ByteArray) (w : World) (hs : SlAt encN 7 w v l) :
    FnB 157 #[.pointer (some ⟨w.heap.size, 0, none⟩)] Value.string Value.bool (fun s => decide (0 ≤ findI l s)) xs (w.alloc (.cells #[v] 29)) :=
  fun W x _ hW => isNode1_any w.heap.size v l x W (ext_cell hW (Boxed.new w _ _).cell) (hs.ext (ext_trans (ext_alloc _ _) hW))

def failedV (g : Gr) (s : ByteArray) (failed : List ByteArray) : Int := if gridNodeV g s ≠ 0 then gridNodeV g s else namesErr (fun s => decide (0 ≤ findI g.nodes s)) failed
set_option maxHeartbeats 4000000 in
theorem checkFailed_any (g : Gr) (s : ByteArray) (failed : List ByteArray) (vf : Value) (w : World) (hg : GrAt w g) (hf : SlAt encS 1 w vf failed) :
    Calls Tryz.prog 101 #[.agg (encGr g).toArray, .string s, vf] w fun e w' => e = .returned (.int .i64 (failedV g s failed)) ∧ Below w.heap.size w w' := by
  have hck := fun W hW => gridNode_any g s W (hg.ext hW)
  have hfn := fun W hW => isNode_fn g.nv g.nodes failed W (hg.ext hW).nodes
  have hin := fun W => isNode_any g.nv hg.nodes.isSlice W
  have hcn := fun W (hW : Below w.heap.size w W) => checkNames_any (lb := #[.pointer (some ⟨W.heap.size, 0, none⟩)]) (fun s => decide (0 ≤ findI g.nodes s)) _ (enters_of Tryz.func157 (by kernel_rfl) rfl) failed vf (W.alloc (.cells #[g.nv] 29)) (hf.ext (hW.alloc hW.size _)) (hfn W hW)
  have hV : failedV g s failed = if gridNodeV g s ≠ 0 then gridNodeV g s else namesErr (fun s => decide (0 ≤ findI g.nodes s)) failed := rfl
  rw [hV]
  clear hV hfn
  obtain ⟨Af, nf, cf, rfl⟩ := hf.isSlice
  clear hf
  unfold encGr at hck ⊢
  obtain ⟨nv, nodes, rv, rels, st⟩ := g
  simp only at hck hin hcn ⊢
  obtain ⟨A, n, c, rfl⟩ := hg.nodes.isSlice
  obtain ⟨A', n', c', rfl⟩ := hg.rels.isSlice
  clear hg
  generalize gridNodeV _ s = e0 at hck ⊢
  generalize namesErr _ failed = e1 at hcn ⊢
  have hbW : Below w.heap.size w (w.alloc (.cells #[.slice A n c, .slice A' n' c', .int .i64 st] 67)) := ext_alloc _ _
  have r0 := (BoxC.new w 67 #[.slice A n c, .slice A' n' c', .int .i64 st]).cell 0 _ rfl
  go_enter Tryz.func101, Tryz.ntmps101
  cases hq : (e0 != 0)
  · rw [if_neg (by simpa using hq)]
    go_wp2_with (first
      | (go_at_call 91; refine (hck _ hbW).mono ?_; rintro e wA ⟨rfl, hbA⟩; have hbB := ext_trans hbW hbA; have rA := ext_cell hbA r0)
      | (go_at_call 120; refine (hin _).mono ?_; rintro e wC ⟨rfl, rfl⟩)
      | (go_at_call 113; refine (hcn _ hbB).mono ?_; rintro e wD ⟨rfl, hbD⟩; have hbE := ext_trans (hbB.alloc hbB.size _) hbD))
    go_ret
    exact ⟨rfl, hbE⟩
  · rw [if_pos (by simpa using hq)]
    go_wp2_with (go_at_call 91; refine (hck _ hbW).mono ?_; rintro e wA ⟨rfl, hbA⟩; have hbB := ext_trans hbW hbA)
    go_ret
    exact ⟨rfl, hbB⟩
end Go.Proofs.YtlogjgmfkjjhjaaGreatDoor
namespace Go.Proofs.YtlogjgmfkjjhjaaGreatDoor
open Go.RowKit

theorem eqTrip (a c : ByteArray) (b d : Int) (w : World) : (Op.equalIn 10000 82 (.agg #[.string a, .int .i64 b]) (.agg #[.string c, .int .i64 d])).run Tryz.prog w = .ok (a.toList == c.toList && b == d) w := by
  have u3 := Tryz.underlying3
  have a3 := Tryz.isAgg3
  have z3 := Tryz.sizeOf3
  have u9 := Tryz.underlying9
  have a9 := Tryz.isAgg9
  have z9 := Tryz.sizeOf9
  have hS : Tryz.prog.underlying 82 = some (.struct (Tryz.prog.fieldsOf 82)) := by kernel_rfl
  have hp : Tryz.prog.stoodInHeld 82 = false := by kernel_rfl
  rw [show (10000 : Nat) = 9999 + 1 from rfl, run_equalIn_agg w 9999 82 _ _ hS hp]
  simp only [Program.fieldsOf, Tryz.underlying82]
  go_simp
  cases h1 : (a.toList == c.toList) <;> cases h2 : (b == d) <;> simp_all
theorem encTr_one (t : ByteArray × Int) : ∀ v ∈ encTr t, v.oneCell' = true := by
  intro v hv
  simp only [encTr, List.mem_cons, List.mem_nil_iff, or_false] at hv
  rcases hv with rfl | rfl <;> rfl
theorem sizeTr : (Tryz.prog.info? 82).map (·.size) = some 2 := by kernel_rfl
theorem RowC.t0 {b : Nat} {w : World} {z : ByteArray × Int} (h : RowC encTr 2 b 0 w [z]) : w.cell? ⟨b, 0, none⟩ = some (.string z.1) ∧ w.cell? ⟨b, 1, none⟩ = some (.int .i64 z.2) :=
  ⟨by simpa using h.2.1 0 z rfl 0 _ rfl, by simpa using h.2.1 0 z rfl 1 _ rfl⟩

/-- what opens: the first trip whose breaker has not failed; its node; whether there is one -/
def firstOpen (ts : List Tp) (failed : List ByteArray) : Option Tp := ts.find? fun t => !hasS failed t.rel.node
def openT (o : Option Tp) : ByteArray × Int := match o with | some t => tripOf t | none => (ByteArray.empty, 0)
def openA (o : Option Tp) : ByteArray := match o with | some t => t.rel.node | none => ByteArray.empty
def openI (o : Option Tp) : Bool := !((openT o).1.toList == ByteArray.empty.toList && (openT o).2 == 0)
theorem find_drop {α : Type} (p : α → Bool) (xs : List α) (k : Nat) (h : ∀ j y, j < k → xs[j]? = some y → p y = false) : xs.find? p = (xs.drop k).find? p := by
  induction k generalizing xs with
  | zero => rfl
  | succ k ih =>
    cases xs with
    | nil => rfl
    | cons x r =>
      rw [List.find?_cons_of_neg (by simpa using h 0 x (by omega) rfl), List.drop_succ_cons]
      exact ih r fun j y hj hy => h (j + 1) y (by omega) (by simpa using hy)
end Go.Proofs.YtlogjgmfkjjhjaaGreatDoor
