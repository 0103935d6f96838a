/-
  feeder.losses, Losses, Overloaded.
  feeder.Overloaded.
-/
import Derived.Test.YtlogjgmfkjjhjaaGreatDoorX09
set_option linter.unusedSimpArgs false
set_option linter.unusedVariables false
namespace Go.Proofs.YtlogjgmfkjjhjaaGreatDoor
open Go.RowKit

theorem sq_le {a m : Int} (h1 : -m ≤ a) (h2 : a ≤ m) : 0 ≤ a * a ∧ a * a ≤ m * m := by
  have h := Int.natAbs_mul_self (a := a)
  have hm : a.natAbs ≤ m.toNat := by omega
  have h3 := Nat.mul_le_mul hm hm
  have h4 : ((m.toNat * m.toNat : Nat) : Int) = m * m := by
    have : ((m.toNat : Nat) : Int) = m := by omega
    rw [Int.natCast_mul, this]
  constructor
  · rw [← h]; exact Int.natCast_nonneg _
  · rw [← h, ← h4]
    exact_mod_cast h3
theorem mul_le_of {a b m n : Int} (h1 : 0 ≤ a) (h2 : a ≤ m) (h3 : 0 ≤ b) (h4 : b ≤ n) : 0 ≤ a * b ∧ a * b ≤ m * n :=
  ⟨Int.mul_nonneg h1 h3, Int.mul_le_mul h2 h4 h3 (by omega)⟩

def sqG (z : Int × Int) : Int := z.1 * z.1 + z.2 * z.2
theorem Good.curL {l : List Nd} (h : Good l) : CurLe 1000 l := fun x hx => by
  have := h.mem hx
  exact ⟨this.cre0, this.cre1, this.cim0, this.cim1⟩
theorem Good.current {l : List Nd} (h : Good l) (x : Nd) : -16000 ≤ (currentN l x).1 ∧ (currentN l x).1 ≤ 16000 ∧ -16000 ≤ (currentN l x).2 ∧ (currentN l x).2 ≤ 16000 := by
  have h1 := sumG_le (m := 1000) (by omega) (branchN l x.name) (fun y hy => h.curL y (List.mem_filter.1 hy).1)
  have h2 : (branchN l x.name).length ≤ l.length := List.length_filter_le _ _
  have h3 := h.len1
  unfold currentN
  omega
theorem Good.sq {l : List Nd} (h : Good l) (x : Nd) : (0 ≤ (currentN l x).1 * (currentN l x).1 ∧ (currentN l x).1 * (currentN l x).1 ≤ 256000000) ∧ (0 ≤ (currentN l x).2 * (currentN l x).2 ∧ (currentN l x).2 * (currentN l x).2 ≤ 256000000) := by
  obtain ⟨h1, h2, h3, h4⟩ := h.current x
  have a := sq_le h1 h2
  have b := sq_le h3 h4
  omega

theorem Own.lt {α : Type} {E : α → List Value} {k base : Nat} {e : TypeId} {w : World} {v : Value} {xs : List α} (h : Own E k base e w v xs) : ∀ b, v.ownBlock = some b → b < w.heap.size := by
  intro b hb
  rcases h.2 with ⟨rfl, h0⟩ | ⟨g, cap, cur, rfl, hbb, hh, _⟩
  · simp [Value.ownBlock] at hb
  · have : g = b := by simpa [Value.ownBlock] using hb
    subst this
    exact (Array.getElem?_eq_some_iff.1 hh).1
theorem cell_grown {w w1 : World} {row : Option Nat} (hg : w.grownBy w1 row) {a : Addr} {u : Value} (hc : w.cell? a = some u) (hne : some a.block ≠ row) : w1.cell? a = some u := by
  have hlt := World.block_lt_of_cell? _ _ hc
  rw [← hc]
  simp only [World.cell?, hg.block a.block hlt hne]
theorem Own.ne {α : Type} {E : α → List Value} {k base : Nat} {e : TypeId} {w : World} {v : Value} {xs : List α} (h : Own E k base e w v xs) {b : Nat} (hb : b < base ∨ w.heap.size ≤ b) : some b ≠ v.ownBlock := by
  intro e
  have h1 := h.lt b e.symm
  have h2 := h.base_le b e.symm
  omega

theorem range_map_succ {α : Type} (f : Nat → α) (n : Nat) : (List.range (n + 1)).map f = (List.range n).map f ++ [f n] := by simp [List.range_succ]
/-- the losses of all cables -/
def lossN (l : List Nd) (i : Nat) : Int := (l.getD i default).re * sqG ((currentsN l).getD i (0, 0))
def lossesN (l : List Nd) : List Int := (List.range l.length).map (lossN l)
theorem infoInt : (Tryz.prog.info? 3).map (fun i => (i.zero, i.size, i.bytes)) = some (some (.int .i64 0), 1, 8) := by kernel_rfl
theorem currentsN_at {l : List Nd} {k : Nat} (hk : k < l.length) : (currentsN l)[k]? = some (currentN l l[k]) := by simp [currentsN, hk]

set_option maxHeartbeats 4000000 in
theorem losses_any (v : Value) (l : List Nd) (hg : Good l) (w : World) (hs : SlAt encN 7 w v l) :
    Calls Tryz.prog 106 #[v] w (RetSl encI 1 3 (lossesN l) w) := by
  have hsw := hs
  obtain ⟨A, c, rfl, hc1, hc2, hr⟩ := hs
  clear hr
  have hgl := hg.len1
  have hcu := currents_any _ l hg.acyc hg.len0 hg.len hg.cur w hsw
  have hel : (currentsN l).length = l.length := List.length_map _
  have hb : ∀ k (hk : k < l.length), ∃ z, (currentsN l)[k]? = some z ∧ (currentsN l).getD k (0, 0) = z ∧ (0 ≤ z.1 * z.1 ∧ z.1 * z.1 ≤ 256000000) ∧ (0 ≤ z.2 * z.2 ∧ z.2 * z.2 ≤ 256000000) := fun k hk =>
    ⟨_, currentsN_at hk, by rw [List.getD_eq_getElem?_getD, currentsN_at hk]; rfl, hg.sq l[k]⟩
  have hLN : lossesN l = (List.range l.length).map (fun i => (l.getD i default).re * sqG ((currentsN l).getD i (0, 0))) := rfl
  have HLN := Lib.hid hLN
  have HEL := Lib.hid hel
  have hre : ∀ k (hk : k < l.length), 0 ≤ (l.getD k default).re ∧ (l.getD k default).re ≤ 1000 := fun k hk => by
    have : l.getD k default = l[k] := by simp [hk]
    rw [this]
    exact ⟨(hg.each k hk).re0, (hg.each k hk).re1⟩
  clear hLN hel hg
  generalize currentsN l = xs at hcu hb HEL HLN
  have hxl : xs.length ≤ 16 := by have := HEL.out; omega
  go_enter Tryz.func106, Tryz.ntmps106
  go_wp2_with (go_at_call 75; refine hcu.mono ?_; rintro e w4 ⟨v2, rfl, ho2, hb8, hn2⟩; have hsx := ho2.slat encG_len; obtain ⟨A2, c2, rfl⟩ := ho2.slice)
  have hsn := hsw.ext hb8
  clear hcu hsw
  go_loopw [9, 3] (fun i o wr => ∃ k : Nat, k ≤ xs.length ∧ i = .int .i64 k ∧ Below w4.heap.size w4 wr ∧ Own encI 1 w4.heap.size 3 wr o ((List.range k).map (fun i => (l.getD i default).re * sqG (xs.getD i (0, 0)))) ∧ Hid ((List.range k).map (fun i => (l.getD i default).re * sqG (xs.getD i (0, 0))) = [] → o = .slice none 0 0)) (fun i _ _ => xs.length - (intOf i).toNat)
  case atStart => exact ⟨0, Nat.zero_le _, rfl, Below.refl _ _, Own.nil _, fun _ => rfl⟩
  case round =>
    obtain ⟨k, hk, rfl, hb0, ho, hnil⟩ := hrel
    by_cases hlt : k < xs.length
    · have hsz := hb0.size
      have hkl : k < l.length := by have := HEL.out; omega
      obtain ⟨A1', c1', e1', _, _, hr1⟩ := hsn
      obtain ⟨b1, o1, rfl, hb1, hcell1⟩ := hr1 (by omega)
      cases e1'
      obtain ⟨A1', c1', e1', _, _, hr3⟩ := hsx.ext hb0
      obtain ⟨b3, o3, rfl, hb3, hcell3⟩ := hr3 (by omega)
      cases e1'
      have hx1 : l[k]? = some (l.getD k default) := by rw [List.getD_eq_getElem?_getD, List.getElem?_eq_getElem hkl]; rfl
      have hst := range_map_succ (fun i => (l.getD i default).re * sqG (xs.getD i (0, 0))) k
      have hpl : ((List.range k).map (fun i => (l.getD i default).re * sqG (xs.getD i (0, 0)))).length = k := by simp
      obtain ⟨x, hx3, hx4, ⟨q1, q2⟩, ⟨q3, q4⟩⟩ := hb k hkl
      obtain ⟨p1, p2⟩ := hre k hkl
      rw [hx4] at hst
      have n0 := ext_cell hb0 (hcell1 k _ hx1 2 _ rfl)
      have x0 := hcell3 k _ hx3 0 _ rfl
      have x1 := hcell3 k _ hx3 1 _ rfl
      rw [Nat.add_zero] at x0
      clear hx1 hx3 hx4 hcell1 hcell3 hr1 hr3 hb hre
      generalize (l.getD k default).re = re at hst n0 p1 p2
      have hm := mul_le_of p1 p2 (b := sqG x) (n := 512000000) (by unfold sqG; omega) (by unfold sqG; omega)
      have HST := Lib.hid hst
      have HPL := Lib.hid hpl
      clear hst hpl
      generalize (List.range k).map (fun i => (l.getD i default).re * sqG (xs.getD i (0, 0))) = ys at ho hnil HST HPL
      have hsq : sqG x = x.1 * x.1 + x.2 * x.2 := rfl
      rw [hsq] at hm
      have HSQ := Lib.hid hsq
      clear hsq
      have hwr : IntKind.i64.wrap (re * (x.1 * x.1 + x.2 * x.2)) = re * (x.1 * x.1 + x.2 * x.2) := IntWalk.i64_in _ (by omega)
      go_wp2
      generalize hW : World.alloc wr _ = W
      have hbW : Below wr.heap.size wr W := by rw [← hW]; exact ext_alloc _ _
      have cW0 : W.cell? ⟨wr.heap.size, 0, none⟩ = some (.int .i64 x.1) := by rw [← hW]; simp [World.cell?_alloc_new]
      have cW1 : W.cell? ⟨wr.heap.size, 1, none⟩ = some (.int .i64 x.2) := by rw [← hW]; simp [World.cell?_alloc_new]
      clear hW
      have k0 := ext_cell hbW n0
      have hbw := ext_trans hb0 hbW
      have hoW := ho.ext hbW
      have hbws := hbw.size
      refine wp_region_plan (fun w' => w'.cell? ⟨wr.heap.size, 0, none⟩ = some (.int .i64 x.1) ∧ w'.cell? ⟨wr.heap.size, 1, none⟩ = some (.int .i64 x.2) ∧ w'.cell? ⟨b1, o1 + k * 7 + 2, none⟩ = some (.int .i64 re) ∧ Below w4.heap.size w4 w') [8, 10, 11] [0, 1, 2, 3, 4, 5, 6, 7, 8, 9, 10, 11, 12] (by kernel_rfl) (by kernel_rfl) (by ((first | assumption | exact keep3 (by assumption) (by assumption) | exact keep3 (by assumption) (ext_alloc _ _) | exact keep3 (by assumption) (ext_drew _) | exact keep3 ⟨by assumption, by assumption, by assumption, by assumption⟩ (ext_drew _) | go_keep))) (fun hSw => ?_)
      repeat (first
        | (refine wpPlan_pas rfl rfl (fun K hK => ?_)
           apply Exists.intro
           refine ⟨?_, ?_⟩
           · first | exact pasOk_no rfl | (apply pasOk_yes rfl; intro wS hS; obtain ⟨s0, s1, s2, s3⟩ := hS; go_simp; first | done | exact rfl | ((try simp only [↓IntWalk.iteOmega]); (try go_bits); (try go_simp); first | done | exact rfl))
           go_simp
           refine hK _ ?_
           clear hK K)
        | (refine wpPlan_no rfl rfl rfl (by assumption) (fun K hK => ?_)
           go_simp
           refine hK _ ?_
           clear hK K)
        | (refine wpPlan_act rfl rfl rfl (fun K hK => ?_)
           go_wp2_with (first | (go_at_call 108; refine (square_any x.1 x.2 _ (by omega) (by omega) (by omega) (by omega)).mono ?_; rintro e w5 ⟨rfl, hb5⟩; have ho6 := Own.ext (w := World.drew W) hoW hb5; obtain ⟨s0, s1, s2, s3⟩ := keep3 hSw hb5; have hb6s := s3.size) | (at_builtin; refine own_append (w0 := w4) rfl _ _ 38 (.int .i64 0) 8 rfl Tryz.underlying38 infoInt rfl (by decide) (by decide) encI_len _ ys (re * (x.1 * x.1 + x.2 * x.2)) _ rfl rfl rfl (by simp [encI, Value.oneCell']) ho6 s3 hb6s (by have := HPL.out; omega) ?_; intro v1 w7 hown hbv hgv hnn; have hS7 : _ ∧ _ ∧ _ ∧ _ := ⟨cell_grown hgv s0 (ho.ne (.inr (Nat.le_refl _))), cell_grown hgv s1 (ho.ne (.inr (Nat.le_refl _))), cell_grown hgv s2 (ho.ne (.inl hb1)), hbv⟩))
           refine OnlyK.go (hK _ _ (by ((first | assumption | exact keep3 (by assumption) (by assumption) | exact keep3 (by assumption) (ext_alloc _ _) | exact keep3 (by assumption) (ext_drew _) | exact keep3 ⟨by assumption, by assumption, by assumption, by assumption⟩ (ext_drew _) | go_keep))) (fun hSw => ?_))
           clear hK K))
      refine wpPlan_nil ?_
      go_wp2
      go_roundw
      case rel => exact ⟨k + 1, by omega, by go_num, hbv, by rw [HST.out, HSQ.out]; exact hown, fun h => by rw [HST.out] at h; simp at h⟩
      case measure => simp [intOf]; omega
    · obtain rfl : k = xs.length := by omega
      go_wp2
      go_ret
      refine ⟨_, rfl, ?_, hb8.trans (hb0.mono hb8.size), ?_⟩
      · rw [HLN.out]; rw [HEL.out] at ho; exact ho.mono hb8.size
      · rw [HLN.out]; rw [HEL.out] at hnil; exact hnil.out

def lossesR (l : List Nd) : List Int × Int := if checkNodesV l ≠ 0 then ([], checkNodesV l) else (lossesN l, 0)
set_option maxHeartbeats 2000000 in
theorem Losses_any (v : Value) (l : List Nd) (w : World) (hs : SlAt encN 7 w v l) (hok : Names l) :
    Calls Tryz.prog 55 #[v] w (Ret2 encI 1 3 (lossesR l) w) := by
  have hsw := hs
  obtain ⟨A, c, rfl, hc1, hc2, hr⟩ := hs
  clear hr
  have hc := checkNodes_any l _ w hsw hok
  have hz : checkNodesV l = 0 → _ := good_of
  have hV : lossesR l = if checkNodesV l ≠ 0 then ([], checkNodesV l) else (lossesN l, 0) := rfl
  rw [hV]
  clear hV
  generalize checkNodesV l = e1 at hc hz ⊢
  go_enter Tryz.func55, Tryz.ntmps55
  cases hq : (e1 != 0)
  · obtain rfl : e1 = 0 := by simpa using hq
    have hg := hz rfl
    have hn := fun W hW => losses_any _ l hg W (hsw.ext hW)
    clear hz hg
    go_wp2_with (first
      | (go_at_call 21; refine hc.mono ?_; rintro e w1 ⟨rfl, hb1⟩)
      | (go_at_call 106; refine (hn _ hb1).mono ?_; rintro e w2 ⟨v2, rfl, ho2, hb2, hn2⟩))
    go_ret2
    exact ⟨_, rfl, ho2.mono hb1.size, ext_trans hb1 hb2, hn2⟩
  · have he : e1 ≠ 0 := by simpa using hq
    rw [if_pos he]
    clear hz he
    go_wp2_with (go_at_call 21; refine hc.mono ?_; rintro e w1 ⟨rfl, hb1⟩)
    go_ret2
    exact ⟨_, rfl, Own.nil _, hb1, fun _ => rfl⟩
end Go.Proofs.YtlogjgmfkjjhjaaGreatDoor
namespace Go.Proofs.YtlogjgmfkjjhjaaGreatDoor
open Go.RowKit

def overP (l : List Nd) (xs : List (Int × Int)) (i : Nat) : Bool := decide (0 < i) && decide ((l.getD i default).lim < sqG (xs.getD i (0, 0)))
def overN (l : List Nd) : List ByteArray := pickN (overP l (currentsN l)) l l.length
def overR (l : List Nd) : List ByteArray × Int := if checkNodesV l ≠ 0 then ([], checkNodesV l) else (overN l, 0)

set_option maxHeartbeats 4000000 in
theorem Overloaded_any (v : Value) (l : List Nd) (w : World) (hs : SlAt encN 7 w v l) (hok : Names l) :
    Calls Tryz.prog 57 #[v] w (Ret2 encS 1 9 (overR l) w) := by
  have hsw := hs
  obtain ⟨A, c, rfl, hc1, hc2, hr⟩ := hs
  clear hr
  have hc := checkNodes_any l _ w hsw hok
  have hz : checkNodesV l = 0 → _ := good_of
  have hV : overR l = if checkNodesV l ≠ 0 then ([], checkNodesV l) else (overN l, 0) := rfl
  rw [hV]
  clear hV
  generalize checkNodesV l = e1 at hc hz ⊢
  go_enter Tryz.func57, Tryz.ntmps57
  cases hq : (e1 != 0)
  · obtain rfl : e1 = 0 := by simpa using hq
    have hg := hz rfl
    have hgl := hg.len1
    have hcu := fun W hW => currents_any _ l hg.acyc hg.len0 hg.len hg.cur W (hsw.ext hW)
    have hel : (currentsN l).length = l.length := List.length_map _
    have hb : ∀ k (hk : k < l.length), ∃ z, (currentsN l)[k]? = some z ∧ (currentsN l).getD k (0, 0) = z ∧ (0 ≤ z.1 * z.1 ∧ z.1 * z.1 ≤ 256000000) ∧ (0 ≤ z.2 * z.2 ∧ z.2 * z.2 ≤ 256000000) := fun k hk =>
      ⟨_, currentsN_at hk, by rw [List.getD_eq_getElem?_getD, currentsN_at hk]; rfl, hg.sq l[k]⟩
    have hLN : overN l = pickN (overP l (currentsN l)) l l.length := rfl
    have HLN := Lib.hid hLN
    have HEL := Lib.hid hel
    clear hLN hel hg hz
    generalize currentsN l = xs at hcu hb HEL HLN
    have hxl : xs.length ≤ 16 := by have := HEL.out; omega
    go_wp2_with (first
      | (go_at_call 21; refine hc.mono ?_; rintro e w1 ⟨rfl, hb1⟩)
      | (go_at_call 75; refine (hcu _ hb1).mono ?_; rintro e w4 ⟨v2, rfl, ho2, hb7, hn2⟩; have hb8 := ext_trans hb1 hb7; have hsx := ho2.slat encG_len; obtain ⟨A2, c2, rfl⟩ := ho2.slice))
    have hsn := hsw.ext hb8
    clear hcu hsw hc
    go_loopw [16, 5] (fun i o wr => ∃ k : Nat, k ≤ xs.length ∧ i = .int .i64 k ∧ Below w4.heap.size w4 wr ∧ Own encS 1 w4.heap.size 9 wr o (pickN (overP l xs) l k) ∧ Hid (pickN (overP l xs) l k = [] → o = .slice none 0 0)) (fun i _ _ => xs.length - (intOf i).toNat)
    case atStart => exact ⟨0, Nat.zero_le _, rfl, Below.refl _ _, Own.nil _, fun _ => rfl⟩
    case round =>
      obtain ⟨k, hk, rfl, hb0, ho, hnil⟩ := hrel
      by_cases hlt : k < xs.length
      · have hsz := hb0.size
        have hkl : k < l.length := by have := HEL.out; omega
        obtain ⟨A1', c1', e1', _, _, hr1⟩ := hsn
        obtain ⟨b1, o1, rfl, hbb1, hcell1⟩ := hr1 (by omega)
        cases e1'
        obtain ⟨A1', c1', e1', _, _, hr3⟩ := hsx
        obtain ⟨b3, o3, rfl, hbb3, hcell3⟩ := hr3 (by omega)
        cases e1'
        have hx1 : l[k]? = some (l.getD k default) := by rw [List.getD_eq_getElem?_getD, List.getElem?_eq_getElem hkl]; rfl
        have hst := pickN_succ (overP l xs) l k
        have hpl := pickN_len (overP l xs) l k
        have hpk : overP l xs k = (decide (0 < k) && decide ((l.getD k default).lim < sqG (xs.getD k (0, 0)))) := rfl
        obtain ⟨x, hx3, hx4, ⟨q1, q2⟩, ⟨q3, q4⟩⟩ := hb k hkl
        rw [hx4] at hpk
        have n0 := ext_cell hb0 (hcell1 k _ hx1 0 _ rfl)
        have n4 := ext_cell hb0 (hcell1 k _ hx1 4 _ rfl)
        have x0 := ext_cell hb0 (hcell3 k _ hx3 0 _ rfl)
        have x1 := ext_cell hb0 (hcell3 k _ hx3 1 _ rfl)
        rw [Nat.add_zero] at n0 x0
        clear hx1 hx3 hx4 hcell1 hcell3 hr1 hr3 hb
        generalize l.getD k default = nd at hst n0 n4 hpk
        have hsq : sqG x = x.1 * x.1 + x.2 * x.2 := rfl
        rw [hsq] at hpk
        generalize overP l xs k = pk at hst hpk
        generalize pickN (overP l xs) l k = ys at ho hnil hst hpl
        have HST := Lib.hid hst
        have HPK := Lib.hid hpk
        clear hst hpk hsq
        go_wp2
        generalize hW : World.alloc wr _ = W
        have hbW : Below wr.heap.size wr W := by rw [← hW]; exact ext_alloc _ _
        have cW0 : W.cell? ⟨wr.heap.size, 0, none⟩ = some (.int .i64 x.1) := by rw [← hW]; simp [World.cell?_alloc_new]
        have cW1 : W.cell? ⟨wr.heap.size, 1, none⟩ = some (.int .i64 x.2) := by rw [← hW]; simp [World.cell?_alloc_new]
        clear hW
        have k0 := ext_cell hbW n4
        have k1 := ext_cell hbW n0
        have hoW := ho.ext hbW
        have dB0 : Below W.heap.size W W := Below.refl _ _
        cases hk0 : decide (0 < k)
        · skip
          refine wp_region_plan (fun w' => w'.cell? ⟨wr.heap.size, 0, none⟩ = some (.int .i64 x.1) ∧ w'.cell? ⟨wr.heap.size, 1, none⟩ = some (.int .i64 x.2) ∧ w'.cell? ⟨b1, o1 + k * 7 + 4, none⟩ = some (.int .i64 nd.lim) ∧ Below W.heap.size W w') [4] [0, 1, 2, 3, 5, 6, 7, 8, 9, 4, 10, 11] (by kernel_rfl) (by kernel_rfl) (by ((first | assumption | exact keep3 (by assumption) (by assumption) | exact keep3 (by assumption) (ext_alloc _ _) | exact keep3 (by assumption) (ext_drew _) | exact keep3 ⟨by assumption, by assumption, by assumption, by assumption⟩ (ext_drew _) | go_keep))) (fun hSw => ?_)
          repeat (first
            | (refine wpPlan_pas rfl rfl (fun K hK => ?_)
               apply Exists.intro
               refine ⟨?_, ?_⟩
               · first | exact pasOk_no rfl | (apply pasOk_yes rfl; intro wS hS; obtain ⟨s0, s1, s2, s3⟩ := hS; go_simp; first | done | exact rfl | ((try simp only [↓IntWalk.iteOmega]); (try go_bits); (try go_simp); first | done | exact rfl))
               go_simp
               refine hK _ ?_
               clear hK K)
            | (refine wpPlan_no rfl rfl rfl (by assumption) (fun K hK => ?_)
               go_simp
               refine hK _ ?_
               clear hK K)
            | (refine wpPlan_act rfl rfl rfl (fun K hK => ?_)
               go_wp2_with (first | (go_at_call 108; refine (square_any x.1 x.2 _ (by omega) (by omega) (by omega) (by omega)).mono ?_; rintro e w5 ⟨rfl, hb5⟩))
               refine OnlyK.go (hK _ _ (by ((first | assumption | exact keep3 (by assumption) (by assumption) | exact keep3 (by assumption) (ext_alloc _ _) | exact keep3 (by assumption) (ext_drew _) | exact keep3 ⟨by assumption, by assumption, by assumption, by assumption⟩ (ext_drew _) | go_keep))) (fun hSw => ?_))
               clear hK K))
          refine wpPlan_nil ?_
          have hbS := ext_trans hbW (held3 hSw)
          have hbT := ext_trans hb0 hbS
          have ho1 := ho.ext hbS
          have k2' := ext_cell (held3 hSw) k1
          go_wp2
          go_roundw
          case rel => exact ⟨k + 1, by omega, by go_num, hbT, by rw [HST.out, HPK.out, hk0]; simpa using ho1, fun h => by rw [HST.out, HPK.out, hk0] at h; exact hnil.out (by simpa using h)⟩
          case measure => simp [intOf]; omega
        · cases hq3 : decide (nd.lim < x.1 * x.1 + x.2 * x.2)
          · skip
            refine wp_region_plan (fun w' => w'.cell? ⟨wr.heap.size, 0, none⟩ = some (.int .i64 x.1) ∧ w'.cell? ⟨wr.heap.size, 1, none⟩ = some (.int .i64 x.2) ∧ w'.cell? ⟨b1, o1 + k * 7 + 4, none⟩ = some (.int .i64 nd.lim) ∧ Below W.heap.size W w') [4] [0, 1, 2, 3, 5, 6, 7, 8, 9, 4, 10, 11] (by kernel_rfl) (by kernel_rfl) (by ((first | assumption | exact keep3 (by assumption) (by assumption) | exact keep3 (by assumption) (ext_alloc _ _) | exact keep3 (by assumption) (ext_drew _) | exact keep3 ⟨by assumption, by assumption, by assumption, by assumption⟩ (ext_drew _) | go_keep))) (fun hSw => ?_)
            repeat (first
              | (refine wpPlan_pas rfl rfl (fun K hK => ?_)
                 apply Exists.intro
                 refine ⟨?_, ?_⟩
                 · first | exact pasOk_no rfl | (apply pasOk_yes rfl; intro wS hS; obtain ⟨s0, s1, s2, s3⟩ := hS; go_simp; first | done | exact rfl | ((try simp only [↓IntWalk.iteOmega]); (try go_bits); (try go_simp); first | done | exact rfl))
                 go_simp
                 refine hK _ ?_
                 clear hK K)
              | (refine wpPlan_no rfl rfl rfl (by assumption) (fun K hK => ?_)
                 go_simp
                 refine hK _ ?_
                 clear hK K)
              | (refine wpPlan_act rfl rfl rfl (fun K hK => ?_)
                 go_wp2_with (first | (go_at_call 108; refine (square_any x.1 x.2 _ (by omega) (by omega) (by omega) (by omega)).mono ?_; rintro e w5 ⟨rfl, hb5⟩))
                 refine OnlyK.go (hK _ _ (by ((first | assumption | exact keep3 (by assumption) (by assumption) | exact keep3 (by assumption) (ext_alloc _ _) | exact keep3 (by assumption) (ext_drew _) | exact keep3 ⟨by assumption, by assumption, by assumption, by assumption⟩ (ext_drew _) | go_keep))) (fun hSw => ?_))
                 clear hK K))
            refine wpPlan_nil ?_
            have hbS := ext_trans hbW (held3 hSw)
            have hbT := ext_trans hb0 hbS
            have ho1 := ho.ext hbS
            have k2' := ext_cell (held3 hSw) k1
            go_wp2
            go_roundw
            case rel => exact ⟨k + 1, by omega, by go_num, hbT, by rw [HST.out, HPK.out, hq3]; simpa using ho1, fun h => by rw [HST.out, HPK.out, hq3] at h; exact hnil.out (by simpa using h)⟩
            case measure => simp [intOf]; omega
          · skip
            refine wp_region_plan (fun w' => w'.cell? ⟨wr.heap.size, 0, none⟩ = some (.int .i64 x.1) ∧ w'.cell? ⟨wr.heap.size, 1, none⟩ = some (.int .i64 x.2) ∧ w'.cell? ⟨b1, o1 + k * 7 + 4, none⟩ = some (.int .i64 nd.lim) ∧ Below W.heap.size W w') [4] [0, 1, 2, 3, 5, 6, 7, 8, 9, 4, 10, 11] (by kernel_rfl) (by kernel_rfl) (by ((first | assumption | exact keep3 (by assumption) (by assumption) | exact keep3 (by assumption) (ext_alloc _ _) | exact keep3 (by assumption) (ext_drew _) | exact keep3 ⟨by assumption, by assumption, by assumption, by assumption⟩ (ext_drew _) | go_keep))) (fun hSw => ?_)
            repeat (first
              | (refine wpPlan_pas rfl rfl (fun K hK => ?_)
                 apply Exists.intro
                 refine ⟨?_, ?_⟩
                 · first | exact pasOk_no rfl | (apply pasOk_yes rfl; intro wS hS; obtain ⟨s0, s1, s2, s3⟩ := hS; go_simp; first | done | exact rfl | ((try simp only [↓IntWalk.iteOmega]); (try go_bits); (try go_simp); first | done | exact rfl))
                 go_simp
                 refine hK _ ?_
                 clear hK K)
              | (refine wpPlan_no rfl rfl rfl (by assumption) (fun K hK => ?_)
                 go_simp
                 refine hK _ ?_
                 clear hK K)
              | (refine wpPlan_act rfl rfl rfl (fun K hK => ?_)
                 go_wp2_with (first | (go_at_call 108; refine (square_any x.1 x.2 _ (by omega) (by omega) (by omega) (by omega)).mono ?_; rintro e w5 ⟨rfl, hb5⟩))
                 refine OnlyK.go (hK _ _ (by ((first | assumption | exact keep3 (by assumption) (by assumption) | exact keep3 (by assumption) (ext_alloc _ _) | exact keep3 (by assumption) (ext_drew _) | exact keep3 ⟨by assumption, by assumption, by assumption, by assumption⟩ (ext_drew _) | go_keep))) (fun hSw => ?_))
                 clear hK K))
            refine wpPlan_nil ?_
            have hbS := ext_trans hbW (held3 hSw)
            have hbT := ext_trans hb0 hbS
            have ho1 := ho.ext hbS
            have k2' := ext_cell (held3 hSw) k1
            have hbTs := hbT.size
            go_wp2_with (at_builtin; refine own_append (w0 := w4) rfl _ _ 25 (.string ByteArray.empty) 16 rfl Tryz.underlying25 infoS rfl (by decide) (by decide) encS_len _ ys nd.name _ rfl rfl rfl (by simp [encS, Value.oneCell']) ho1 hbT hbTs (by omega) ?_; intro v1 w5 hown hbv hgv hnn)
            go_roundw
            case rel => exact ⟨k + 1, by omega, by go_num, hbv, by rw [HST.out, HPK.out, hq3, hk0]; exact hown, fun h => by rw [HST.out, HPK.out, hq3, hk0] at h; simp at h⟩
            case measure => simp [intOf]; omega
      · obtain rfl : k = xs.length := by omega
        go_wp2
        go_ret2
        refine ⟨_, rfl, ?_, hb8.trans (hb0.mono hb8.size), ?_⟩
        · rw [HLN.out]; rw [HEL.out] at ho; exact ho.mono hb8.size
        · rw [HLN.out]; rw [HEL.out] at hnil; exact hnil.out
  · have he : e1 ≠ 0 := by simpa using hq
    rw [if_pos he]
    clear hz he
    go_wp2_with (go_at_call 21; refine hc.mono ?_; rintro e w1 ⟨rfl, hb1⟩)
    go_ret2
    exact ⟨_, rfl, Own.nil _, hb1, fun _ => rfl⟩
end Go.Proofs.YtlogjgmfkjjhjaaGreatDoor
