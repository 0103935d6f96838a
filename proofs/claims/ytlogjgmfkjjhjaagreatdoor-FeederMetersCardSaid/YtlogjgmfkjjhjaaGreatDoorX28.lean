/-
  feeder.Located with its closures.
  The document's example as lists: what the functions of the feeder compute of it.
-/
import Derived.Test.YtlogjgmfkjjhjaaGreatDoorX18
import Derived.Test.YtlogjgmfkjjhjaaGreatDoorX19
import Derived.Test.YtlogjgmfkjjhjaaGreatDoorX10
import Derived.Test.YtlogjgmfkjjhjaaGreatDoorX09
import Derived.Test.YtlogjgmfkjjhjaaGreatDoorX20
import Derived.Test.YtlogjgmfkjjhjaaGreatDoorX24
import Derived.Test.YtlogjgmfkjjhjaaGreatDoorX25
import Derived.Test.YtlogjgmfkjjhjaaGreatDoorX26
import Derived.Test.YtlogjgmfkjjhjaaGreatDoorX27
set_option linter.unusedSimpArgs false
set_option linter.unusedVariables false
namespace Go.Proofs.YtlogjgmfkjjhjaaGreatDoor
open Go.RowKit

theorem loc11_any (r : Rl) (s : ByteArray) (a : Addr) (w : World) (hc : w.cell? a = some (.string s)) :
    Calls Tryz.prog 116 #[.agg (encR r).toArray, .pointer (some a)] w fun e w' => e = .returned (.bool (decide (r.name = s))) ∧ Below w.heap.size w w' := by
  have hb := World.block_lt_of_cell? w a hc
  unfold encR Rl.pv
  go_enter Tryz.func116, Tryz.ntmps116
  go_wp2
  go_ret
  exact ⟨by simp [beq_str], by (repeat (first | exact Below.refl _ _ | assumption | refine Below.drew ?_ | refine Below.alloc ?_ (by simp <;> omega) _ | refine Below.alloc ?_ (by simp) _ | refine Below.setCell ?_ (by simp) _))⟩
theorem loc1_any (lb : Nat) (v : Value) (rels : List Rl) (s : ByteArray) (w : World) (hc : w.cell? ⟨lb, 1, none⟩ = some v) (hs : SlAt encR 3 w v rels) :
    Calls Tryz.prog 114 #[.string s, .pointer (some ⟨lb, 0, none⟩)] w fun e w' => e = .returned (.bool (rels.any fun r => decide (r.name = s))) ∧ Below w.heap.size w w' := by
  have hcall := containsFuncR (fun r => decide (r.name = s)) 116 #[.pointer (some ⟨w.heap.size, 0, none⟩)] (enters_of Tryz.func116 (by kernel_rfl) rfl) rels v (w.alloc (.cells #[.string s] 9)) (hs.alloc _)
    (fun W x _ hb => loc11_any x s _ W (ext_cell hb (by simp)))
  obtain ⟨A, n, c, rfl⟩ := hs.isSlice
  clear hs
  have hc' := fun o => ext_cell (ext_alloc w o) hc
  go_enter Tryz.func114, Tryz.ntmps114
  go_wp2_with (go_at_call 115; refine hcall.mono ?_; rintro e w' ⟨rfl, hb'⟩)
  go_ret
  exact ⟨rfl, ext_trans (ext_alloc _ _) hb'⟩
theorem loc2_any (lb : Nat) (v : Value) (seen : List ByteArray) (t : Tp) (w : World) (hc : w.cell? ⟨lb, 0, none⟩ = some v) (hs : SlAt encS 1 w v seen) :
    Calls Tryz.prog 118 #[.agg (encT t).toArray, .pointer (some ⟨lb, 0, none⟩)] w fun e w' => e = .returned (.bool (!hasS seen t.rel.name)) ∧ Below w.heap.size w w' := by
  have hct := fun (W : World) (hW : Below w.heap.size w W) => containsS_any seen v t.rel.name W (hs.ext hW)
  unfold encT Rl.pv
  obtain ⟨A, n, c, rfl⟩ := hs.isSlice
  clear hs
  have hc' := fun o => ext_cell (ext_alloc w o) hc
  go_enter Tryz.func118, Tryz.ntmps118
  go_wp2_with (go_at_call 119; refine (hct _ (ext_alloc _ _)).mono ?_; rintro e w' ⟨rfl, rfl⟩)
  go_ret
  exact ⟨rfl, ext_alloc _ _⟩

def locE (g : Gr) (seen : List ByteArray) : Int := namesErr (fun s => g.rels.any fun r => decide (r.name = s)) seen
def locB (ts : List Tp) (seen : List ByteArray) : Bool := decide (ts.length = seen.length) && !(ts.any fun t => !hasS seen t.rel.name)
def locN (g : Gr) (seen : List ByteArray) : List ByteArray := pickN (fun i => locB (tripsN g (g.nodes.getD i default).name) seen) g.nodes g.nodes.length
def locatedR (g : Gr) (seen : List ByteArray) : List ByteArray × Int := if gridV g ≠ 0 then ([], gridV g) else if locE g seen ≠ 0 then ([], locE g seen) else (locN g seen, 0)

set_option maxHeartbeats 8000000 in
theorem Located_any (g : Gr) (seen : List ByteArray) (vs : Value) (w : World) (hg : GrAt w g) (h12 : g.rels.length ≤ 12) (hf : SlAt encS 1 w vs seen) :
    Calls Tryz.prog 64 #[.agg (encGr g).toArray, vs] w (Ret2 encS 1 9 (locatedR g seen) w) := by
  have hck := fun W hW => gridCheck_any g W (hg.ext hW)
  have htr := fun (h0 : gridV g = 0) (W : World) (hW : Below w.heap.size w W) (s : ByteArray) => trips_any g s W (hg.ext hW) (gridV_zero h0).1 h12 (gridV_zero h0).2.2.1 (by have := (gridV_zero h0).2.2.2; omega)
  have htl := tripsN_len g
  have hgd := fun (h0 : gridV g = 0) => (gridV_zero h0).1
  have hrl := hg.rels
  have hfn := fun (W : World) (hc : W.cell? ⟨w.heap.size, 1, none⟩ = some g.rv) (hW : Below w.heap.size w W) => checkNames_any (lb := #[.pointer (some ⟨w.heap.size, 0, none⟩)]) (fun s => g.rels.any fun r => decide (r.name = s)) _ (enters_of Tryz.func114 (by kernel_rfl) rfl) seen vs W (hf.ext hW)
    (fun W' x _ hb => loc1_any w.heap.size g.rv g.rels x W' (ext_cell hb hc) (hrl.ext (ext_trans hW hb)))
  have hcf := fun (W : World) (v : Value) (ts : List Tp) (hc : W.cell? ⟨w.heap.size + 1, 0, none⟩ = some vs) (hW : Below w.heap.size w W) (hv : SlAt encT 6 W v ts) =>
    containsFuncT (fun t => !hasS seen t.rel.name) 118 #[.pointer (some ⟨w.heap.size + 1, 0, none⟩)] (enters_of Tryz.func118 (by kernel_rfl) rfl) ts v W hv
      (fun W' x _ hb => loc2_any (w.heap.size + 1) vs seen x W' (ext_cell hb hc) (hf.ext (ext_trans hW hb)))
  have hV : locatedR g seen = if gridV g ≠ 0 then ([], gridV g) else if namesErr (fun s => g.rels.any fun r => decide (r.name = s)) seen ≠ 0 then ([], namesErr (fun s => g.rels.any fun r => decide (r.name = s)) seen) else (pickN (fun i => locB (tripsN g (g.nodes.getD i default).name) seen) g.nodes g.nodes.length, 0) := rfl
  rw [hV]
  clear hV
  have hnd := hg.nodes
  obtain ⟨As, ns, cs, hvs⟩ := hf.isSlice
  have hns : ns = seen.length := by obtain ⟨_, _, ee, _⟩ := hf; rw [hvs] at ee; cases ee; rfl
  subst hns
  subst hvs
  clear hf hrl
  generalize gridV g = e0 at hck htr hgd ⊢
  generalize namesErr (fun s => g.rels.any fun r => decide (r.name = s)) seen = e1 at hfn ⊢
  generalize hS : (fun s => tripsN g s) = S
  have hS2 : ∀ s, tripsN g s = S s := fun s => by rw [← hS]
  simp only [hS2] at htr htl ⊢
  clear hS hS2
  unfold encGr at hck htr ⊢
  obtain ⟨nv, nodes, rv, rels, st⟩ := g
  simp only at hck htr hfn hnd h12 hgd htl ⊢
  have hnw := hnd
  obtain ⟨A, c, rfl, hc1, hc2, hr⟩ := hnd
  obtain ⟨A', n', c', rfl⟩ := hg.rels.isSlice
  clear hg
  have hbW : Below w.heap.size w ((w.alloc (.cells #[.slice A nodes.length c, .slice A' n' c', .int .i64 st] 67)).alloc (.cells #[.slice As seen.length cs] 25)) := by (repeat (first | exact Below.refl _ _ | assumption | refine Below.drew ?_ | refine Below.alloc ?_ (by simp <;> omega) _ | refine Below.alloc ?_ (by simp) _ | refine Below.setCell ?_ (by simp) _))
  have x0 := (BoxC.new w 67 #[.slice A nodes.length c, .slice A' n' c', .int .i64 st]).alloc (.cells #[.slice As seen.length cs] 25)
  have x1 := BoxC.new (w.alloc (.cells #[.slice A nodes.length c, .slice A' n' c', .int .i64 st] 67)) 25 #[.slice As seen.length cs]
  rw [World.size_alloc] at x1
  have p0 := x0.cell 0 _ rfl
  have p1 := x0.cell 1 _ rfl
  have p2 := x0.cell 2 _ rfl
  have p3 := x1.cell 0 _ rfl
  clear x0 x1
  go_enter Tryz.func64, Tryz.ntmps64
  cases hq : (e0 != 0)
  · obtain rfl : e0 = 0 := by simpa using hq
    have htr2 := fun W hW s => htr rfl W hW s
    have hgd2 := hgd rfl
    have hln := hgd2.len1
    clear htr hgd hgd2
    rw [if_neg (by simp)]
    cases hq1 : (e1 != 0)
    · obtain rfl : e1 = 0 := by simpa using hq1
      rw [if_neg (by simp)]
      go_wp2_with (first
        | (go_at_call 111; refine (hck _ hbW).mono ?_; rintro e wA ⟨rfl, hbA⟩; have hbB := ext_trans hbW hbA; have q0 := ext_cell hbA p0; have q1 := ext_cell hbA p1; have q2 := ext_cell hbA p2; have q3 := ext_cell hbA p3)
        | (go_at_call 113; refine (hfn _ q1 hbB).mono ?_; rintro e w4 ⟨rfl, hbC⟩; have hbB2 := ext_trans hbB hbC; have y0 := ext_cell hbC q0; have y1 := ext_cell hbC q1; have y2 := ext_cell hbC q2; have y3 := ext_cell hbC q3))
      clear hck hfn p0 p1 p2 p3 q0 q1 q2 q3 hbA hbB hbC
      go_loopw [27, 8] (fun i o wr => ∃ k : Nat, k ≤ nodes.length ∧ i = .int .i64 k ∧ Below w4.heap.size w4 wr ∧ Own encS 1 w4.heap.size 9 wr o (pickN (fun i => locB (S (nodes.getD i default).name) seen) nodes k) ∧ Hid (pickN (fun i => locB (S (nodes.getD i default).name) seen) nodes k = [] → o = .slice none 0 0)) (fun i _ _ => nodes.length - (intOf i).toNat)
      case atStart => exact ⟨0, Nat.zero_le _, rfl, Below.refl _ _, Own.nil _, fun _ => rfl⟩
      case round =>
        obtain ⟨k, hk, rfl, hb, ho, hnil⟩ := hrel
        by_cases hlt : k < nodes.length
        · obtain ⟨b1, o1, rfl, hbl, hcell⟩ := hr (by omega)
          have hx : nodes[k]? = some (nodes.getD k default) := by rw [List.getD_eq_getElem?_getD, List.getElem?_eq_getElem hlt]; rfl
          have hst : pickN (fun i => locB (S (nodes.getD i default).name) seen) nodes (k + 1) = pickN (fun i => locB (S (nodes.getD i default).name) seen) nodes k ++ (if locB (S (nodes.getD k default).name) seen = true then [(nodes.getD k default).name] else []) := pickN_succ _ nodes k
          have hpl := pickN_len (fun i => locB (S (nodes.getD i default).name) seen) nodes k
          have hbw := ext_trans hbB2 hb
          have hsc := fun W hW => htr2 W hW (nodes.getD k default).name
          have hsl := htl (nodes.getD k default).name
          obtain ⟨c0, c1, c2, c3, c4, c5, c6⟩ := nodeCells (fun i u hu => ext_cell hbw (hcell k _ hx i u hu))
          have z0 := fun o => ext_cell (hb.alloc hb.size o) y0
          have z1 := fun o => ext_cell (hb.alloc hb.size o) y1
          have z2 := fun o => ext_cell (hb.alloc hb.size o) y2
          have z3 := fun o => ext_cell (hb.alloc hb.size o) y3
          generalize nodes.getD k default = x at hst hsc hsl c0 c1 c2 c3 c4 c5 c6
          generalize hts : S x.name = ts at hst hsc hsl
          have hcf2 := fun W v hc hW hv => hcf W v ts hc hW hv
          have hbe : locB ts seen = (decide (ts.length = seen.length) && !(ts.any fun t => !hasS seen t.rel.name)) := rfl
          rw [hbe] at hst
          clear hts hbe
          generalize (ts.any fun t => !hasS seen t.rel.name) = str at hst hcf2
          have hsz := hb.size
          have hbX := hb.alloc hsz (.cells #[.string x.name, .string x.parent, .int .i64 x.re, .int .i64 x.im, .int .i64 x.lim, .int .i64 x.cre, .int .i64 x.cim] 125)
          have hbY := hbw.alloc hbw.size (.cells #[.string x.name, .string x.parent, .int .i64 x.re, .int .i64 x.im, .int .i64 x.lim, .int .i64 x.cre, .int .i64 x.cim] 125)
          have u0 := (BoxC.new wr 125 #[.string x.name, .string x.parent, .int .i64 x.re, .int .i64 x.im, .int .i64 x.lim, .int .i64 x.cre, .int .i64 x.cim]).cell 0 _ rfl
          have z3' := z3 (.cells #[.string x.name, .string x.parent, .int .i64 x.re, .int .i64 x.im, .int .i64 x.lim, .int .i64 x.cre, .int .i64 x.cim] 125)
          have hoX := ho.alloc (.cells #[.string x.name, .string x.parent, .int .i64 x.re, .int .i64 x.im, .int .i64 x.lim, .int .i64 x.cre, .int .i64 x.cim] 125)
          have HST := Lib.hid hst
          have HPL := Lib.hid hpl
          clear hst hpl hx hcell hr hcf
          generalize pickN (fun i => locB (S (nodes.getD i default).name) seen) nodes k = ys at ho hoX hnil HST HPL
          have hil : ((ts.length : Int) == (seen.length : Int)) = decide (ts.length = seen.length) := by by_cases h : ts.length = seen.length <;> simp [h] <;> omega
          cases hq2 : decide (ts.length = seen.length)
          · have hs2 := HST.out
            rw [hq2] at hs2 hil
            have HS2 := Lib.hid hs2
            clear hs2 hq2
            go_wp2_with (first
              | (go_at_call 93; refine (hsc _ hbY).mono ?_; rintro e w5 ⟨v5, rfl, hs5, hb5⟩; have hb6 := ext_trans hbX hb5; have hb6y := ext_trans hbY hb5; have ho6 := hoX.ext hb5; have u1 := ext_cell hb5 u0; have z4 := ext_cell hb5 z3'; obtain ⟨A5, n5, c5, hv5⟩ := hs5.isSlice; subst hv5; have hn5 := hs5.len.1; subst hn5)
              | (go_at_call 117; refine (hcf2 _ _ z4 hb6y hs5).mono ?_; rintro e w7 ⟨rfl, hb7⟩; have hb8 := ext_trans hb6 hb7; have ho8 := ho6.ext hb7; have u2 := ext_cell hb7 u1; have z5 := ext_cell hb7 z4))
            go_roundw
            case rel => exact ⟨k + 1, by omega, by go_num, hb8, by rw [HS2.out]; simpa using ho8, fun h => by rw [HS2.out] at h; exact hnil.out (by simpa using h)⟩
            case measure => simp [intOf]; omega
          · have hs2 := HST.out
            rw [hq2] at hs2 hil
            have hls : ts.length = seen.length := by simpa using hq2
            clear hq2
            cases str
            · have HS2 := Lib.hid hs2
              clear hs2 hls
              go_wp2_with (first
                | (go_at_call 93; refine (hsc _ hbY).mono ?_; rintro e w5 ⟨v5, rfl, hs5, hb5⟩; have hb6 := ext_trans hbX hb5; have hb6y := ext_trans hbY hb5; have ho6 := hoX.ext hb5; have u1 := ext_cell hb5 u0; have z4 := ext_cell hb5 z3'; obtain ⟨A5, n5, c5, hv5⟩ := hs5.isSlice; subst hv5; have hn5 := hs5.len.1; subst hn5)
                | (go_at_call 117; refine (hcf2 _ _ z4 hb6y hs5).mono ?_; rintro e w7 ⟨rfl, hb7⟩; have hb8 := ext_trans hb6 hb7; have hb8s := hb8.size; have ho8 := ho6.ext hb7; have u2 := ext_cell hb7 u1; have z5 := ext_cell hb7 z4)
                | (at_builtin; refine own_append (w0 := w4) rfl _ _ 25 (.string ByteArray.empty) 16 rfl Tryz.underlying25 infoS rfl (by decide) (by decide) encS_len _ ys x.name _ rfl rfl rfl (by simp [encS, Value.oneCell']) ho8 hb8 hb8s (by have := HPL.out; omega) ?_; intro v1 w9 hown hbv hgv hnn))
              go_roundw
              case rel => exact ⟨k + 1, by omega, by go_num, hbv, by rw [HS2.out]; exact hown, fun h => by rw [HS2.out] at h; simp at h⟩
              case measure => simp [intOf]; omega
            · have HS2 := Lib.hid hs2
              clear hs2 hls
              go_wp2_with (first
                | (go_at_call 93; refine (hsc _ hbY).mono ?_; rintro e w5 ⟨v5, rfl, hs5, hb5⟩; have hb6 := ext_trans hbX hb5; have hb6y := ext_trans hbY hb5; have ho6 := hoX.ext hb5; have u1 := ext_cell hb5 u0; have z4 := ext_cell hb5 z3'; obtain ⟨A5, n5, c5, hv5⟩ := hs5.isSlice; subst hv5; have hn5 := hs5.len.1; subst hn5)
                | (go_at_call 117; refine (hcf2 _ _ z4 hb6y hs5).mono ?_; rintro e w7 ⟨rfl, hb7⟩; have hb8 := ext_trans hb6 hb7; have ho8 := ho6.ext hb7; have u2 := ext_cell hb7 u1; have z5 := ext_cell hb7 z4))
              go_roundw
              case rel => exact ⟨k + 1, by omega, by go_num, hb8, by rw [HS2.out]; simpa using ho8, fun h => by rw [HS2.out] at h; exact hnil.out (by simpa using h)⟩
              case measure => simp [intOf]; omega
        · obtain rfl : k = nodes.length := by omega
          go_wp2
          go_ret2
          exact ⟨_, rfl, ho.mono hbB2.size, hbB2.trans (hb.mono hbB2.size), hnil.out⟩
    · rw [if_pos (by simpa using hq1)]
      go_wp2_with (first
        | (go_at_call 111; refine (hck _ hbW).mono ?_; rintro e wA ⟨rfl, hbA⟩; have hbB := ext_trans hbW hbA; have q0 := ext_cell hbA p0; have q1 := ext_cell hbA p1; have q2 := ext_cell hbA p2; have q3 := ext_cell hbA p3)
        | (go_at_call 113; refine (hfn _ q1 hbB).mono ?_; rintro e w4 ⟨rfl, hbC⟩; have hbB2 := ext_trans hbB hbC))
      go_ret2
      exact ⟨_, rfl, Own.nil _, hbB2, fun _ => rfl⟩
  · rw [if_pos (by simpa using hq)]
    go_wp2_with (go_at_call 111; refine (hck _ hbW).mono ?_; rintro e wA ⟨rfl, hbA⟩; have hbB := ext_trans hbW hbA)
    go_ret2
    exact ⟨_, rfl, Own.nil _, hbB, fun _ => rfl⟩
end Go.Proofs.YtlogjgmfkjjhjaaGreatDoor
namespace Go.Proofs.YtlogjgmfkjjhjaaGreatDoor
open Go.RowKit

def treeL : List Nd := [⟨⟨#[114, 111, 111, 116]⟩, ⟨#[]⟩, 0, 0, 0, 0, 0⟩, ⟨⟨#[97]⟩, ⟨#[114, 111, 111, 116]⟩, 2, 1, 500, 10, 0⟩, ⟨⟨#[98]⟩, ⟨#[97]⟩, 1, 2, 50, 6, 8⟩, ⟨⟨#[99]⟩, ⟨#[97]⟩, 3, 0, 100, 0, -2⟩]
def relL (p q r : Option Addr) (i j k : Nat) : List Rl := [⟨⟨#[114]⟩, ⟨#[114, 111, 111, 116]⟩, p, i, [(0, 90)]⟩, ⟨⟨#[115]⟩, ⟨#[97]⟩, q, j, [(10, 60), (40, 30)]⟩, ⟨⟨#[116]⟩, ⟨#[98]⟩, r, k, [(20, 5)]⟩]
def gridL (nv rv : Value) (p q r : Option Addr) (i j k : Nat) (st : Int) : Gr := ⟨nv, treeL, rv, relL p q r i j k, st⟩
theorem x_chain : chainR treeL ⟨#[98]⟩ = ([⟨#[98]⟩, ⟨#[97]⟩, ⟨#[114, 111, 111, 116]⟩], 0) := by kernel_rfl
theorem x_branch : branchR treeL ⟨#[97]⟩ = ([⟨#[97]⟩, ⟨#[98]⟩, ⟨#[99]⟩], 0) := by kernel_rfl
theorem x_currents : currentsR treeL = ([(16, 6), (16, 6), (6, 8), (0, -2)], 0) := by kernel_rfl
theorem x_volt : voltagesR treeL (1000, 0) = ([(1000, 0), (1026, 28), (1016, 48), (1026, 22)], 0) := by kernel_rfl
theorem x_loss : lossesR treeL = ([0, 584, 100, 12], 0) := by kernel_rfl
theorem x_power : powerR treeL (1000, 0) = (16000, 696, 0) := by kernel_rfl
theorem x_over : overR treeL = ([⟨#[98]⟩], 0) := by kernel_rfl
theorem x_encl : enclosedR treeL [(0, 0), (9, 11), (5, 7), (-1, 1)] = ([(13, 19), (13, 19), (5, 7), (-1, 1)], 0) := by kernel_rfl
theorem x_agree : agreeR treeL [(0, 0), (9, 11), (5, 7), (-1, 1)] [(13, 13), (20, 21), (5, 7), (1, 9)] = ([⟨#[97]⟩], 0) := by kernel_rfl
theorem x_level : levelR treeL 120 ⟨#[98]⟩ = (17, 0) := by kernel_rfl
theorem x_cc1 : checkCurV treeL [(16, 6), (16, 6), (6, 8), (0, -2)] = 0 := by kernel_rfl
theorem x_cc2 : checkCurV treeL [(16, 6), (16, 6), (6, 8), (0, 2)] = 19 := by kernel_rfl
theorem x_trips (nv rv : Value) (p q r : Option Addr) (i j k : Nat) : tripsR (gridL nv rv p q r i j k 120) ⟨#[98]⟩ = ([(⟨#[115]⟩, 60), (⟨#[114]⟩, 90)], 0) := by kernel_rfl
theorem x_open1 (nv rv : Value) (p q r : Option Addr) (i j k : Nat) : opensR (gridL nv rv p q r i j k 140) ⟨#[98]⟩ [] = ((⟨#[116]⟩, 5), 0) := by kernel_rfl
theorem x_open2 (nv rv : Value) (p q r : Option Addr) (i j k : Nat) : opensR (gridL nv rv p q r i j k 140) ⟨#[98]⟩ [⟨#[98]⟩] = ((⟨#[115]⟩, 60), 0) := by kernel_rfl
theorem x_dead1 (nv rv : Value) (p q r : Option Addr) (i j k : Nat) : deadR (gridL nv rv p q r i j k 140) ⟨#[98]⟩ [⟨#[98]⟩] = ([⟨#[97]⟩, ⟨#[98]⟩, ⟨#[99]⟩], 0) := by kernel_rfl
theorem x_dead2 (nv rv : Value) (p q r : Option Addr) (i j k : Nat) : deadR (gridL nv rv p q r i j k 140) ⟨#[98]⟩ [⟨#[98]⟩, ⟨#[97]⟩] = ([⟨#[114, 111, 111, 116]⟩, ⟨#[97]⟩, ⟨#[98]⟩, ⟨#[99]⟩], 0) := by kernel_rfl
theorem x_uns1 (nv rv : Value) (p q r : Option Addr) (i j k : Nat) : ((unselR (gridL nv rv p q r i j k 140) 55).1.any fun x => decide ((⟨#[98]⟩ : ByteArray) = x), (unselR (gridL nv rv p q r i j k 140) 55).2) = (false, 0) := by kernel_rfl
theorem x_uns2 (nv rv : Value) (p q r : Option Addr) (i j k : Nat) : ((unselR (gridL nv rv p q r i j k 140) 56).1.any fun x => decide ((⟨#[98]⟩ : ByteArray) = x), (unselR (gridL nv rv p q r i j k 140) 56).2) = (true, 0) := by kernel_rfl
theorem x_loc (nv rv : Value) (p q r : Option Addr) (i j k : Nat) : locatedR (gridL nv rv p q r i j k 120) [⟨#[115]⟩, ⟨#[114]⟩] = ([⟨#[97]⟩, ⟨#[98]⟩, ⟨#[99]⟩], 0) := by kernel_rfl
theorem x_live : liveR treeL [⟨#[97]⟩] = ([⟨#[114, 111, 111, 116]⟩], 0) := by kernel_rfl
theorem x_sw1 : (switchedR treeL [⟨#[99]⟩] [(⟨#[97]⟩, true), (⟨#[99]⟩, false)]).2 = (1, 29) := by kernel_rfl
theorem x_sw2 : switchedR treeL [⟨#[99]⟩] [(⟨#[98]⟩, true)] = ([⟨#[98]⟩, ⟨#[99]⟩], 0, 0) := by kernel_rfl
theorem x_print : printR (treeL.take 2) = (⟨#[110, 111, 100, 101, 32, 114, 111, 111, 116, 32, 45, 32, 48, 32, 48, 32, 48, 32, 48, 32, 48, 10, 110, 111, 100, 101, 32, 97, 32, 114, 111, 111, 116, 32, 50, 32, 49, 32, 53, 48, 48, 32, 49, 48, 32, 48, 10]⟩, 0) := by kernel_rfl
theorem x_parse : parseV ⟨#[110, 111, 100, 101, 32, 114, 111, 111, 116, 32, 45, 32, 48, 32, 48, 32, 48, 32, 48, 32, 48, 10, 110, 111, 100, 101, 32, 97, 32, 114, 111, 111, 116, 32, 50, 32, 49, 32, 53, 48, 48, 32, 49, 48, 32, 48, 10]⟩ = (treeL.take 2, 0, 0) := by kernel_rfl
theorem x_open3 (nv rv : Value) (p q r : Option Addr) (i j k : Nat) : (opensR (gridL nv rv p q r i j k 0) ⟨#[99]⟩ [⟨#[114, 111, 111, 116]⟩]).2 = 7 := by kernel_rfl
end Go.Proofs.YtlogjgmfkjjhjaaGreatDoor
