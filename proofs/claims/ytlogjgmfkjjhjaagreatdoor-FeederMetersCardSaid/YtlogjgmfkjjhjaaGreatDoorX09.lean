/-
  feeder.enclosed: the sums of intervals over branches.
  feeder.enclosed, Enclosed.
  feeder.Agree: the nodes whose meters do not agree.
-/
import Derived.Test.YtlogjgmfkjjhjaaGreatDoorX08
set_option linter.unusedSimpArgs false
set_option linter.unusedVariables false
namespace Go.Proofs.YtlogjgmfkjjhjaaGreatDoor
open Go.RowKit

/-- the interval at a node -/
def atI (l : List Nd) (around : List (Int × Int)) (y : Nd) : Int × Int := around.getD (findI l y.name).toNat (0, 0)
def sumI (l : List Nd) (around : List (Int × Int)) : List Nd → Int × Int
  | [] => (0, 0)
  | y :: r => ((atI l around y).1 + (sumI l around r).1, (atI l around y).2 + (sumI l around r).2)
theorem sumI_append (l : List Nd) (around : List (Int × Int)) (a b : List Nd) : sumI l around (a ++ b) = ((sumI l around a).1 + (sumI l around b).1, (sumI l around a).2 + (sumI l around b).2) := by
  induction a with
  | nil => simp [sumI]
  | cons x r ih => simp [sumI, ih]; constructor <;> omega
theorem sumI_take (l : List Nd) (around : List (Int × Int)) (xs : List Nd) (k : Nat) (h : k < xs.length) : sumI l around (xs.take (k + 1)) = ((sumI l around (xs.take k)).1 + (atI l around xs[k]).1, (sumI l around (xs.take k)).2 + (atI l around xs[k]).2) := by
  rw [List.take_succ_eq_append_getElem h, sumI_append]; simp [sumI]
/-- all ends are at most m -/
def EndLe (m : Int) (l : List (Int × Int)) : Prop := ∀ x ∈ l, -m ≤ x.1 ∧ x.1 ≤ m ∧ -m ≤ x.2 ∧ x.2 ≤ m
theorem atI_le {m : Int} (hm : 0 ≤ m) {l : List Nd} {around : List (Int × Int)} (h : EndLe m around) (y : Nd) : -m ≤ (atI l around y).1 ∧ (atI l around y).1 ≤ m ∧ -m ≤ (atI l around y).2 ∧ (atI l around y).2 ≤ m := by
  unfold atI
  rw [List.getD_eq_getElem?_getD]
  cases hq : around[(findI l y.name).toNat]? with
  | none => simp; omega
  | some z => exact h z (List.mem_of_getElem? hq)
theorem sumI_le {m : Int} (hm : 0 ≤ m) {l : List Nd} {around : List (Int × Int)} (h : EndLe m around) : ∀ (xs : List Nd), -(m * xs.length) ≤ (sumI l around xs).1 ∧ (sumI l around xs).1 ≤ m * xs.length ∧ -(m * xs.length) ≤ (sumI l around xs).2 ∧ (sumI l around xs).2 ≤ m * xs.length
  | [] => by simp [sumI]
  | x :: r => by
    obtain ⟨h1, h2, h3, h4⟩ := atI_le hm h (l := l) x
    obtain ⟨g1, g2, g3, g4⟩ := sumI_le hm h (l := l) r
    simp only [sumI, List.length_cons, Int.natCast_add, Int.mul_add]
    simp only [Int.natCast_one, Int.mul_one]
    omega
def enclosedN (l : List Nd) (around : List (Int × Int)) (x : Nd) : Int × Int := sumI l around (branchN l x.name)

theorem RowC.set1 {b : Nat} {w : World} {z : Int × Int} (h : RowC encG 2 b 0 w [z]) (u v : Int) : RowC encG 2 b 0 ((w.setCell ⟨b, 0, none⟩ (.int .i64 u)).setCell ⟨b, 1, none⟩ (.int .i64 v)) [(u, v)] := RowC.set encG_len h (i := 0) (by simp) (u, v)

theorem sizeIv : (Tryz.prog.info? 105).map (·.size) = some 2 := by kernel_rfl
set_option maxHeartbeats 8000000 in
theorem enclosed1_any (lb ab : Nat) (v va : Value) (l : List Nd) (around : List (Int × Int)) (hac : Acyc l) (hn : 0 < l.length) (hl : l.length ≤ 1048576) (hal : around.length = l.length) (hae : EndLe 1000000000 around) (hu : ∀ y ∈ l, 0 ≤ findI l y.name) (x : Nd) (w : World) (hcl : w.cell? ⟨lb, 0, none⟩ = some v) (hca : w.cell? ⟨ab, 0, none⟩ = some va) (hs : SlAt encN 7 w v l) (ha : SlAt encG 2 w va around) :
    Calls Tryz.prog 144 #[.agg (encN x).toArray, .pointer (some ⟨lb, 0, none⟩), .pointer (some ⟨ab, 0, none⟩)] w fun e w' => e = .returned (.agg (encG (enclosedN l around x)).toArray) ∧ Below w.heap.size w w' := by
  have hlb := World.block_lt_of_cell? _ _ hcl
  have hlab := World.block_lt_of_cell? _ _ hca
  have hnm := fun W hW => branch_any v l x.name hac hn hl W (hs.ext hW)
  have hbl : (branchN l x.name).length ≤ l.length := List.length_filter_le _ _
  have hcb : ∀ y ∈ branchN l x.name, y ∈ l := fun y hy => (List.mem_filter.1 hy).1
  have hV : enclosedN l around x = sumI l around (branchN l x.name) := rfl
  rw [hV]
  generalize branchN l x.name = ys at hnm hbl hcb
  clear hV hac
  have hsw := hs
  have haw := ha
  obtain ⟨A, c, rfl, hc1, hc2, hr⟩ := hs
  obtain ⟨A', c', rfl, hc1', hc2', hr'⟩ := ha
  clear hr
  have hb3 : Below w.heap.size w (((w.alloc (.cells (encN x).toArray 125)).alloc (.cells (encG (0, 0)).toArray 105)).alloc (.cells (encG (0, 0)).toArray 229)) := by (repeat (first | exact Below.refl _ _ | assumption | refine Below.drew ?_ | refine Below.alloc ?_ (by simp <;> omega) _ | refine Below.alloc ?_ (by simp) _ | refine Below.setCell ?_ (by simp) _))
  have kl := ext_cell hb3 hcl
  have hs2 := RowC.new encG_len ((w.alloc (.cells (encN x).toArray 125)).alloc (.cells (encG (0, 0)).toArray 105)) 229 (0, 0)
  have hs1 := (RowC.new encG_len (w.alloc (.cells (encN x).toArray 125)) 105 (0, 0)).ext (ext_alloc _ (.cells (encG (0, 0)).toArray 229))
  have hz : (((w.alloc (.cells (encN x).toArray 125)).alloc (.cells (encG (0, 0)).toArray 105)).alloc (.cells (encG (0, 0)).toArray 229)).heap.size = w.heap.size + 1 + 1 + 1 := by simp
  have HZ := Lib.hid hz
  have HAL := Lib.hid hal
  simp only [World.size_alloc] at hs1 hs2
  unfold encN at hb3 kl HZ
  unfold encN
  simp only [encG] at hb3 kl HZ
  simp only [encG]
  clear hz hal
  go_enter Tryz.func144, Tryz.ntmps144
  go_wp2_with (go_at_call 73; refine (hnm _ hb3).mono ?_; rintro e w1 ⟨b, cb, rfl, hyc, hyc2, hyb, hrow, hb1⟩; rw [HZ.out] at hyb; have hr2 := hs2.ext hb1; have hr1 := hs1.ext hb1; have hb4 := ext_trans hb3 hb1)
  clear hnm kl
  go_loopw [14] (fun i wr => ∃ k : Nat, k ≤ ys.length ∧ i = .int .i64 k ∧ RowC encN 7 b 0 wr ys ∧ RowC encG 2 (w.heap.size + 1 + 1) 0 wr [sumI l around (ys.take k)] ∧ RowC encG 2 (w.heap.size + 1) 0 wr [(0, 0)] ∧ Below w.heap.size w wr) (fun i _ => ys.length - (intOf i).toNat)
  case atStart => exact ⟨0, Nat.zero_le _, rfl, hrow, hr2, hr1, hb4⟩
  case round =>
    obtain ⟨k, hk, rfl, hrow1, hrs, hre, hbr⟩ := hrel
    clear hb4 hr2 hr1 hrow hs1 hs2 hb3 hb1
    by_cases hlt : k < ys.length
    · have hx : ys[k]? = some ys[k] := List.getElem?_eq_getElem hlt
      have hst := sumI_take l around ys k hlt
      obtain ⟨z1, z2, z3, z4⟩ := sumI_le (m := 1000000000) (by omega) hae (l := l) (ys.take k)
      obtain ⟨x1, x2, x3, x4⟩ := atI_le (m := 1000000000) (by omega) hae (l := l) ys[k]
      have htk : ((ys.take k).length : Int) ≤ 1048576 := by simp; omega
      have hfg := hu _ (hcb _ (List.getElem_mem hlt))
      have hfl := findI_range l ys[k].name
      have hfind := fun W hW => find_any l _ ys[k].name W (hsw.ext hW)
      have hat : around[(findI l ys[k].name).toNat]? = some (atI l around ys[k]) := by
        unfold atI
        rw [List.getD_eq_getElem?_getD, List.getElem?_eq_getElem (by have := HAL.out; omega)]; rfl
      obtain ⟨j, hj⟩ := Int.eq_ofNat_of_zero_le hfg
      rw [hj] at hfl hat hfind
      have hjl : j < around.length := by have := HAL.out; omega
      obtain ⟨ba, offa, rfl, hba, hcella⟩ := hr' (by omega)
      have hat' : around[j]? = some (atI l around ys[k]) := by simpa using hat
      have a0 := hcella j _ hat' 0 _ rfl
      have a1 := hcella j _ hat' 1 _ rfl
      rw [Nat.add_zero] at a0
      clear hfg hat hat' hcella hj
      generalize atI l around ys[k] = za at hst x1 x2 x3 x4 a0 a1
      generalize ys[k] = y at hx hst hfind
      generalize sumI l around (ys.take k) = z at hrs hst z1 z2 z3 z4
      obtain ⟨c0, c1, c2, c3, c4, c5, c6⟩ := hrow1.node0 hx
      have HST := Lib.hid hst
      clear hst hx hfl
      have hbs := hbr.size
      go_wp2
      generalize hW : World.alloc wr _ = W
      have hbW : Below wr.heap.size wr W := by rw [← hW]; exact ext_alloc _ _
      have cW0 : W.cell? ⟨wr.heap.size, 0, none⟩ = some (.string y.name) := by rw [← hW]; simp [World.cell?_alloc_new]
      have cW1 : W.cell? ⟨wr.heap.size, 1, none⟩ = some (.string y.parent) := by rw [← hW]; simp [World.cell?_alloc_new]
      have cW2 : W.cell? ⟨wr.heap.size, 2, none⟩ = some (.int .i64 y.re) := by rw [← hW]; simp [World.cell?_alloc_new]
      have cW3 : W.cell? ⟨wr.heap.size, 3, none⟩ = some (.int .i64 y.im) := by rw [← hW]; simp [World.cell?_alloc_new]
      have cW4 : W.cell? ⟨wr.heap.size, 4, none⟩ = some (.int .i64 y.lim) := by rw [← hW]; simp [World.cell?_alloc_new]
      have cW5 : W.cell? ⟨wr.heap.size, 5, none⟩ = some (.int .i64 y.cre) := by rw [← hW]; simp [World.cell?_alloc_new]
      have cW6 : W.cell? ⟨wr.heap.size, 6, none⟩ = some (.int .i64 y.cim) := by rw [← hW]; simp [World.cell?_alloc_new]
      clear hW
      have hbw := ext_trans hbr hbW
      have hWs : wr.heap.size < W.heap.size := World.block_lt_of_cell? _ _ cW0
      have hrs1 := hrs.ext hbW
      have hre1 := hre.ext hbW
      have hrow2 := hrow1.ext hbW
      have k1 := ext_cell hbw hcl
      have k2 := ext_cell hbw hca
      have k3 := ext_cell hbw a0
      have k4 := ext_cell hbw a1
      have hr80 := RowC.new encG_len W 105 (0, 0)
      have dB0 : Below W.heap.size W W := Below.refl _ _
      have hfd := fun W1 (h : Below W.heap.size W W1) => hfind W1 (ext_trans hbw h)
      clear cW1 cW2 cW3 cW4 cW5 cW6 c0 c1 c2 c3 c4 c5 c6 a0 a1 hfind hcl hca
      refine wp_region_tree (fun w' => w'.cell? ⟨lb, 0, none⟩ = some (.slice A l.length c) ∧ w'.cell? ⟨ab, 0, none⟩ = some (.slice (some ⟨ba, offa, none⟩) around.length c') ∧ w'.cell? ⟨wr.heap.size, 0, none⟩ = some (.string y.name) ∧ w'.cell? ⟨ba, offa + j * 2, none⟩ = some (.int .i64 za.1) ∧ w'.cell? ⟨ba, offa + j * 2 + 1, none⟩ = some (.int .i64 za.2) ∧ Below W.heap.size W w') [4, 7, 8] (.one 0 (.one 1 (.one 2 (.one 3 (.two 4 7 (.one 5 (.one 6 (.one 7 (.one 8 .nil)))) (.one 4 (.one 5 (.one 6 (.one 8 .nil))))))))) (by kernel_rfl) (by kernel_rfl) (by ((first | assumption | exact keep5 (by assumption) (by assumption) | exact keep5 (by assumption) (ext_alloc _ _) | exact keep5 (by assumption) (ext_drew _) | exact keep5 ⟨by assumption, by assumption, by assumption, by assumption, by assumption, by assumption⟩ (ext_drew _) | go_keep))) (fun hSw => ?_)
      iterate 4 (first
        | (refine wpT_pas rfl rfl (fun K hK => ?_)
           apply Exists.intro
           refine ⟨?_, ?_⟩
           · first | exact pasOk_no rfl | (apply pasOk_yes rfl; intro wS hS; obtain ⟨s0, s1, s2, s3, s4, s5⟩ := hS; go_simp; first | done | exact rfl | ((try simp only [↓IntWalk.iteOmega]); (try go_bits); (try go_simp); first | done | exact rfl))
           go_simp
           refine hK _ ?_
           clear hK K)
        | (refine wpT_act rfl rfl rfl (fun K hK => ?_)
           go_wp2
           refine OnlyK.go (hK _ _ (by ((first | assumption | exact keep5 (by assumption) (by assumption) | exact keep5 (by assumption) (ext_alloc _ _) | exact keep5 (by assumption) (ext_drew _) | exact keep5 ⟨by assumption, by assumption, by assumption, by assumption, by assumption, by assumption⟩ (ext_drew _) | go_keep))) (fun hSw => ?_))
           clear hK K))
      refine wpT_two rfl rfl rfl rfl (fun K hK => ?_) (fun K hK => ?_)
      · go_wp2_with (first | (go_at_call 89; refine (hfd _ (held5 (by assumption))).mono ?_; rintro e w1 ⟨rfl, hb1⟩))
        refine OnlyK.go (hK _ _ (by ((first | assumption | exact keep5 (by assumption) (by assumption) | exact keep5 (by assumption) (ext_alloc _ _) | exact keep5 (by assumption) (ext_drew _) | exact keep5 ⟨by assumption, by assumption, by assumption, by assumption, by assumption, by assumption⟩ (ext_drew _) | go_keep))) (fun hSw => ?_))
        clear hK K
        iterate 4 (first
          | (refine wpT_pas rfl rfl (fun K hK => ?_)
             apply Exists.intro
             refine ⟨?_, ?_⟩
             · first | exact pasOk_no rfl | (apply pasOk_yes rfl; intro wS hS; obtain ⟨s0, s1, s2, s3, s4, s5⟩ := hS; go_simp; first | done | exact rfl | ((try simp only [↓IntWalk.iteOmega]); (try go_bits); (try go_simp); first | done | exact rfl))
             go_simp
             refine hK _ ?_
             clear hK K)
          | (refine wpT_act rfl rfl rfl (fun K hK => ?_)
             go_wp2_with (first | (go_at_call 89; refine (hfd _ (held5 (by assumption))).mono ?_; rintro e w1 ⟨rfl, hb1⟩))
             refine OnlyK.go (hK _ _ (by ((first | assumption | exact keep5 (by assumption) (by assumption) | exact keep5 (by assumption) (ext_alloc _ _) | exact keep5 (by assumption) (ext_drew _) | exact keep5 ⟨by assumption, by assumption, by assumption, by assumption, by assumption, by assumption⟩ (ext_drew _) | go_keep))) (fun hSw => ?_))
             clear hK K))
        refine wpT_nil ?_
        have hbf := held5 hSw
        have hr9 := RowC.new encG_len w1 105 za
        simp only [encG] at hr9
        generalize hW9 : World.alloc w1 _ = w9 at hbf hr9 ⊢
        clear hW9
        clear hSw
        have hrs3 := hrs1.ext hbf
        have hre3 := hre1.ext hbf
        have hrow3 := hrow2.ext hbf
        have hbw3 := ext_trans hbw hbf
        obtain ⟨g0, g1⟩ := hrs3.g0
        obtain ⟨y0, y1⟩ := hr9.g0
        have hfz := hrs3.2.2
        go_wp2
        go_roundw
        case rel => exact ⟨k + 1, by omega, by go_num, hrow3.other (size_setCells (w.heap.size + 1 + 1) [_, _] 0 _) (other_setCells (w.heap.size + 1 + 1) [_, _] 0 _ _ (by omega)), by rw [HST.out]; exact hrs3.set1 _ _, hre3.other (size_setCells (w.heap.size + 1 + 1) [_, _] 0 _) (other_setCells (w.heap.size + 1 + 1) [_, _] 0 _ _ (by omega)), hbw3.trans (below_setCells (b := w.heap.size + 1 + 1) (by omega) [_, _] 0 _)⟩
        case measure => simp [intOf]; omega
      · go_wp2_with (first | (go_at_call 89; refine (hfd _ (held5 (by assumption))).mono ?_; rintro e w1 ⟨rfl, hb1⟩; have hr8 := RowC.ext (w := World.drew _) hr80 hb1) | (have hr8' := hr8; refine wpList_store_row2 rfl 105 _ _ rfl encG_len encG_one sizeIv 0 za hr8 (by simp) rfl _ rfl rfl ?_; intro w8 hr9 hb8 hz8 ho8; obtain ⟨s0, s1, s2, s3, s4, s5⟩ := hSw; have hS8 : _ ∧ _ ∧ _ ∧ _ ∧ _ ∧ _ := ⟨(hb8.cell (p := ⟨lb, 0, none⟩) (by simp; omega)).trans s0, (hb8.cell (p := ⟨ab, 0, none⟩) (by simp; omega)).trans s1, (hb8.cell (p := ⟨wr.heap.size, 0, none⟩) (by simp; omega)).trans s2, (hb8.cell (p := ⟨ba, offa + j * 2, none⟩) (by simp; omega)).trans s3, (hb8.cell (p := ⟨ba, offa + j * 2 + 1, none⟩) (by simp; omega)).trans s4, s5.trans hb8⟩))
        refine OnlyK.go (hK _ _ (by ((first | assumption | exact keep5 (by assumption) (by assumption) | exact keep5 (by assumption) (ext_alloc _ _) | exact keep5 (by assumption) (ext_drew _) | exact keep5 ⟨by assumption, by assumption, by assumption, by assumption, by assumption, by assumption⟩ (ext_drew _) | go_keep))) (fun hSw => ?_))
        clear hK K
        iterate 4 (first
          | (refine wpT_pas rfl rfl (fun K hK => ?_)
             apply Exists.intro
             refine ⟨?_, ?_⟩
             · first | exact pasOk_no rfl | (apply pasOk_yes rfl; intro wS hS; obtain ⟨s0, s1, s2, s3, s4, s5⟩ := hS; go_simp; first | done | exact rfl | ((try simp only [↓IntWalk.iteOmega]); (try go_bits); (try go_simp); first | done | exact rfl))
             go_simp
             refine hK _ ?_
             clear hK K)
          | (refine wpT_act rfl rfl rfl (fun K hK => ?_)
             go_wp2_with (first | (go_at_call 89; refine (hfd _ (held5 (by assumption))).mono ?_; rintro e w1 ⟨rfl, hb1⟩; have hr8 := RowC.ext (w := World.drew _) hr80 hb1) | (have hr8' := hr8; refine wpList_store_row2 rfl 105 _ _ rfl encG_len encG_one sizeIv 0 za hr8 (by simp) rfl _ rfl rfl ?_; intro w8 hr9 hb8 hz8 ho8; obtain ⟨s0, s1, s2, s3, s4, s5⟩ := hSw; have hS8 : _ ∧ _ ∧ _ ∧ _ ∧ _ ∧ _ := ⟨(hb8.cell (p := ⟨lb, 0, none⟩) (by simp; omega)).trans s0, (hb8.cell (p := ⟨ab, 0, none⟩) (by simp; omega)).trans s1, (hb8.cell (p := ⟨wr.heap.size, 0, none⟩) (by simp; omega)).trans s2, (hb8.cell (p := ⟨ba, offa + j * 2, none⟩) (by simp; omega)).trans s3, (hb8.cell (p := ⟨ba, offa + j * 2 + 1, none⟩) (by simp; omega)).trans s4, s5.trans hb8⟩))
             refine OnlyK.go (hK _ _ (by ((first | assumption | exact keep5 (by assumption) (by assumption) | exact keep5 (by assumption) (ext_alloc _ _) | exact keep5 (by assumption) (ext_drew _) | exact keep5 ⟨by assumption, by assumption, by assumption, by assumption, by assumption, by assumption⟩ (ext_drew _) | go_keep))) (fun hSw => ?_))
             clear hK K))
        refine wpT_nil ?_
        have hbf := held5 hSw
        clear hSw
        have hrs3 := hrs1.ext hbf
        have hre3 := hre1.ext hbf
        have hrow3 := hrow2.ext hbf
        have hbw3 := ext_trans hbw hbf
        obtain ⟨g0, g1⟩ := hrs3.g0
        obtain ⟨y0, y1⟩ := hr9.g0
        have hfz := hrs3.2.2
        go_wp2
        go_roundw
        case rel => exact ⟨k + 1, by omega, by go_num, hrow3.other (size_setCells (w.heap.size + 1 + 1) [_, _] 0 _) (other_setCells (w.heap.size + 1 + 1) [_, _] 0 _ _ (by omega)), by rw [HST.out]; exact hrs3.set1 _ _, hre3.other (size_setCells (w.heap.size + 1 + 1) [_, _] 0 _) (other_setCells (w.heap.size + 1 + 1) [_, _] 0 _ _ (by omega)), hbw3.trans (below_setCells (b := w.heap.size + 1 + 1) (by omega) [_, _] 0 _)⟩
        case measure => simp [intOf]; omega
    · obtain rfl : k = ys.length := by omega
      rw [List.take_of_length_le (Nat.le_refl _)] at hrs
      clear hcl hca hsw haw hr'
      generalize hzz : sumI l around ys = z at hrs
      have HZZ := Lib.hid hzz
      clear hzz
      obtain ⟨g0, g1⟩ := hrs.g0
      have hP := eqPair
      cases hq : (z.1 == 0 && z.2 == 0)
      · go_wp2_with (refine wpList_store_row2 rfl 105 _ _ rfl encG_len encG_one sizeIv 0 z hre (by simp) rfl _ rfl rfl ?_; intro w3 hrs3 hb3 hz3 ho3)
        obtain ⟨r0, r1⟩ := RowC.g0 hrs3
        exact bodyPost_ret (v := .agg #[.int .i64 z.1, .int .i64 z.2]) (by simp [results, Tryz.results144, go_sem, r0, r1]) rfl ⟨by rw [HZZ.out], hbr.trans (hb3.mono (by omega))⟩
      · obtain ⟨e1, e2⟩ : z.1 = 0 ∧ z.2 = 0 := by simpa using hq
        have he : z = (0, 0) := Prod.ext e1 e2
        have HE := Lib.hid he
        clear e1 e2 he
        go_wp2_with (refine wpList_store_row2 rfl 105 _ _ rfl encG_len encG_one sizeIv 0 (0, 0) hre (by simp) rfl _ rfl rfl ?_; intro w3 hrs3 hb3 hz3 ho3)
        obtain ⟨r0, r1⟩ := RowC.g0 hrs3
        exact bodyPost_ret (v := .agg #[.int .i64 0, .int .i64 0]) (by simp [results, Tryz.results144, go_sem, r0, r1]) rfl ⟨by rw [HZZ.out, HE.out], hbr.trans (hb3.mono (by omega))⟩
end Go.Proofs.YtlogjgmfkjjhjaaGreatDoor
namespace Go.Proofs.YtlogjgmfkjjhjaaGreatDoor
open Go.RowKit

theorem infoIv : (Tryz.prog.info? 105).map (fun i => (i.zero, i.size, i.bytes)) = some (some (.agg #[.int .i64 0, .int .i64 0]), 2, 16) := by kernel_rfl
set_option maxHeartbeats 2000000 in
theorem mappedNI {lb : Array Value} (f : Nd → Int × Int) (g : Nat) (eg : ∀ args w, (callFunc g args).run Tryz.prog w = .ok (.enter g args) w) (xs : List Nd) (v : Value) (w : World)
    (hs : SlAt encN 7 w v xs) (hn : xs.length ≤ 1048576) (hp : FnB g lb (fun x => .agg (encN x).toArray) (fun z : Int × Int => .agg #[.int .i64 z.1, .int .i64 z.2]) f xs w) :
    Calls Tryz.prog 143 #[v, .func (.func g) #[] lb] w (RetSl encG 2 105 (xs.map f) w) := by
  obtain ⟨A, c, rfl, hc, hm, hr⟩ := hs
  have hlen : xs.length ≤ 9223372036854775807 := by omega
  go_enter Tryz.func143, Tryz.ntmps143
  go_wp2
  go_loopw [10, 5] (fun i o wr => ∃ k : Nat, k ≤ xs.length ∧ i = .int .i64 k ∧ Below w.heap.size w wr ∧ Own encG 2 w.heap.size 105 wr o ((xs.take k).map f) ∧ Hid ((xs.take k).map f = [] → o = .slice none 0 0)) (fun i _ _ => xs.length - (intOf i).toNat)
  case atStart => exact ⟨0, Nat.zero_le _, rfl, Below.refl _ _, Own.nil _, fun _ => rfl⟩
  case round =>
    obtain ⟨k, hk, rfl, hb, ho, hnil⟩ := hrel
    by_cases hlt : k < xs.length
    · obtain ⟨b, off, rfl, hbl, hcell⟩ := hr (by omega)
      have hx : xs[k]? = some xs[k] := List.getElem?_eq_getElem hlt
      have hcall := fun W hW => hp W xs[k] (List.getElem_mem hlt) hW
      have hts := map_take_succ f xs k hlt
      generalize xs[k] = x at hx hcall hts
      obtain ⟨c0, c1, c2, c3, c4, c5, c6⟩ := nodeCells (fun i u hu => ext_cell hb (hcell k x hx i u hu))
      have hlt2 : ((xs.take k).map f).length = k := by simp; omega
      have HTS := Lib.hid hts
      have HL := Lib.hid hlt2
      clear hcell hr hp hx hts hlt2
      generalize (xs.take k).map f = ys at ho hnil HTS HL
      generalize f x = y at hcall HTS
      unfold encN at hcall
      have hsz := hb.size
      go_wp2_with (first
        | (go_at_fn g; refine (hcall _ (hb.alloc hsz _)).mono ?_; rintro e w1 ⟨rfl, hb1⟩; have hbw := ext_trans (hb.alloc hsz _) hb1; have ho1 := (ho.alloc (.cells #[.string x.name, .string x.parent, .int .i64 x.re, .int .i64 x.im, .int .i64 x.lim, .int .i64 x.cre, .int .i64 x.cim] 125)).ext hb1)
        | (at_builtin; refine own_append (w0 := w) rfl _ _ 46 (.agg #[.int .i64 0, .int .i64 0]) 16 rfl Tryz.underlying46 infoIv rfl (by decide) (by decide) encG_len _ ys y _ rfl rfl rfl (by simp [encG, Value.oneCell']) ho1 hbw hbw.size (by have := HL.out; omega) ?_; intro v1 w2 hown hbv hgv hnn))
      go_roundw
      case rel => exact ⟨k + 1, by omega, by go_num, hbv, by rw [HTS.out]; exact hown, fun h => by rw [HTS.out] at h; simp at h⟩
      case measure => simp [intOf]; omega
    · obtain rfl : k = xs.length := by omega
      rw [List.take_of_length_le (Nat.le_refl _)] at ho hnil
      go_wp2
      go_ret
      exact ⟨_, rfl, ho, hb, hnil.out⟩

/-- the enclosed intervals -/
def enclosedL (l : List Nd) (around : List (Int × Int)) : List (Int × Int) := l.map (enclosedN l around)
set_option maxHeartbeats 2000000 in
theorem enclosed_any (v va : Value) (l : List Nd) (around : List (Int × Int)) (hac : Acyc l) (hn : 0 < l.length) (hl : l.length ≤ 1048576) (hal : around.length = l.length) (hae : EndLe 1000000000 around) (hu : ∀ y ∈ l, 0 ≤ findI l y.name) (w : World) (hs : SlAt encN 7 w v l) (ha : SlAt encG 2 w va around) :
    Calls Tryz.prog 85 #[v, va] w (RetSl encG 2 105 (enclosedL l around) w) := by
  have eg := enters_of Tryz.func144 (by kernel_rfl) rfl
  have hsw := hs
  have haw := ha
  obtain ⟨A, c, rfl, hc1, hc2, hr⟩ := hs
  obtain ⟨A', c', rfl, hc1', hc2', hr'⟩ := ha
  clear hr hr'
  have b1 := (Boxed.new w 29 (.slice A l.length c)).alloc (.cells #[.slice A' around.length c'] 46)
  have b2 := Boxed.new (w.alloc (.cells #[.slice A l.length c] 29)) 46 (.slice A' around.length c')
  rw [World.size_alloc] at b2
  have hb2 : Below w.heap.size w ((w.alloc (.cells #[.slice A l.length c] 29)).alloc (.cells #[.slice A' around.length c'] 46)) := by (repeat (first | exact Below.refl _ _ | assumption | refine Below.drew ?_ | refine Below.alloc ?_ (by simp <;> omega) _ | refine Below.alloc ?_ (by simp) _ | refine Below.setCell ?_ (by simp) _))
  have k1 := b1.cell
  have hfn : FnB 144 #[.pointer (some ⟨w.heap.size, 0, none⟩), .pointer (some ⟨w.heap.size + 1, 0, none⟩)] (fun x => .agg (encN x).toArray) (fun z : Int × Int => .agg #[.int .i64 z.1, .int .i64 z.2]) (enclosedN l around) l ((w.alloc (.cells #[.slice A l.length c] 29)).alloc (.cells #[.slice A' around.length c'] 46)) :=
    fun W x hx hW => enclosed1_any w.heap.size (w.heap.size + 1) _ _ l around hac hn hl hal hae hu x W (ext_cell hW b1.cell) (ext_cell hW b2.cell) (hsw.ext (ext_trans hb2 hW)) (haw.ext (ext_trans hb2 hW))
  have hm := mappedNI (enclosedN l around) _ eg l _ _ (hsw.ext hb2) hl hfn
  clear hfn hal
  go_enter Tryz.func85, Tryz.ntmps85
  go_wp2_with (go_at_call 143; refine hm.mono ?_; rintro e w2 ⟨v2, rfl, ho2, hb3, hn2⟩)
  go_ret
  exact ⟨_, rfl, ho2.mono hb2.size, ext_trans hb2 hb3, hn2⟩

structure GoodE (l : List Nd) (ends : List (Int × Int)) : Prop where
  len : ends.length = l.length
  le : EndLe 1000000000 ends
  ord : ∀ x ∈ ends, x.1 ≤ x.2
theorem goodE_of {l : List Nd} {ends : List (Int × Int)} (h : endsErr l ends = 0) : GoodE l ends := by
  unfold endsErr at h
  split at h
  · cases h
  · rename_i hl
    rw [firstV_zero] at h
    have h2 : ∀ x ∈ ends, endErr x = 0 := fun x hx => h _ (List.mem_map_of_mem hx)
    have h3 : ∀ x ∈ ends, (-1000000000 ≤ x.1 ∧ x.1 ≤ 1000000000) ∧ (-1000000000 ≤ x.2 ∧ x.2 ≤ 1000000000) ∧ x.1 ≤ x.2 := fun x hx => by
      have := h2 x hx
      simp only [endErr, firstV_zero, List.mem_cons, List.mem_nil_iff, or_false, forall_eq_or_imp, forall_eq, whenV_zero (show (11 : Int) ≠ 0 by decide), withinV_zero] at this
      refine ⟨this.1, this.2.1, ?_⟩
      have := this.2.2
      simp at this; omega
    exact ⟨by simpa using hl, fun x hx => ⟨(h3 x hx).1.1, (h3 x hx).1.2, (h3 x hx).2.1.1, (h3 x hx).2.1.2⟩, fun x hx => (h3 x hx).2.2⟩
theorem Good.found {l : List Nd} (h : Good l) : ∀ y ∈ l, 0 ≤ findI l y.name := fun y hy => by
  rcases Int.lt_or_le (findI l y.name) 0 with h1 | h1
  · exact absurd rfl (findI_lt h1 y hy)
  · exact h1

def enclosedR (l : List Nd) (around : List (Int × Int)) : List (Int × Int) × Int := if checkNodesV l ≠ 0 then ([], checkNodesV l) else if endsErr l around ≠ 0 then ([], endsErr l around) else (enclosedL l around, 0)
set_option maxHeartbeats 2000000 in
theorem Enclosed_any (v va : Value) (l : List Nd) (around : List (Int × Int)) (w : World) (hs : SlAt encN 7 w v l) (ha : SlAt encG 2 w va around) (hok : Names l) (hn : around.length ≤ 1048576) :
    Calls Tryz.prog 24 #[v, va] w (Ret2 encG 2 105 (enclosedR l around) w) := by
  have hsw := hs
  have haw := ha
  obtain ⟨A, c, rfl, hc1, hc2, hr⟩ := hs
  obtain ⟨A', c', rfl, hc1', hc2', hr'⟩ := ha
  clear hr hr'
  have hc := checkNodes_any l _ w hsw hok
  have hce := fun W hW => checkEnds_any _ _ l around W (hsw.ext hW) (haw.ext hW) hn
  have hz : checkNodesV l = 0 → _ := good_of
  have hze : endsErr l around = 0 → _ := goodE_of
  have hV : enclosedR l around = if checkNodesV l ≠ 0 then ([], checkNodesV l) else if endsErr l around ≠ 0 then ([], endsErr l around) else (enclosedL l around, 0) := rfl
  rw [hV]
  clear hV
  generalize checkNodesV l = e1 at hc hz ⊢
  generalize endsErr l around = e2 at hce hze ⊢
  go_enter Tryz.func24, Tryz.ntmps24
  cases hq : (e1 != 0)
  · obtain rfl : e1 = 0 := by simpa using hq
    have hg := hz rfl
    cases hq2 : (e2 != 0)
    · obtain rfl : e2 = 0 := by simpa using hq2
      have hge := hze rfl
      have hn := fun W hW => enclosed_any _ _ l around hg.acyc hg.len0 hg.len hge.len hge.le hg.found W (hsw.ext hW) (haw.ext hW)
      clear hz hg hze hge
      go_wp2_with (first
        | (go_at_call 21; refine hc.mono ?_; rintro e w1 ⟨rfl, hb1⟩)
        | (go_at_call 84; refine (hce _ hb1).mono ?_; rintro e w2 ⟨rfl, hb2⟩; have hb3 := ext_trans hb1 hb2)
        | (go_at_call 85; refine (hn _ hb3).mono ?_; rintro e w3 ⟨v2, rfl, ho2, hb4, hn2⟩))
      go_ret2
      exact ⟨_, rfl, ho2.mono hb3.size, ext_trans hb3 hb4, hn2⟩
    · have he : e2 ≠ 0 := by simpa using hq2
      rw [if_neg (by simp), if_pos he]
      clear hz he hze
      go_wp2_with (first
        | (go_at_call 21; refine hc.mono ?_; rintro e w1 ⟨rfl, hb1⟩)
        | (go_at_call 84; refine (hce _ hb1).mono ?_; rintro e w2 ⟨rfl, hb2⟩; have hb3 := ext_trans hb1 hb2))
      go_ret2
      exact ⟨_, rfl, Own.nil _, hb3, fun _ => rfl⟩
  · have he : e1 ≠ 0 := by simpa using hq
    rw [if_pos he]
    clear hz he hze
    go_wp2_with (go_at_call 21; refine hc.mono ?_; rintro e w1 ⟨rfl, hb1⟩)
    go_ret2
    exact ⟨_, rfl, Own.nil _, hb1, fun _ => rfl⟩
end Go.Proofs.YtlogjgmfkjjhjaaGreatDoor
namespace Go.Proofs.YtlogjgmfkjjhjaaGreatDoor
open Go.RowKit

/-- the names of the first n nodes at whose places p holds -/
def pickN (p : Nat → Bool) (l : List Nd) (n : Nat) : List ByteArray := (List.range n).flatMap fun i => if p i then [(l.getD i default).name] else []
theorem pickN_zero (p : Nat → Bool) (l : List Nd) : pickN p l 0 = [] := rfl
theorem pickN_succ (p : Nat → Bool) (l : List Nd) (n : Nat) : pickN p l (n + 1) = pickN p l n ++ if p n then [(l.getD n default).name] else [] := by
  simp [pickN, List.range_succ]
theorem pickN_len (p : Nat → Bool) (l : List Nd) : ∀ n, (pickN p l n).length ≤ n
  | 0 => by simp [pickN]
  | n + 1 => by
    rw [pickN_succ, List.length_append]
    have := pickN_len p l n
    split <;> simp <;> omega

def disI (x y : Int × Int) : Bool := decide ((if y.2 < x.2 then y.2 else x.2) < if x.1 < y.1 then y.1 else x.1)
def agreeN (l : List Nd) (around read : List (Int × Int)) : List ByteArray := pickN (fun i => disI ((enclosedL l around).getD i (0, 0)) (read.getD i (0, 0))) l l.length
def agreeE (l : List Nd) (around read : List (Int × Int)) : Int := firstV [endsErr l around, endsErr l read]
def agreeR (l : List Nd) (around read : List (Int × Int)) : List ByteArray × Int := if checkNodesV l ≠ 0 then ([], checkNodesV l) else if agreeE l around read ≠ 0 then ([], agreeE l around read) else (agreeN l around read, 0)

set_option maxHeartbeats 4000000 in
theorem Agree_any (v va vr : Value) (l : List Nd) (around read : List (Int × Int)) (w : World) (hs : SlAt encN 7 w v l) (ha : SlAt encG 2 w va around) (hrd : SlAt encG 2 w vr read) (hok : Names l) (hn : around.length ≤ 1048576) (hn' : read.length ≤ 1048576) :
    Calls Tryz.prog 26 #[v, va, vr] w (Ret2 encS 1 9 (agreeR l around read) w) := by
  have hsw := hs
  have haw := ha
  have hrw := hrd
  obtain ⟨A, c, rfl, hc1, hc2, hr⟩ := hs
  obtain ⟨A', c', rfl, hc1', hc2', hr'⟩ := ha
  obtain ⟨A'', c'', rfl, hc1'', hc2'', hr''⟩ := hrd
  clear hr'
  have hc := checkNodes_any l _ w hsw hok
  have hce := fun W hW => checkEnds_any _ _ l around W (hsw.ext hW) (haw.ext hW) hn
  have hcr := fun W hW => checkEnds_any _ _ l read W (hsw.ext hW) (hrw.ext hW) hn'
  have hz : checkNodesV l = 0 → _ := good_of
  have hze : endsErr l around = 0 → _ := goodE_of
  have hzr : endsErr l read = 0 → _ := goodE_of
  have hV : agreeR l around read = if checkNodesV l ≠ 0 then ([], checkNodesV l) else if firstV [endsErr l around, endsErr l read] ≠ 0 then ([], firstV [endsErr l around, endsErr l read]) else (agreeN l around read, 0) := rfl
  rw [hV]
  clear hV
  generalize checkNodesV l = e1 at hc hz ⊢
  generalize endsErr l around = e2 at hce hze ⊢
  generalize endsErr l read = e3 at hcr hzr ⊢
  go_enter Tryz.func26, Tryz.ntmps26
  cases hq : (e1 != 0)
  · obtain rfl : e1 = 0 := by simpa using hq
    have hg := hz rfl
    cases hq2 : (firstV [e2, e3] != 0)
    · have h23 : firstV [e2, e3] = 0 := by simpa using hq2
      have h4 : e2 = 0 ∧ e3 = 0 := by simpa [firstV_zero] using h23
      obtain ⟨rfl, rfl⟩ := h4
      have hge := hze rfl
      have hgr := hzr rfl
      have hen := fun W hW => enclosed_any _ _ l around hg.acyc hg.len0 hg.len hge.len hge.le hg.found W (hsw.ext hW) (haw.ext hW)
      have hel : (enclosedL l around).length = l.length := List.length_map _
      have hgl := hg.len1
      have hrl := hgr.len
      have hAN : agreeN l around read = pickN (fun i => disI ((enclosedL l around).getD i (0, 0)) (read.getD i (0, 0))) l l.length := rfl
      have HAN := Lib.hid hAN
      have HEL := Lib.hid hel
      have HRL := Lib.hid hrl
      clear hel hrl hz hg hze hge hzr hgr hAN h23
      go_wp2_with (first
        | (go_at_call 21; refine hc.mono ?_; rintro e w1 ⟨rfl, hb1⟩)
        | (go_at_call_of 84 A'; refine (hce _ hb1).mono ?_; rintro e w2 ⟨rfl, hb2⟩; have hb3 := ext_trans hb1 hb2)
        | (go_at_call_of 84 A''; refine (hcr _ hb3).mono ?_; rintro e w3 ⟨rfl, hb5⟩; have hb6 := ext_trans hb3 hb5; have hb7 := hb6.alloc hb6.size (.cells #[.int .i64 0, .int .i64 0] 26))
        | (go_at_call 81; refine (first_any [_, _] _ _ (slat_new encI_len (by simp) rfl (by simp))).mono ?_; rintro e w3 ⟨rfl, rfl⟩)
        | (go_at_call 85; refine (hen _ hb7).mono ?_; rintro e w4 ⟨v2, rfl, ho2, hb4, hn2⟩; have hb8 := ext_trans hb7 hb4; have hsx := ho2.slat encG_len; obtain ⟨A2, c2, rfl⟩ := ho2.slice))
      have hsn := hsw.ext (ext_trans hb7 hb4)
      have hsr := hrw.ext (ext_trans hb7 hb4)
      clear hc hce hcr hen hr hr'' hb1 hb2 hb3 hb5 hb6 hb7 hb4 hsw haw hrw
      generalize enclosedL l around = xs at HEL HAN ho2 hsx hn2 ⊢
      have hxl : xs.length ≤ 16 := by have := HEL.out; omega
      go_loopw [33, 10] (fun i o wr => ∃ k : Nat, k ≤ xs.length ∧ i = .int .i64 k ∧ Below w4.heap.size w4 wr ∧ Own encS 1 w4.heap.size 9 wr o (pickN (fun i => disI (xs.getD i (0, 0)) (read.getD i (0, 0))) l k) ∧ Hid (pickN (fun i => disI (xs.getD i (0, 0)) (read.getD i (0, 0))) l k = [] → o = .slice none 0 0)) (fun i _ _ => xs.length - (intOf i).toNat)
      case atStart => exact ⟨0, Nat.zero_le _, rfl, Below.refl _ _, Own.nil _, fun _ => rfl⟩
      case round =>
        obtain ⟨k, hk, rfl, hb, ho, hnil⟩ := hrel
        by_cases hlt : k < xs.length
        · have hsz := hb.size
          obtain ⟨A1', c1', e1', _, _, hr1⟩ := hsn.ext hb
          obtain ⟨b1, o1, rfl, hb1, hcell1⟩ := hr1 (by have := HEL.out; omega)
          cases e1'
          obtain ⟨A1', c1', e1', _, _, hr2⟩ := hsr.ext hb
          obtain ⟨b2, o2, rfl, hb2, hcell2⟩ := hr2 (by have := HEL.out; have := HRL.out; omega)
          cases e1'
          obtain ⟨A1', c1', e1', _, _, hr3⟩ := hsx.ext hb
          obtain ⟨b3, o3, rfl, hb3, hcell3⟩ := hr3 (by omega)
          cases e1'
          have hkl : k < l.length := by have := HEL.out; omega
          have hkr : k < read.length := by have := HEL.out; have := HRL.out; omega
          have hx1 : l[k]? = some (l.getD k default) := by rw [List.getD_eq_getElem?_getD, List.getElem?_eq_getElem hkl]; rfl
          have hx2 : read[k]? = some (read.getD k (0, 0)) := by rw [List.getD_eq_getElem?_getD, List.getElem?_eq_getElem hkr]; rfl
          have hx3 : xs[k]? = some (xs.getD k (0, 0)) := by rw [List.getD_eq_getElem?_getD, List.getElem?_eq_getElem hlt]; rfl
          have hst := pickN_succ (fun i => disI (xs.getD i (0, 0)) (read.getD i (0, 0))) l k
          have hpl := pickN_len (fun i => disI (xs.getD i (0, 0)) (read.getD i (0, 0))) l k
          have n0 := hcell1 k _ hx1 0 _ rfl
          have r0 := hcell2 k _ hx2 0 _ rfl
          have r1 := hcell2 k _ hx2 1 _ rfl
          have x0 := hcell3 k _ hx3 0 _ rfl
          have x1 := hcell3 k _ hx3 1 _ rfl
          rw [Nat.add_zero] at n0 r0 x0
          clear hx1 hx2 hx3 hcell1 hcell2 hcell3 hr1 hr2 hr3
          generalize (l.getD k default).name = nm at hst n0
          generalize read.getD k (0, 0) = rd at hst r0 r1
          generalize xs.getD k (0, 0) = x at hst x0 x1
          have HST := Lib.hid hst
          clear hst
          generalize pickN (fun i => disI (xs.getD i (0, 0)) (read.getD i (0, 0))) l k = ys at ho hnil HST hpl
          go_wp2
          generalize hW : World.alloc wr _ = W
          have hbW : Below wr.heap.size wr W := by rw [← hW]; exact ext_alloc _ _
          have cW0 : W.cell? ⟨wr.heap.size, 0, none⟩ = some (.int .i64 x.1) := by rw [← hW]; simp [World.cell?_alloc_new]
          have cW1 : W.cell? ⟨wr.heap.size, 1, none⟩ = some (.int .i64 x.2) := by rw [← hW]; simp [World.cell?_alloc_new]
          clear hW
          have k0 := ext_cell hbW r0
          have k1 := ext_cell hbW r1
          have k2 := ext_cell hbW n0
          have dB0 : Below W.heap.size W W := Below.refl _ _
          cases hq : decide ((if rd.2 < x.2 then rd.2 else x.2) < if x.1 < rd.1 then rd.1 else x.1)
          · skip
            refine wp_region_plan (fun w' => w'.cell? ⟨wr.heap.size, 0, none⟩ = some (.int .i64 x.1) ∧ w'.cell? ⟨wr.heap.size, 1, none⟩ = some (.int .i64 x.2) ∧ w'.cell? ⟨b2, o2 + k * 2, none⟩ = some (.int .i64 rd.1) ∧ w'.cell? ⟨b2, o2 + k * 2 + 1, none⟩ = some (.int .i64 rd.2) ∧ Below W.heap.size W w') [] [0, 1, 2, 3, 4, 5, 6, 7, 8, 9, 10, 11, 12, 13, 14, 15, 16] (by kernel_rfl) (by kernel_rfl) (by ((first | assumption | exact keep4 (by assumption) (by assumption) | exact keep4 (by assumption) (ext_alloc _ _) | exact keep4 (by assumption) (ext_drew _) | exact keep4 ⟨by assumption, by assumption, by assumption, by assumption, by assumption⟩ (ext_drew _) | go_keep))) (fun hSw => ?_)
            repeat (first
              | (refine wpPlan_pas rfl rfl (fun K hK => ?_)
                 apply Exists.intro
                 refine ⟨?_, ?_⟩
                 · first | exact pasOk_no rfl | (apply pasOk_yes rfl; intro wS hS; obtain ⟨s0, s1, s2, s3, s4⟩ := hS; go_simp; first | done | exact rfl | ((try simp only [↓IntWalk.iteOmega]); (try go_bits); (try go_simp); first | done | exact rfl))
                 go_simp
                 refine hK _ ?_
                 clear hK K)
              | (refine wpPlan_no rfl rfl rfl (by assumption) (fun K hK => ?_)
                 go_simp
                 refine hK _ ?_
                 clear hK K)
              | (refine wpPlan_act rfl rfl rfl (fun K hK => ?_)
                 go_wp2
                 refine OnlyK.go (hK _ _ (by ((first | assumption | exact keep4 (by assumption) (by assumption) | exact keep4 (by assumption) (ext_alloc _ _) | exact keep4 (by assumption) (ext_drew _) | exact keep4 ⟨by assumption, by assumption, by assumption, by assumption, by assumption⟩ (ext_drew _) | go_keep))) (fun hSw => ?_))
                 clear hK K))
            refine wpPlan_nil ?_
            have hbS := ext_trans hbW (held4 hSw)
            have hbT := ext_trans hb hbS
            have ho1 := ho.ext hbS
            have k2' := ext_cell (held4 hSw) k2
            go_wp2
            go_roundw
            case rel => exact ⟨k + 1, by omega, by go_num, hbT, by rw [HST.out, show disI x rd = false from hq]; simpa using ho1, fun h => by rw [HST.out, show disI x rd = false from hq] at h; exact hnil.out (by simpa using h)⟩
            case measure => simp [intOf]; omega
          · skip
            refine wp_region_plan (fun w' => w'.cell? ⟨wr.heap.size, 0, none⟩ = some (.int .i64 x.1) ∧ w'.cell? ⟨wr.heap.size, 1, none⟩ = some (.int .i64 x.2) ∧ w'.cell? ⟨b2, o2 + k * 2, none⟩ = some (.int .i64 rd.1) ∧ w'.cell? ⟨b2, o2 + k * 2 + 1, none⟩ = some (.int .i64 rd.2) ∧ Below W.heap.size W w') [] [0, 1, 2, 3, 4, 5, 6, 7, 8, 9, 10, 11, 12, 13, 14, 15, 16] (by kernel_rfl) (by kernel_rfl) (by ((first | assumption | exact keep4 (by assumption) (by assumption) | exact keep4 (by assumption) (ext_alloc _ _) | exact keep4 (by assumption) (ext_drew _) | exact keep4 ⟨by assumption, by assumption, by assumption, by assumption, by assumption⟩ (ext_drew _) | go_keep))) (fun hSw => ?_)
            repeat (first
              | (refine wpPlan_pas rfl rfl (fun K hK => ?_)
                 apply Exists.intro
                 refine ⟨?_, ?_⟩
                 · first | exact pasOk_no rfl | (apply pasOk_yes rfl; intro wS hS; obtain ⟨s0, s1, s2, s3, s4⟩ := hS; go_simp; first | done | exact rfl | ((try simp only [↓IntWalk.iteOmega]); (try go_bits); (try go_simp); first | done | exact rfl))
                 go_simp
                 refine hK _ ?_
                 clear hK K)
              | (refine wpPlan_no rfl rfl rfl (by assumption) (fun K hK => ?_)
                 go_simp
                 refine hK _ ?_
                 clear hK K)
              | (refine wpPlan_act rfl rfl rfl (fun K hK => ?_)
                 go_wp2
                 refine OnlyK.go (hK _ _ (by ((first | assumption | exact keep4 (by assumption) (by assumption) | exact keep4 (by assumption) (ext_alloc _ _) | exact keep4 (by assumption) (ext_drew _) | exact keep4 ⟨by assumption, by assumption, by assumption, by assumption, by assumption⟩ (ext_drew _) | go_keep))) (fun hSw => ?_))
                 clear hK K))
            refine wpPlan_nil ?_
            have hbS := ext_trans hbW (held4 hSw)
            have hbT := ext_trans hb hbS
            have ho1 := ho.ext hbS
            have k2' := ext_cell (held4 hSw) k2
            have hbTs := hbT.size
            go_wp2_with (at_builtin; refine own_append (w0 := w4) rfl _ _ 25 (.string ByteArray.empty) 16 rfl Tryz.underlying25 infoS rfl (by decide) (by decide) encS_len _ ys nm _ rfl rfl rfl (by simp [encS, Value.oneCell']) ho1 hbT hbTs (by omega) ?_; intro v1 w5 hown hbv hgv hnn)
            go_roundw
            case rel => exact ⟨k + 1, by omega, by go_num, hbv, by rw [HST.out, show disI x rd = true from hq]; exact hown, fun h => by rw [HST.out, show disI x rd = true from hq] at h; simp at h⟩
            case measure => simp [intOf]; omega
        · obtain rfl : k = xs.length := by omega
          go_wp2
          go_ret2
          refine ⟨_, rfl, ?_, hb8.trans (hb.mono hb8.size), ?_⟩
          · rw [HAN.out]; rw [HEL.out] at ho; exact ho.mono hb8.size
          · rw [HAN.out]; rw [HEL.out] at hnil; exact hnil.out
    · have he : firstV [e2, e3] ≠ 0 := by simpa using hq2
      rw [if_neg (by simp), if_pos he]
      clear hz he hze hzr
      go_wp2_with (first
        | (go_at_call 21; refine hc.mono ?_; rintro e w1 ⟨rfl, hb1⟩)
        | (go_at_call_of 84 A'; refine (hce _ hb1).mono ?_; rintro e w2 ⟨rfl, hb2⟩; have hb3 := ext_trans hb1 hb2)
        | (go_at_call_of 84 A''; refine (hcr _ hb3).mono ?_; rintro e w3 ⟨rfl, hb5⟩; have hb6 := ext_trans hb3 hb5; have hb7 := hb6.alloc hb6.size (.cells #[.int .i64 e2, .int .i64 e3] 26))
        | (go_at_call 81; refine (first_any [_, _] _ _ (slat_new encI_len (by simp) rfl (by simp))).mono ?_; rintro e w3 ⟨rfl, rfl⟩))
      go_ret2
      exact ⟨_, rfl, Own.nil _, hb7, fun _ => rfl⟩
  · have he : e1 ≠ 0 := by simpa using hq
    rw [if_pos he]
    clear hz he hze hzr
    go_wp2_with (go_at_call 21; refine hc.mono ?_; rintro e w1 ⟨rfl, hb1⟩)
    go_ret2
    exact ⟨_, rfl, Own.nil _, hb1, fun _ => rfl⟩
end Go.Proofs.YtlogjgmfkjjhjaaGreatDoor
