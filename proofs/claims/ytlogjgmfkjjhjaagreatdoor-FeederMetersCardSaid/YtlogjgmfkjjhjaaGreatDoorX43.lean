/-
  The reference's Enclosed.
  The reference's Disagree.
  The plain law of FeederMeters: enclosures by nodes and by indices are the same; meters disagree by either test.
-/
import Derived.Test.YtlogjgmfkjjhjaaGreatDoorX42
import Derived.Test.YtlogjgmfkjjhjaaGreatDoorX38
set_option linter.unusedSimpArgs false
set_option linter.unusedVariables false
namespace Go.Proofs.YtlogjgmfkjjhjaaGreatDoor
open Go.RowKit

def encJ (l : List Nd) (around : List (Int × Int)) (i : Nat) : Int × Int := sumI l around (nodesAt l (branchI l i))
set_option maxHeartbeats 8000000 in
theorem rEnclosed_any (l : List Nd) (v va : Value) (around : List (Int × Int)) (hg : Good l) (hge : GoodE l around) (w : World) (hs : SlAt encN 7 w v l) (ha : SlAt encG 2 w va around) :
    Calls Tryz.prog 28 #[v, va] w (RetSl encG 2 105 ((List.range l.length).map (encJ l around)) w) := by
  have hs0 := hs
  have hself : ∀ (j : Nat) (hj : j < l.length), atI l around l[j] = around.getD j (0, 0) := fun j hj => by unfold atI; rw [hg.findI_self hj]; simp
  obtain ⟨A, c, rfl, hc, hm, hr⟩ := hs
  obtain ⟨A', c', rfl, hc', hm', hra⟩ := ha
  have HAL := Lib.hid hge.len
  have hae := hge.le
  have h16 := hg.len1
  have hbranch := fun (k : Nat) (W : World) (hW : Below w.heap.size w W) => rBranch_any l _ k hg W (hs0.ext hW)
  generalize hres : (List.range l.length).map (encJ l around) = res
  have HRES := Lib.hid hres
  clear hres hg hge
  go_enter Tryz.func28, Tryz.ntmps28
  go_wp2
  go_loopw [6, 5] (fun i o wr => ∃ k : Nat, k ≤ l.length ∧ i = .int .i64 k ∧ Below w.heap.size w wr ∧ Own encG 2 w.heap.size 105 wr o ((List.range k).map (encJ l around)) ∧ Hid ((List.range k).map (encJ l around) = [] → o = .slice none 0 0)) (fun i _ _ => l.length - (intOf i).toNat)
  case atStart => exact ⟨0, Nat.zero_le _, rfl, Below.refl _ _, Own.nil _, fun _ => rfl⟩
  case round =>
    obtain ⟨k, hk, rfl, hb, ho, hnil⟩ := hrel
    by_cases hlt : k < l.length
    · rename World => wo
      have hbs := hb.size
      have hbX : Below w.heap.size w (wo.alloc (.cells (encG (0, 0)).toArray 105)) := hb.alloc hbs _
      have hrow := RowC.new encG_len wo 105 (0, 0)
      have hoX := ho.ext (ext_alloc wo (.cells (encG (0, 0)).toArray 105))
      have hbr := hbranch k _ hbX
      have hst := range_map_succ (encJ l around) k
      have hck : encJ l around k = sumI l around (nodesAt l (branchI l k)) := rfl
      have hbm : ∀ j ∈ branchI l k, 0 ≤ j ∧ j < l.length := branchI_mem
      have hbl : (branchI l k).length ≤ 16 := Nat.le_trans (pickI_len _ _) h16
      have hyl : ((List.range k).map (encJ l around)).length = k := by simp
      generalize branchI l k = xs at hbr hck hbm hbl
      generalize (List.range k).map (encJ l around) = ys at ho hoX hnil hst hyl
      rw [hck] at hst
      have HST := Lib.hid hst
      have HYL := Lib.hid hyl
      have hsz : (wo.alloc (.cells (encG (0, 0)).toArray 105)).heap.size = wo.heap.size + 1 := World.size_alloc _ _
      clear hst hck hbranch hyl
      rw [show (encG (0, 0)).toArray = #[Value.int .i64 0, Value.int .i64 0] from rfl] at hbX hrow hoX hbr hsz
      go_wp2_with (go_at_call 19; refine hbr.mono ?_; rintro e w1 ⟨v1, rfl, ho1, hb1, hn1⟩; have hsl := ho1.slat encI_len; obtain ⟨A1, c1, rfl⟩ := ho1.slice; have hbase := ho1.base_le; have ho2 := hoX.ext hb1; have hrow1 := hrow.ext hb1; have hbT := ext_trans hbX hb1)
      clear hbr hrow hoX ho1 hn1 hbX
      obtain ⟨A2', c2', e', hc1', hc2', hr'⟩ := hsl
      cases e'
      have hbT0 := hb1.size
      rw [hsz] at hbT0
      clear hb1 hsz
      go_loopw [9] (fun i wr => ∃ m : Nat, m ≤ xs.length ∧ i = .int .i64 m ∧ RowC encG 2 wo.heap.size 0 wr [sumI l around ((nodesAt l xs).take m)] ∧ Below wo.heap.size w1 wr ∧ (∀ j, j ≠ wo.heap.size → j < w1.heap.size → wr.heap[j]? = w1.heap[j]?)) (fun i _ => xs.length - (intOf i).toNat)
      case atStart => exact ⟨0, Nat.zero_le _, rfl, hrow1, Below.refl _ _, fun _ _ _ => rfl⟩
      case round =>
        obtain ⟨m, hm, rfl, hrw, hbw, hoth⟩ := hrel
        by_cases hlt2 : m < xs.length
        · obtain ⟨b2, o2, rfl, hbl2, hcell2⟩ := hr' (by omega)
          have hx : xs[m]? = some xs[m] := List.getElem?_eq_getElem hlt2
          obtain ⟨h0, h1⟩ := hbm xs[m] (List.getElem_mem hlt2)
          have x0 := hcell2 m _ hx 0 _ rfl
          rw [Nat.add_zero, Nat.mul_one] at x0
          have hny : (nodesAt l xs)[m]'(by simpa [nodesAt] using hlt2) = l.getD xs[m].toNat default := by simp [nodesAt]
          have hst2 := sumI_take l around (nodesAt l xs) m (by simpa [nodesAt] using hlt2)
          rw [hny] at hst2
          have hml : ((nodesAt l xs).take m).length ≤ 16 := by simp [nodesAt]; omega
          obtain ⟨z1, z2, z3, z4⟩ := sumI_le (m := 1000000000) (by omega) hae (l := l) ((nodesAt l xs).take m)
          have zb : -16000000000 ≤ (sumI l around ((nodesAt l xs).take m)).1 ∧ (sumI l around ((nodesAt l xs).take m)).1 ≤ 16000000000 ∧ -16000000000 ≤ (sumI l around ((nodesAt l xs).take m)).2 ∧ (sumI l around ((nodesAt l xs).take m)).2 ≤ 16000000000 := by omega
          obtain ⟨z5, z6, z7, z8⟩ := zb
          clear z1 z2 z3 z4
          generalize xs[m] = j at hx h0 h1 x0 hst2
          obtain ⟨j, rfl⟩ := Int.eq_ofNat_of_zero_le h0
          have hjl : j < l.length := by omega
          rw [show l.getD ((j : Int)).toNat default = l[j] from by simp [hjl], hself j hjl] at hst2
          have hja : j < around.length := by have := HAL.out; omega
          obtain ⟨ba, offa, rfl, hba, hcella⟩ := hra (by omega)
          have hy : around[j]? = some around[j] := List.getElem?_eq_getElem hja
          rw [show around.getD j (0, 0) = around[j] from by simp [hja]] at hst2
          have a0 := hcella j _ hy 0 _ rfl
          have a1 := hcella j _ hy 1 _ rfl
          rw [Nat.add_zero] at a0
          obtain ⟨y1, y2, y3, y4⟩ := hae around[j] (List.getElem_mem hja)
          generalize around[j] = za at hy hst2 a0 a1 y1 y2 y3 y4
          generalize sumI l around ((nodesAt l xs).take m) = z at hrw hst2 z5 z6 z7 z8
          have hb2e : wo.heap.size + 1 ≤ b2 := by
            have := hbase b2 rfl
            rw [World.size_alloc] at this
            exact this
          have hne2 : b2 ≠ wo.heap.size := by omega
          have hne : ba ≠ wo.heap.size := by omega
          have x0r : wr.cell? ⟨b2, o2 + m, none⟩ = some (.int .i64 (j : Int)) := (World.cell?_of_block (hoth b2 hne2 hbl2)).trans x0
          have hb5 : ba < w1.heap.size := by omega
          have a0r : wr.cell? ⟨ba, offa + j * 2, none⟩ = some (.int .i64 za.1) := (World.cell?_of_block (hoth ba hne hb5)).trans (ext_cell hbT a0)
          have a1r : wr.cell? ⟨ba, offa + j * 2 + 1, none⟩ = some (.int .i64 za.2) := (World.cell?_of_block (hoth ba hne hb5)).trans (ext_cell hbT a1)
          have hbR : Below w.heap.size w wr := hbT.trans (hbw.mono hbs)
          have HST2 := Lib.hid hst2
          obtain ⟨g0, g1⟩ := hrw.g0
          have hrwd : RowC encG 2 wo.heap.size 0 wr.drew [z] := hrw
          have g0d : wr.drew.cell? ⟨wo.heap.size, 0, none⟩ = some (.int .i64 z.1) := g0
          have g1d : wr.drew.cell? ⟨wo.heap.size, 1, none⟩ = some (.int .i64 z.2) := g1
          have hbwd : Below wo.heap.size w1 wr.drew := hbw.drew
          have hothd : ∀ j, j ≠ wo.heap.size → j < w1.heap.size → wr.drew.heap[j]? = w1.heap[j]? := hoth
          have hwrs := hbw.size
          have hwo : wo.heap.size ≤ wr.heap.size := by omega
          have HOTHD := Lib.hid hothd
          clear hoth hothd
          clear hst2 hx hy hcella hcell2 hr' hny hbm x0 a0 a1 hbase h0 h1 hself
          have hw1 : IntKind.i64.wrap (z.1 + za.1) = z.1 + za.1 := IntWalk.i64_in _ (by omega)
          have hw2 : IntKind.i64.wrap (z.2 + za.2) = z.2 + za.2 := IntWalk.i64_in _ (by omega)
          have HRA := Lib.hid hra
          clear hra hr hae
          go_wp2
          refine wp_region_tree (fun w' => w'.cell? ⟨b2, o2 + m, none⟩ = some (.int .i64 (j : Int)) ∧ w'.cell? ⟨ba, offa + j * 2, none⟩ = some (.int .i64 za.1) ∧ w'.cell? ⟨ba, offa + j * 2 + 1, none⟩ = some (.int .i64 za.2) ∧ Below w.heap.size w w') [1, 12, 23] (.one 0 (.one 2 (.one 3 (.one 4 (.one 5 (.one 6 (.one 7 (.one 8 (.one 9 (.one 11 (.one 13 (.one 14 (.one 15 (.one 16 (.one 17 (.one 18 (.one 19 (.one 20 (.two 1 12 (.one 10 (.one 12 (.one 21 (.one 22 (.one 23 .nil))))) (.one 21 (.one 1 (.one 10 (.one 22 (.one 23 .nil)))))))))))))))))))))))) (by kernel_rfl) (by kernel_rfl) (by ((first | assumption | exact keep3 (by assumption) (by assumption) | exact keep3 (by assumption) (ext_alloc _ _) | exact keep3 (by assumption) (ext_drew _) | exact keep3 ⟨by assumption, by assumption, by assumption, by assumption⟩ (ext_drew _) | go_keep))) (fun hSw => ?_)
          iterate 18 (first
            | (refine wpT_pas rfl rfl (fun K hK => ?_)
               apply Exists.intro
               refine ⟨?_, ?_⟩
               · first | exact pasOk_no rfl | (apply pasOk_yes rfl; intro wS hS; obtain ⟨s0, s1, s2, s3⟩ := hS; go_simp; first | done | exact rfl | ((try simp only [↓IntWalk.iteOmega]); (try go_bits); (try go_simp); first | done | exact rfl))
               go_simp
               refine hK _ ?_
               clear hK K)
            | (refine wpT_act rfl rfl rfl (fun K hK => ?_)
               go_wp2_with (first | ((refine wpList_store_row2 rfl 105 _ _ rfl encG_len encG_one sizeIv 0 (z.1 + za.1, z.2 + za.2) hrwd (by simp) rfl _ rfl rfl ?_; intro w3 hrs3 hb3 hz3 ho3; have hS9 : _ ∧ _ ∧ _ ∧ _ := ⟨(World.cell?_of_block (ho3 b2 hne2)).trans hSw.1, (World.cell?_of_block (ho3 ba hne)).trans hSw.2.1, (World.cell?_of_block (ho3 ba hne)).trans hSw.2.2.1, hSw.2.2.2.trans (hb3.mono hbs)⟩)))
               refine OnlyK.go (hK _ _ (by ((first | assumption | exact keep3 (by assumption) (by assumption) | exact keep3 (by assumption) (ext_alloc _ _) | exact keep3 (by assumption) (ext_drew _) | exact keep3 ⟨by assumption, by assumption, by assumption, by assumption⟩ (ext_drew _) | go_keep))) (fun hSw => ?_))
               clear hK K))
          refine wpT_two rfl rfl rfl rfl (fun K hK => ?_) (fun K hK => ?_)
          · go_wp2_with (first | ((refine wpList_store_row2 rfl 105 _ _ rfl encG_len encG_one sizeIv 0 (z.1 + za.1, z.2 + za.2) hrwd (by simp) rfl _ rfl rfl ?_; intro w3 hrs3 hb3 hz3 ho3; have hS9 : _ ∧ _ ∧ _ ∧ _ := ⟨(World.cell?_of_block (ho3 b2 hne2)).trans hSw.1, (World.cell?_of_block (ho3 ba hne)).trans hSw.2.1, (World.cell?_of_block (ho3 ba hne)).trans hSw.2.2.1, hSw.2.2.2.trans (hb3.mono hbs)⟩)))
            refine OnlyK.go (hK _ _ (by ((first | assumption | exact keep3 (by assumption) (by assumption) | exact keep3 (by assumption) (ext_alloc _ _) | exact keep3 (by assumption) (ext_drew _) | exact keep3 ⟨by assumption, by assumption, by assumption, by assumption⟩ (ext_drew _) | go_keep))) (fun hSw => ?_))
            clear hK K
            iterate 5 (first
              | (refine wpT_pas rfl rfl (fun K hK => ?_)
                 apply Exists.intro
                 refine ⟨?_, ?_⟩
                 · first | exact pasOk_no rfl | (apply pasOk_yes rfl; intro wS hS; obtain ⟨s0, s1, s2, s3⟩ := hS; go_simp; first | done | exact rfl | ((try simp only [↓IntWalk.iteOmega]); (try go_bits); (try go_simp); first | done | exact rfl))
                 go_simp
                 refine hK _ ?_
                 clear hK K)
              | (refine wpT_act rfl rfl rfl (fun K hK => ?_)
                 go_wp2_with (first | ((refine wpList_store_row2 rfl 105 _ _ rfl encG_len encG_one sizeIv 0 (z.1 + za.1, z.2 + za.2) hrwd (by simp) rfl _ rfl rfl ?_; intro w3 hrs3 hb3 hz3 ho3; have hS9 : _ ∧ _ ∧ _ ∧ _ := ⟨(World.cell?_of_block (ho3 b2 hne2)).trans hSw.1, (World.cell?_of_block (ho3 ba hne)).trans hSw.2.1, (World.cell?_of_block (ho3 ba hne)).trans hSw.2.2.1, hSw.2.2.2.trans (hb3.mono hbs)⟩)))
                 refine OnlyK.go (hK _ _ (by ((first | assumption | exact keep3 (by assumption) (by assumption) | exact keep3 (by assumption) (ext_alloc _ _) | exact keep3 (by assumption) (ext_drew _) | exact keep3 ⟨by assumption, by assumption, by assumption, by assumption⟩ (ext_drew _) | go_keep))) (fun hSw => ?_))
                 clear hK K))
            refine wpT_nil ?_
            have HO3 := Lib.hid ho3
            clear hS9 hSw ho3
            go_wp2
            go_roundw
            case rel => exact ⟨m + 1, by omega, by go_num, by rw [HST2.out]; exact hrs3, hbwd.trans hb3, fun j hj hl => (HO3.out j hj).trans (HOTHD.out j hj hl)⟩
            case measure => simp [intOf]; omega
          · go_wp2_with (first | ((refine wpList_store_row2 rfl 105 _ _ rfl encG_len encG_one sizeIv 0 (z.1 + za.1, z.2 + za.2) hrwd (by simp) rfl _ rfl rfl ?_; intro w3 hrs3 hb3 hz3 ho3; have hS9 : _ ∧ _ ∧ _ ∧ _ := ⟨(World.cell?_of_block (ho3 b2 hne2)).trans hSw.1, (World.cell?_of_block (ho3 ba hne)).trans hSw.2.1, (World.cell?_of_block (ho3 ba hne)).trans hSw.2.2.1, hSw.2.2.2.trans (hb3.mono hbs)⟩)))
            refine OnlyK.go (hK _ _ (by ((first | assumption | exact keep3 (by assumption) (by assumption) | exact keep3 (by assumption) (ext_alloc _ _) | exact keep3 (by assumption) (ext_drew _) | exact keep3 ⟨by assumption, by assumption, by assumption, by assumption⟩ (ext_drew _) | go_keep))) (fun hSw => ?_))
            clear hK K
            iterate 5 (first
              | (refine wpT_pas rfl rfl (fun K hK => ?_)
                 apply Exists.intro
                 refine ⟨?_, ?_⟩
                 · first | exact pasOk_no rfl | (apply pasOk_yes rfl; intro wS hS; obtain ⟨s0, s1, s2, s3⟩ := hS; go_simp; first | done | exact rfl | ((try simp only [↓IntWalk.iteOmega]); (try go_bits); (try go_simp); first | done | exact rfl))
                 go_simp
                 refine hK _ ?_
                 clear hK K)
              | (refine wpT_act rfl rfl rfl (fun K hK => ?_)
                 go_wp2_with (first | ((refine wpList_store_row2 rfl 105 _ _ rfl encG_len encG_one sizeIv 0 (z.1 + za.1, z.2 + za.2) hrwd (by simp) rfl _ rfl rfl ?_; intro w3 hrs3 hb3 hz3 ho3; have hS9 : _ ∧ _ ∧ _ ∧ _ := ⟨(World.cell?_of_block (ho3 b2 hne2)).trans hSw.1, (World.cell?_of_block (ho3 ba hne)).trans hSw.2.1, (World.cell?_of_block (ho3 ba hne)).trans hSw.2.2.1, hSw.2.2.2.trans (hb3.mono hbs)⟩)))
                 refine OnlyK.go (hK _ _ (by ((first | assumption | exact keep3 (by assumption) (by assumption) | exact keep3 (by assumption) (ext_alloc _ _) | exact keep3 (by assumption) (ext_drew _) | exact keep3 ⟨by assumption, by assumption, by assumption, by assumption⟩ (ext_drew _) | go_keep))) (fun hSw => ?_))
                 clear hK K))
            refine wpT_nil ?_
            have HO3 := Lib.hid ho3
            clear hS9 hSw ho3
            go_wp2
            go_roundw
            case rel => exact ⟨m + 1, by omega, by go_num, by rw [HST2.out]; exact hrs3, hbwd.trans hb3, fun j hj hl => (HO3.out j hj).trans (HOTHD.out j hj hl)⟩
            case measure => simp [intOf]; omega
        · obtain rfl : m = xs.length := by omega
          rw [List.take_of_length_le (by simp [nodesAt])] at hrw
          have hg12 : w1.grownBy wr (some wo.heap.size) := ⟨hbw.os, hbw.tape, hbw.output, hbw.size, fun i hi hne => hoth i (fun e => hne (by rw [e])) hi⟩
          have ho3 := ho2.kept hg12 (.inr fun e => ho.ne (.inr (Nat.le_refl _)) e.symm)
          have hbR : Below w.heap.size w wr := hbT.trans (hbw.mono hbs)
          have hbRs := hbR.size
          obtain ⟨g0, g1⟩ := hrw.g0
          generalize hz : sumI l around (nodesAt l xs) = z at hrw g0 g1 HST
          clear hz hg12 hoth
          have hyl2 : ys.length ≤ 16 := by have := HYL.out; omega
          go_wp2_with (at_builtin; refine own_append (w0 := w) rfl _ _ 46 (.agg #[.int .i64 0, .int .i64 0]) 16 rfl Tryz.underlying46 infoIv rfl (by decide) (by decide) encG_len _ ys z _ rfl rfl rfl (by simp [encG, Value.oneCell']) ho3 hbR hbRs (by omega) ?_; intro v1 w5 hown hbv hgv hnn)
          go_roundw
          case rel => exact ⟨k + 1, by omega, by go_num, hbv, by rw [HST.out]; exact hown, fun h => by rw [HST.out] at h; simp at h⟩
          case measure => simp [intOf]; omega
    · obtain rfl : k = l.length := by omega
      go_wp2
      go_ret
      exact ⟨_, rfl, by rw [← HRES.out]; exact ho, hb, by rw [← HRES.out]; exact hnil.out⟩
end Go.Proofs.YtlogjgmfkjjhjaaGreatDoor
namespace Go.Proofs.YtlogjgmfkjjhjaaGreatDoor
open Go.RowKit

def disJ (x y : Int × Int) : Bool := decide (y.2 < x.1) || decide (x.2 < y.1)
def encJL (l : List Nd) (around : List (Int × Int)) : List (Int × Int) := (List.range l.length).map (encJ l around)
def disL (l : List Nd) (around read : List (Int × Int)) : List ByteArray := pickN (fun i => disJ ((encJL l around).getD i (0, 0)) (read.getD i (0, 0))) l l.length

set_option maxHeartbeats 8000000 in
theorem rDisagree_any (l : List Nd) (v va vr : Value) (around read : List (Int × Int)) (hg : Good l) (hge : GoodE l around) (hrl : read.length = l.length) (w : World) (hs : SlAt encN 7 w v l) (ha : SlAt encG 2 w va around) (hrd : SlAt encG 2 w vr read) :
    Calls Tryz.prog 29 #[v, va, vr] w (RetSl encS 1 9 (disL l around read) w) := by
  have henc := fun W (hW : Below w.heap.size w W) => rEnclosed_any l v va around hg hge W (hs.ext hW) (ha.ext hW)
  change ∀ W, Below w.heap.size w W → Calls Tryz.prog 28 #[v, va] W (RetSl encG 2 105 (encJL l around) W) at henc
  have h16 := hg.len1
  have hxl : (encJL l around).length = l.length := by simp [encJL]
  have hV : disL l around read = pickN (fun i => disJ ((encJL l around).getD i (0, 0)) (read.getD i (0, 0))) l l.length := rfl
  rw [hV]
  clear hV hg hge
  generalize encJL l around = xs at henc hxl ⊢
  obtain ⟨A, c, rfl, hc, hm, hr⟩ := hs
  obtain ⟨A2, c2, rfl, hc2, hm2, hr2⟩ := hrd
  obtain ⟨A3, n3, c3, rfl⟩ := ha.isSlice
  clear ha
  generalize hp : (fun i => disJ (xs.getD i (0, 0)) (read.getD i (0, 0))) = p
  have hp2 : ∀ i, disJ (xs.getD i (0, 0)) (read.getD i (0, 0)) = p i := fun i => by rw [← hp]
  clear hp
  have HP := Lib.hid hp2
  have HXL := Lib.hid hxl
  have HRL := Lib.hid hrl
  clear hp2 hxl hrl
  have dB : Below w.heap.size w w := Below.refl _ _
  go_enter Tryz.func29, Tryz.ntmps29
  go_wp2_with (go_at_call 28; refine (henc _ dB).mono ?_; rintro e w1 ⟨vx, rfl, hox, hb1, _⟩)
  have hsx := hox.slat encG_len
  obtain ⟨Ax, cx, rfl, hcx, hmx, hrx⟩ := hsx
  clear hox henc dB
  have hb1s := hb1.size
  have hb1r : Below w1.heap.size w1 w1 := Below.refl _ _
  go_loopw [9, 8] (fun i o wr => ∃ k : Nat, k ≤ l.length ∧ i = .int .i64 k ∧ Below w1.heap.size w1 wr ∧ Own encS 1 w1.heap.size 9 wr o (pickN p l k) ∧ Hid (pickN p l k = [] → o = .slice none 0 0)) (fun i _ _ => l.length - (intOf i).toNat)
  case atStart => exact ⟨0, Nat.zero_le _, rfl, Below.refl _ _, Own.nil _, fun _ => rfl⟩
  case round =>
    obtain ⟨k, hk, rfl, hb, ho, hnil⟩ := hrel
    by_cases hlt : k < l.length
    · have hkx : k < xs.length := by have := HXL.out; omega
      have hkr : k < read.length := by have := HRL.out; omega
      obtain ⟨b, off, rfl, hbl, hcell⟩ := hr (by omega)
      obtain ⟨b2, o2, rfl, hbl2, hcell2⟩ := hr2 (by omega)
      obtain ⟨b3, o3, rfl, hbl3, hcell3⟩ := hrx (by omega)
      have hx : l[k]? = some l[k] := List.getElem?_eq_getElem hlt
      have hy : read[k]? = some read[k] := List.getElem?_eq_getElem hkr
      have hz : xs[k]? = some xs[k] := List.getElem?_eq_getElem hkx
      have c0 := ext_cell hb1 (hcell k _ hx 0 _ rfl)
      have r0 := ext_cell hb1 (hcell2 k _ hy 0 _ rfl)
      have r1 := ext_cell hb1 (hcell2 k _ hy 1 _ rfl)
      have x0 := hcell3 k _ hz 0 _ rfl
      have x1 := hcell3 k _ hz 1 _ rfl
      rw [Nat.add_zero] at c0 r0 x0
      have hpk : p k = disJ xs[k] read[k] := by rw [← HP.out]; simp [hkx, hkr]
      have hts := pickN_succ p l k
      have hnk : (l.getD k default).name = l[k].name := by simp [hlt]
      rw [hnk, hpk] at hts
      have hyl := pickN_len p l k
      generalize l[k].name = nm at c0 hts
      generalize read[k] = y at r0 r1 hts
      generalize xs[k] = x at x0 x1 hts
      generalize pickN p l k = ys at ho hnil hts hyl
      have HTS := Lib.hid hts
      have HYL := Lib.hid hyl
      clear hcell hcell2 hcell3 hr hr2 hrx hx hy hz hpk hnk hts hyl
      have HLE := Lib.hid (And.intro hk h16)
      clear hk
      have h3 : (decide (y.2 < x.1) = false ∧ decide (x.2 < y.1) = false) ∨ (decide (y.2 < x.1) = false ∧ decide (x.2 < y.1) = true) ∨ decide (y.2 < x.1) = true := by
        cases decide (y.2 < x.1) <;> cases decide (x.2 < y.1) <;> simp
      rcases h3 with ⟨hq1, hq2⟩ | ⟨hq1, hq2⟩ | hq1
      · have hq : pickN p l (k + 1) = ys := by rw [HTS.out]; unfold disJ; rw [hq1, hq2]; simp
        have HQ := Lib.hid hq
        clear hq
        go_wp2
        refine wp_region_plan (fun w' => Below w1.heap.size w1 w') [] [0, 1, 2, 3, 4, 5, 6, 7, 8, 9, 10, 11, 12, 13, 14, 15, 16, 17, 18, 19, 20, 21, 22, 23] (by kernel_rfl) (by kernel_rfl) (by ((first | assumption | exact keep0 (by assumption) (by assumption) | exact keep0 (by assumption) (ext_alloc _ _) | exact keep0 (by assumption) (ext_drew _) | exact keep0 (by assumption) (ext_drew _) | go_keep))) (fun hSw => ?_)
        repeat (first
          | (refine wpPlan_pas rfl rfl (fun K hK => ?_)
             apply Exists.intro
             refine ⟨?_, ?_⟩
             · first | exact pasOk_no rfl | (apply pasOk_yes rfl; intro wS hS; have s0 := hS; have e0 := ext_cell s0 r0; have e1 := ext_cell s0 r1; have e2 := ext_cell s0 x0; have e3 := ext_cell s0 x1; go_simp; first | done | exact rfl | ((try simp only [↓IntWalk.iteOmega]); (try go_bits); (try go_simp); first | done | exact rfl))
             go_simp
             refine hK _ ?_
             clear hK K)
          | (refine wpPlan_no rfl rfl rfl (by assumption) (fun K hK => ?_)
             go_simp
             refine hK _ ?_
             clear hK K)
          | (refine wpPlan_act rfl rfl rfl (fun K hK => ?_)
             go_wp2
             refine OnlyK.go (hK _ _ (by ((first | assumption | exact keep0 (by assumption) (by assumption) | exact keep0 (by assumption) (ext_alloc _ _) | exact keep0 (by assumption) (ext_drew _) | exact keep0 (by assumption) (ext_drew _) | go_keep))) (fun hSw => ?_))
             clear hK K))
        refine wpPlan_nil ?_
        have hbX : Below w1.heap.size w1 wr.drew := hb.drew
        have hoX : Own encS 1 w1.heap.size 9 wr.drew u8 ys := ho
        have n0 := ext_cell hbX c0
        have hbXs := hbX.size
        generalize wr.drew = W at hbX hoX n0 hbXs ⊢
        clear hSw hb ho c0
        go_wp2
        go_roundw
        case rel => exact ⟨k + 1, by omega, by go_num, hbX, by rw [HQ.out]; exact hoX, by rw [HQ.out]; exact hnil.out⟩
        case measure => simp [intOf]; omega
      · have hq : pickN p l (k + 1) = ys ++ [nm] := by rw [HTS.out]; unfold disJ; rw [hq1, hq2]; simp
        have HQ := Lib.hid hq
        clear hq
        go_wp2
        refine wp_region_plan (fun w' => Below w1.heap.size w1 w') [] [0, 1, 2, 3, 4, 5, 6, 7, 8, 9, 10, 11, 12, 13, 14, 15, 16, 17, 18, 19, 20, 21, 22, 23] (by kernel_rfl) (by kernel_rfl) (by ((first | assumption | exact keep0 (by assumption) (by assumption) | exact keep0 (by assumption) (ext_alloc _ _) | exact keep0 (by assumption) (ext_drew _) | exact keep0 (by assumption) (ext_drew _) | go_keep))) (fun hSw => ?_)
        repeat (first
          | (refine wpPlan_pas rfl rfl (fun K hK => ?_)
             apply Exists.intro
             refine ⟨?_, ?_⟩
             · first | exact pasOk_no rfl | (apply pasOk_yes rfl; intro wS hS; have s0 := hS; have e0 := ext_cell s0 r0; have e1 := ext_cell s0 r1; have e2 := ext_cell s0 x0; have e3 := ext_cell s0 x1; go_simp; first | done | exact rfl | ((try simp only [↓IntWalk.iteOmega]); (try go_bits); (try go_simp); first | done | exact rfl))
             go_simp
             refine hK _ ?_
             clear hK K)
          | (refine wpPlan_no rfl rfl rfl (by assumption) (fun K hK => ?_)
             go_simp
             refine hK _ ?_
             clear hK K)
          | (refine wpPlan_act rfl rfl rfl (fun K hK => ?_)
             go_wp2
             refine OnlyK.go (hK _ _ (by ((first | assumption | exact keep0 (by assumption) (by assumption) | exact keep0 (by assumption) (ext_alloc _ _) | exact keep0 (by assumption) (ext_drew _) | exact keep0 (by assumption) (ext_drew _) | go_keep))) (fun hSw => ?_))
             clear hK K))
        refine wpPlan_nil ?_
        have hbX : Below w1.heap.size w1 wr.drew := hb.drew
        have hoX : Own encS 1 w1.heap.size 9 wr.drew u8 ys := ho
        have n0 := ext_cell hbX c0
        have hbXs := hbX.size
        generalize wr.drew = W at hbX hoX n0 hbXs ⊢
        clear hSw hb ho c0
        go_wp2_with (at_builtin; refine own_append (w0 := w1) rfl _ _ 25 (.string ByteArray.empty) 16 rfl Tryz.underlying25 infoS rfl (by decide) (by decide) encS_len _ ys nm _ rfl rfl rfl (by simp [encS, Value.oneCell']) hoX hbX hbXs (by have := HYL.out; have := HLE.out; omega) ?_; intro v1 w5 hown hbv hgv hnn)
        go_roundw
        case rel => exact ⟨k + 1, by omega, by go_num, hbv, by rw [HQ.out]; exact hown, fun h => by rw [HQ.out] at h; simp at h⟩
        case measure => simp [intOf]; omega
      · have hq : pickN p l (k + 1) = ys ++ [nm] := by rw [HTS.out]; unfold disJ; rw [hq1]; simp
        have HQ := Lib.hid hq
        clear hq
        go_wp2
        refine wp_region_plan (fun w' => Below w1.heap.size w1 w') [] [0, 1, 2, 3, 4, 5, 6, 7, 8, 9, 10, 11, 12, 13, 14, 15, 16, 17, 18, 19, 20, 21, 22, 23] (by kernel_rfl) (by kernel_rfl) (by ((first | assumption | exact keep0 (by assumption) (by assumption) | exact keep0 (by assumption) (ext_alloc _ _) | exact keep0 (by assumption) (ext_drew _) | exact keep0 (by assumption) (ext_drew _) | go_keep))) (fun hSw => ?_)
        repeat (first
          | (refine wpPlan_pas rfl rfl (fun K hK => ?_)
             apply Exists.intro
             refine ⟨?_, ?_⟩
             · first | exact pasOk_no rfl | (apply pasOk_yes rfl; intro wS hS; have s0 := hS; have e0 := ext_cell s0 r0; have e1 := ext_cell s0 r1; have e2 := ext_cell s0 x0; have e3 := ext_cell s0 x1; go_simp; first | done | exact rfl | ((try simp only [↓IntWalk.iteOmega]); (try go_bits); (try go_simp); first | done | exact rfl))
             go_simp
             refine hK _ ?_
             clear hK K)
          | (refine wpPlan_no rfl rfl rfl (by assumption) (fun K hK => ?_)
             go_simp
             refine hK _ ?_
             clear hK K)
          | (refine wpPlan_act rfl rfl rfl (fun K hK => ?_)
             go_wp2
             refine OnlyK.go (hK _ _ (by ((first | assumption | exact keep0 (by assumption) (by assumption) | exact keep0 (by assumption) (ext_alloc _ _) | exact keep0 (by assumption) (ext_drew _) | exact keep0 (by assumption) (ext_drew _) | go_keep))) (fun hSw => ?_))
             clear hK K))
        refine wpPlan_nil ?_
        have hbX : Below w1.heap.size w1 wr.drew := hb.drew
        have hoX : Own encS 1 w1.heap.size 9 wr.drew u8 ys := ho
        have n0 := ext_cell hbX c0
        have hbXs := hbX.size
        generalize wr.drew = W at hbX hoX n0 hbXs ⊢
        clear hSw hb ho c0
        go_wp2_with (at_builtin; refine own_append (w0 := w1) rfl _ _ 25 (.string ByteArray.empty) 16 rfl Tryz.underlying25 infoS rfl (by decide) (by decide) encS_len _ ys nm _ rfl rfl rfl (by simp [encS, Value.oneCell']) hoX hbX hbXs (by have := HYL.out; have := HLE.out; omega) ?_; intro v1 w5 hown hbv hgv hnn)
        go_roundw
        case rel => exact ⟨k + 1, by omega, by go_num, hbv, by rw [HQ.out]; exact hown, fun h => by rw [HQ.out] at h; simp at h⟩
        case measure => simp [intOf]; omega
    · obtain rfl : k = l.length := by omega
      go_wp2
      go_ret
      exact ⟨_, rfl, ho.mono hb1s, hb1.trans (hb.mono hb1s), hnil.out⟩
end Go.Proofs.YtlogjgmfkjjhjaaGreatDoor
namespace Go.Proofs.YtlogjgmfkjjhjaaGreatDoor
open Go.RowKit

theorem enclosed_I {l : List Nd} (h : Good l) (around : List (Int × Int)) : enclosedL l around = encJL l around := by
  unfold enclosedL encJL
  apply List.ext_getElem
  · simp
  · intro i h1 h2
    have hi : i < l.length := by simpa using h1
    simp only [List.getElem_map, List.getElem_range]
    unfold enclosedN encJ
    have hf := h.findI_self hi
    rw [branch_I h (by rw [hf]; omega), hf]
theorem atI_ord {l : List Nd} {around : List (Int × Int)} (h : GoodE l around) (y : Nd) : (atI l around y).1 ≤ (atI l around y).2 := by
  unfold atI
  rw [List.getD_eq_getElem?_getD]
  cases hq : around[(findI l y.name).toNat]? with
  | none => simp
  | some z => exact h.ord z (List.mem_of_getElem? hq)
theorem sumI_ord {l : List Nd} {around : List (Int × Int)} (h : GoodE l around) : ∀ (xs : List Nd), (sumI l around xs).1 ≤ (sumI l around xs).2
  | [] => by simp [sumI]
  | x :: r => by
    have h1 := atI_ord h x
    have h2 := sumI_ord h r
    simp only [sumI]
    omega
theorem pickN_congr {p q : Nat → Bool} (l : List Nd) : ∀ n, (∀ i, i < n → p i = q i) → pickN p l n = pickN q l n
  | 0, _ => rfl
  | n + 1, h => by rw [pickN_succ, pickN_succ, pickN_congr l n (fun i hi => h i (by omega)), h n (by omega)]
theorem disI_J {x y : Int × Int} (hx : x.1 ≤ x.2) (hy : y.1 ≤ y.2) : disI x y = disJ x y := by
  unfold disI disJ
  rw [Bool.eq_iff_iff]
  simp only [decide_eq_true_eq, Bool.or_eq_true]
  split <;> split <;> omega
theorem agree_I {l : List Nd} (h : Good l) {around read : List (Int × Int)} (ha : GoodE l around) (hr : GoodE l read) : agreeN l around read = disL l around read := by
  unfold agreeN disL
  refine pickN_congr l _ fun i hi => ?_
  rw [enclosed_I h around]
  have hx : (encJL l around).getD i (0, 0) = encJ l around i := by simp [encJL, hi]
  have hir : i < read.length := by have := hr.len; omega
  have hy : read.getD i (0, 0) = read[i] := by simp [hir]
  rw [hx, hy]
  exact disI_J (sumI_ord ha _) (hr.ord _ (List.getElem_mem hir))
theorem firstV_two (a b : Int) : firstV [a, b] = if a ≠ 0 then a else b := by
  unfold firstV
  split
  · rfl
  · unfold firstV
    split
    · rfl
    · rename_i h; simp at h; simp [h, firstV]
theorem enclosedR_err (l : List Nd) (around : List (Int × Int)) : (enclosedR l around).2 = firstV [checkNodesV l, endsErr l around] := by
  rw [firstV_two]
  unfold enclosedR
  split
  · rfl
  · split
    · rfl
    · rename_i h; simp at h; simp [h]
theorem agreeR_err (l : List Nd) (around read : List (Int × Int)) : (agreeR l around read).2 = firstV [firstV [checkNodesV l, endsErr l around], endsErr l read] := by
  rw [firstV_two, firstV_two]
  unfold agreeR agreeE
  rw [firstV_two]
  split
  · rename_i h; simp [h]
  · rename_i h; simp at h
    by_cases h2 : endsErr l around = 0
    · by_cases h3 : endsErr l read = 0
      · simp [h, h2, h3]
      · simp [h, h2, h3]
    · simp [h, h2]
end Go.Proofs.YtlogjgmfkjjhjaaGreatDoor
