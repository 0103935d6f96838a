/-
  feeder.Voltages.
-/
import Derived.Test.YtlogjgmfkjjhjaaGreatDoorX22
import Derived.Test.YtlogjgmfkjjhjaaGreatDoorX13
set_option linter.unusedSimpArgs false
set_option linter.unusedVariables false
namespace Go.Proofs.YtlogjgmfkjjhjaaGreatDoor
open Go.RowKit

/-- m[s] = v in a map literal -/
theorem wpList_insV {ops : Array Oper} {rest : List Oper} {o : Oper} {a : Act} {Q : Exit → Act → World → Prop} {w : World} {K E : TypeId} {b n : Nat} {f : ByteArray → Option Value} (hg : o.guard = none) (m x y : Operand) (T : TypeId) (hop : o.op = Op.insert T m x y) (hK : Tryz.prog.underlying K = some .string) (hT : Tryz.prog.underlying T = some (.map K E))
    (hm : a.eval m = .map (some b)) (hown : MapV K b n w f) (hn : n < maxLen) (s : ByteArray) (v : Value) (hx : a.eval x = .string s) (hv : a.eval y = v) (hs : s.size ≤ maxLen)
    (h : ∀ w1, MapV K b (n + 1) w1 (putF f s v) → w.grownBy w1 (some b) → wpList Tryz.prog ops Q rest (a.put o.dst undef) w1) : wpList Tryz.prog ops Q (o :: rest) a w := by
  obtain ⟨D, h1, h2, h3⟩ := hown
  refine wpList_plain hg fun K' hK' => ?_
  obtain ⟨w', hrun, r1, r2⟩ := h1.update (Go.Maps.string_keyed hK) hT hn (Go.WideMaps.keyOf_string_mk hK hs) (d := .held v) (ps := []) (val := v) rfl
  unfold Oper.wp
  simp [execOp, hop, hm, hx, hv, hrun, Result.andThen]
  exact hK' _ _ (h w' (MapV.put h2 h3 r1) r2)

/-- whatever was there, but for one block, is unturned -/
theorem km_refl (mb : Nat) (w : World) : w.grownBy w (some mb) := ⟨rfl, rfl, rfl, Nat.le_refl _, fun _ _ _ => rfl⟩
theorem km_trans {mb : Nat} {a b c : World} (h1 : a.grownBy b (some mb)) (h2 : b.grownBy c (some mb)) : a.grownBy c (some mb) :=
  ⟨h2.os.trans h1.os, h2.tape.trans h1.tape, h2.output.trans h1.output, Nat.le_trans h1.size h2.size, fun i hi hne => (h2.block i (Nat.lt_of_lt_of_le hi h1.size) hne).trans (h1.block i hi hne)⟩
theorem km_below {mb : Nat} {a b c : World} (h1 : a.grownBy b (some mb)) (h2 : Below b.heap.size b c) : a.grownBy c (some mb) :=
  km_trans h1 ⟨h2.os, h2.tape, h2.output, h2.size, fun i hi _ => h2.block i hi⟩
theorem km_from {mb : Nat} {a b c : World} (h1 : a.grownBy b (some mb)) (h2 : Below a.heap.size b c) : a.grownBy c (some mb) :=
  ⟨h2.os.trans h1.os, h2.tape.trans h1.tape, h2.output.trans h1.output, Nat.le_trans h1.size h2.size, fun i hi hne => (h2.block i hi).trans (h1.block i hi hne)⟩
theorem below_km {mb : Nat} {w a b : World} (h : Below w.heap.size w a) (h1 : a.grownBy b (some mb)) (hm : w.heap.size ≤ mb) : Below w.heap.size w b :=
  h.grown h1 h.size (fun j e => by cases e; exact hm)
theorem km_drew {mb : Nat} {a b : World} (h : a.drew.grownBy b (some mb)) : a.grownBy b (some mb) := ⟨h.os, h.tape, h.output, h.size, h.block⟩

theorem store_grown {b : Nat} {w w1 : World} (hb : Below b w w1) (hz : w1.heap.size = w.heap.size) (ho : ∀ j, j ≠ b → w1.heap[j]? = w.heap[j]?) : w.grownBy w1 (some b) :=
  ⟨hb.os, hb.tape, hb.output, Nat.le_of_eq hz.symm, fun i _ hne => ho i (fun e => hne (by rw [e]))⟩

/-- a map of complex integers -/
def gF (σ : ByteArray → Option (Int × Int)) : ByteArray → Option Value := fun s => (σ s).map fun z => .agg #[.int .i64 z.1, .int .i64 z.2]
def setG (σ : ByteArray → Option (Int × Int)) (s : ByteArray) (z : Int × Int) : ByteArray → Option (Int × Int) := fun t => if t = s then some z else σ t
theorem gF_put (σ : ByteArray → Option (Int × Int)) (s : ByteArray) (z : Int × Int) : putF (gF σ) s (.agg #[.int .i64 z.1, .int .i64 z.2]) = gF (setG σ s z) := by
  funext t
  unfold putF gF setG
  split <;> rfl
theorem gF_nil : (fun _ => none : ByteArray → Option Value) = gF (fun _ => none) := rfl
theorem MapV.gauss {K b n : Nat} {w : World} {σ : ByteArray → Option (Int × Int)} (h : MapV K b n w (gF σ)) (hK : Tryz.prog.underlying K = some .string) (hT : Tryz.prog.underlying 175 = some (.map K 97)) {s : ByteArray} (hs : s.size ≤ maxLen) :
    (Instr.lookup 175 (.map (some b)) (.string s) false).run Tryz.prog w = .ok (.agg #[.int .i64 ((σ s).getD (0, 0)).1, .int .i64 ((σ s).getD (0, 0)).2]) w := by
  rw [h.run hK hT (Tryz.zeroValue97 w) hs]
  unfold gF
  cases σ s <;> rfl

/-- the voltages of the first k nodes, and what is known of them -/
def voltV (l : List Nd) (xs : List (Int × Int)) (σ : ByteArray → Option (Int × Int)) (k : Nat) : Int × Int :=
  (((σ (l.getD k default).parent).getD (0, 0)).1 + (mulG ((l.getD k default).re, (l.getD k default).im) (xs.getD k (0, 0))).1, ((σ (l.getD k default).parent).getD (0, 0)).2 + (mulG ((l.getD k default).re, (l.getD k default).im) (xs.getD k (0, 0))).2)
def voltSt (l : List Nd) (xs : List (Int × Int)) (supply : Int × Int) : Nat → (ByteArray → Option (Int × Int)) × List (Int × Int)
  | 0 => (setG (fun _ => none) ByteArray.empty supply, [])
  | k + 1 => (setG (voltSt l xs supply k).1 (l.getD k default).name (voltV l xs (voltSt l xs supply k).1 k), (voltSt l xs supply k).2 ++ [voltV l xs (voltSt l xs supply k).1 k])
theorem voltSt_len (l : List Nd) (xs : List (Int × Int)) (supply : Int × Int) : ∀ k, (voltSt l xs supply k).2.length = k
  | 0 => rfl
  | k + 1 => by simp [voltSt, voltSt_len l xs supply k]
def SigLe (m : Int) (σ : ByteArray → Option (Int × Int)) : Prop := ∀ s, -m ≤ ((σ s).getD (0, 0)).1 ∧ ((σ s).getD (0, 0)).1 ≤ m ∧ -m ≤ ((σ s).getD (0, 0)).2 ∧ ((σ s).getD (0, 0)).2 ≤ m
theorem sigLe_set {m m' : Int} {σ : ByteArray → Option (Int × Int)} (h : SigLe m σ) (hm : m ≤ m') (s : ByteArray) (z : Int × Int) (hz : -m' ≤ z.1 ∧ z.1 ≤ m' ∧ -m' ≤ z.2 ∧ z.2 ≤ m') : SigLe m' (setG σ s z) := by
  intro t
  unfold setG
  split
  · exact hz
  · have := h t; omega
theorem mulG_le {a b : Int × Int} (m k : Nat) (ha : a.1.natAbs ≤ m) (hb : a.2.natAbs ≤ m) (hc : b.1.natAbs ≤ k) (hd : b.2.natAbs ≤ k) : (mulG a b).1.natAbs ≤ 2 * (m * k) ∧ (mulG a b).2.natAbs ≤ 2 * (m * k) := by
  have p1 : (a.1 * b.1).natAbs ≤ m * k := by rw [Int.natAbs_mul]; exact Nat.mul_le_mul ha hc
  have p2 : (a.2 * b.2).natAbs ≤ m * k := by rw [Int.natAbs_mul]; exact Nat.mul_le_mul hb hd
  have p3 : (a.1 * b.2).natAbs ≤ m * k := by rw [Int.natAbs_mul]; exact Nat.mul_le_mul ha hd
  have p4 : (a.2 * b.1).natAbs ≤ m * k := by rw [Int.natAbs_mul]; exact Nat.mul_le_mul hb hc
  generalize m * k = q at p1 p2 p3 p4 ⊢
  unfold mulG
  omega
theorem Good.currentD {l : List Nd} (h : Good l) (k : Nat) (hk : k < l.length) : ((currentsN l).getD k (0, 0)).1.natAbs ≤ 16000 ∧ ((currentsN l).getD k (0, 0)).2.natAbs ≤ 16000 := by
  have : (currentsN l).getD k (0, 0) = currentN l l[k] := by simp [currentsN, hk]
  rw [this]
  have := h.current l[k]
  omega
theorem Good.impD {l : List Nd} (h : Good l) (k : Nat) (hk : k < l.length) : (l.getD k default).re.natAbs ≤ 1000 ∧ (l.getD k default).im.natAbs ≤ 1000 := by
  have e : l.getD k default = l[k] := by simp [hk]
  rw [e]
  have := h.mem (List.getElem_mem hk)
  have h1 := this.re0; have h2 := this.re1; have h3 := this.im0; have h4 := this.im1
  omega

def voltagesN (l : List Nd) (supply : Int × Int) : List (Int × Int) := (voltSt l (currentsN l) supply l.length).2
def voltagesE (l : List Nd) (s : Int × Int) : Int := firstV [checkNodesV l, partsV s.1 s.2 (-100000000) 100000000]
def voltagesR (l : List Nd) (s : Int × Int) : List (Int × Int) × Int := if voltagesE l s ≠ 0 then ([], voltagesE l s) else (voltagesN l s, 0)

theorem keepMV {w W W1 : World} {a0 a1 a2 a3 a4 : Addr} {u0 u1 u2 u3 u4 : Value} {K b1 n1 : Nat} {f1 : ByteArray → Option Value} (h : W.cell? a0 = some u0 ∧ W.cell? a1 = some u1 ∧ W.cell? a2 = some u2 ∧ W.cell? a3 = some u3 ∧ W.cell? a4 = some u4 ∧ MapV K b1 n1 W f1 ∧ Below w.heap.size w W) (hb : Below W.heap.size W W1) :
    W1.cell? a0 = some u0 ∧ W1.cell? a1 = some u1 ∧ W1.cell? a2 = some u2 ∧ W1.cell? a3 = some u3 ∧ W1.cell? a4 = some u4 ∧ MapV K b1 n1 W1 f1 ∧ Below w.heap.size w W1 :=
  ⟨ext_cell hb h.1, ext_cell hb h.2.1, ext_cell hb h.2.2.1, ext_cell hb h.2.2.2.1, ext_cell hb h.2.2.2.2.1, h.2.2.2.2.2.1.ext hb, ext_trans h.2.2.2.2.2.2 hb⟩

set_option maxHeartbeats 8000000 in
theorem Voltages_any (v : Value) (l : List Nd) (s : Int × Int) (w : World) (hs : SlAt encN 7 w v l) (hok : Names l) (hpar : ∀ n ∈ l, n.parent.size ≤ 1048576) :
    Calls Tryz.prog 53 #[v, .agg #[.int .i64 s.1, .int .i64 s.2]] w (Ret2 encG 2 97 (voltagesR l s) w) := by
  have hsw := hs
  obtain ⟨A, c, rfl, hc1, hc2, hr⟩ := hs
  have hc := fun W hW => checkNodes_any l _ W (hsw.ext hW) hok
  have hz : checkNodesV l = 0 → _ := good_of
  have hV : voltagesR l s = if firstV [checkNodesV l, partsV s.1 s.2 (-100000000) 100000000] ≠ 0 then ([], firstV [checkNodesV l, partsV s.1 s.2 (-100000000) 100000000]) else (voltagesN l s, 0) := rfl
  have hp0 := fun W => parts_any s.1 s.2 (-100000000) 100000000 W
  have hpz : partsV s.1 s.2 (-100000000) 100000000 = 0 → _ := partsV_zero.1
  rw [hV]
  clear hV
  generalize checkNodesV l = e0 at hc hz ⊢
  generalize partsV s.1 s.2 (-100000000) 100000000 = e1 at hp0 hpz ⊢
  have hbB : Below w.heap.size w (w.alloc (.cells #[.int .i64 s.1, .int .i64 s.2] 97)) := ext_alloc _ _
  have xB := BoxC.new w 97 #[.int .i64 s.1, .int .i64 s.2]
  have p0 := xB.cell 0 _ rfl
  have p1 := xB.cell 1 _ rfl
  clear xB
  go_enter Tryz.func53, Tryz.ntmps53
  cases hq : (firstV [e0, e1] != 0)
  · rw [if_neg (by simpa using hq)]
    generalize hres : voltagesN l s = res
    go_wp2
    generalize World.alloc w _ = W at hbB p0 p1 ⊢
    have dB0 : Below W.heap.size W W := Below.refl _ _
    have he : firstV [e0, e1] = 0 := by simpa using hq
    obtain ⟨rfl, rfl⟩ : e0 = 0 ∧ e1 = 0 := by simpa [firstV_zero] using he
    have hg := hz rfl
    obtain ⟨⟨hs1, hs2⟩, hs3, hs4⟩ := hpz rfl
    refine wp_region_plan (fun w' => w'.cell? ⟨w.heap.size, 0, none⟩ = some (.int .i64 s.1) ∧ w'.cell? ⟨w.heap.size, 1, none⟩ = some (.int .i64 s.2) ∧ Below W.heap.size W w') [1, 3, 4, 5] [0, 2, 1, 3, 4, 5, 6] (by kernel_rfl) (by kernel_rfl) (by ((first | assumption | exact keep2 (by assumption) (by assumption) | exact keep2 (by assumption) (ext_alloc _ _) | exact keep2 (by assumption) (ext_drew _) | exact keep2 ⟨by assumption, by assumption, by assumption⟩ (ext_drew _) | go_keep))) (fun hSw => ?_)
    repeat (first
      | (refine wpPlan_pas rfl rfl (fun K hK => ?_)
         apply Exists.intro
         refine ⟨?_, ?_⟩
         · first | exact pasOk_no rfl | (apply pasOk_yes rfl; intro wS hS; obtain ⟨s0, s1, s2⟩ := hS; go_simp; first | done | exact rfl | ((try simp only [↓IntWalk.iteOmega]); (try go_bits); (try go_simp); first | done | exact rfl))
         go_simp
         refine hK _ ?_
         clear hK K)
      | (refine wpPlan_no rfl rfl rfl (by assumption) (fun K hK => ?_)
         go_simp
         refine hK _ ?_
         clear hK K)
      | (refine wpPlan_act rfl rfl rfl (fun K hK => ?_)
         go_wp2_with (first | (go_at_call 21; refine (hc _ (ext_trans hbB hSw.2.2)).mono ?_; rintro e wA ⟨rfl, hbA⟩) | (go_at_call 103; refine (hp0 _).mono ?_; rintro e wC ⟨rfl, hbC⟩) | (go_at_call 81; refine (first_any [_, _] _ _ (slat_new encI_len (by simp) rfl (by simp))).mono ?_; rintro e w3 ⟨rfl, rfl⟩))
         refine OnlyK.go (hK _ _ (by ((first | assumption | exact keep2 (by assumption) (by assumption) | exact keep2 (by assumption) (ext_alloc _ _) | exact keep2 (by assumption) (ext_drew _) | exact keep2 ⟨by assumption, by assumption, by assumption⟩ (ext_drew _) | go_keep))) (fun hSw => ?_))
         clear hK K))
    refine wpPlan_nil ?_
    obtain ⟨s0, s1, hbS⟩ := hSw
    have hbT := ext_trans hbB hbS
    generalize World.alloc _ (Obj.cells _ 26) = W3 at s0 s1 hbS hbT ⊢
    have m0 := MapV.new 9 W3
    rw [gF_nil] at m0
    have k0 := fun o => ext_cell (ext_alloc W3 o) s0
    have k1 := fun o => ext_cell (ext_alloc W3 o) s1
    have uK := Tryz.underlying9
    have uT := Tryz.underlying175
    have hm0 : ByteArray.empty.size ≤ maxLen := by decide
    have hcu := fun W hW => currents_any _ l hg.acyc hg.len0 hg.len hg.cur W (hsw.ext hW)
    have hmm := @run_makeMap Tryz.prog
    have hV : voltagesN l s = (voltSt l (currentsN l) s l.length).2 := rfl
    have hxl : (currentsN l).length = l.length := List.length_map _
    have hxd := hg.currentD
    have hid := hg.impD
    have hln := hg.len1
    rw [hV] at hres
    clear hV hc hp0 hpz hz p0 p1 hbA dB0 hbS hq he hg
    generalize currentsN l = xs at hcu hxl hxd hres
    have hw3 := hbT.size
    have hk1 := hbT.alloc hw3 (.map #[] 0)
    have HRES := Lib.hid hres
    have HXL := Lib.hid hxl
    clear hres hxl
    go_wp2_with (first
      | (refine wpList_insV (b := W3.heap.size) (n := 0) rfl _ _ _ _ rfl uK uT rfl m0 (by decide) ByteArray.empty (.agg #[.int .i64 s.1, .int .i64 s.2]) rfl rfl hm0 ?_; intro w4 m4 hg4; have hb4 : Below w.heap.size w w4 := hk1.grown hg4 hk1.size (fun j e => by cases e; exact hw3))
      | (go_at_call 75; refine (hcu _ hb4).mono ?_; rintro e w6 ⟨v2, rfl, ho2, hb6, hn2⟩; have hb7 := ext_trans hb4 hb6; have m6 := m4.ext hb6; have hsx := ho2.slat encG_len; have hm6 := m4.lt; obtain ⟨A2, c2, hv2⟩ := ho2.slice; subst hv2))
    rw [gF_put (fun _ => none) ByteArray.empty s] at m6
    have hne3 := ho2.base_le
    have hsg0 : SigLe (100000000 + ((0 : Nat) : Int) * 64000000) (voltSt l xs s 0).1 := by
      intro t
      have e : (voltSt l xs s 0).1 t = if t = ByteArray.empty then some s else none := rfl
      rw [e]
      by_cases h : t = ByteArray.empty
      · simp only [h, if_true, Option.getD_some]; omega
      · simp only [h, if_false, Option.getD_none]; omega
    have HSG0 := Lib.hid hsg0
    clear hsg0 hmm hcu m0 m4 hg4 hk1 s0 s1 k0 k1 ho2 hn2
    go_loopw [27, 8] (fun i o wr => ∃ k n : Nat, k ≤ xs.length ∧ i = .int .i64 k ∧ n ≤ k + 1 ∧ w6.grownBy wr (some W3.heap.size) ∧ MapV 9 W3.heap.size n wr (gF (voltSt l xs s k).1) ∧ Own encG 2 w6.heap.size 97 wr o (voltSt l xs s k).2 ∧ Hid ((voltSt l xs s k).2 = [] → o = .slice none 0 0) ∧ Hid (SigLe (100000000 + k * 64000000) (voltSt l xs s k).1)) (fun i _ _ => xs.length - (intOf i).toNat)
    case atStart => exact ⟨0, 1, Nat.zero_le _, rfl, by omega, km_refl _ _, m6, Own.nil _, fun _ => rfl, HSG0⟩
    case round =>
      obtain ⟨k, n, hk, rfl, hn, hkm, mR, ho, hnil, hsg⟩ := hrel
      have hbw := below_km hb7 hkm hw3
      by_cases hlt : k < xs.length
      · have hkl : k < l.length := by have := HXL.out; omega
        obtain ⟨b1, o1, rfl, hbl1, hcell1⟩ := hr (by omega)
        obtain ⟨A3', c3', e3', _, _, hr3⟩ := hsx
        obtain ⟨b3, o3, rfl, hbl3, hcell3⟩ := hr3 (by omega)
        cases e3'
        have hb3ne := hne3 b3 rfl
        have hx1 : l[k]? = some (l.getD k default) := by rw [List.getD_eq_getElem?_getD, List.getElem?_eq_getElem hkl]; rfl
        have hx3 : xs[k]? = some (xs.getD k (0, 0)) := by rw [List.getD_eq_getElem?_getD, List.getElem?_eq_getElem hlt]; rfl
        have c0 := ext_cell hbw (hcell1 k _ hx1 0 _ rfl)
        have c1 := ext_cell hbw (hcell1 k _ hx1 1 _ rfl)
        have c2 := ext_cell hbw (hcell1 k _ hx1 2 _ rfl)
        have c3 := ext_cell hbw (hcell1 k _ hx1 3 _ rfl)
        have x0 := cell_grown hkm (hcell3 k _ hx3 0 _ rfl) (by simp; omega)
        have x1 := cell_grown hkm (hcell3 k _ hx3 1 _ rfl) (by simp; omega)
        rw [Nat.add_zero] at c0 x0
        have hst : voltSt l xs s (k + 1) = (setG (voltSt l xs s k).1 (l.getD k default).name (voltV l xs (voltSt l xs s k).1 k), (voltSt l xs s k).2 ++ [voltV l xs (voltSt l xs s k).1 k]) := rfl
        have hpl := voltSt_len l xs s k
        have hpm : (l.getD k default).parent.size ≤ maxLen := by
          have := hpar (l.getD k default) (List.mem_of_getElem? hx1)
          simp only [maxLen]; omega
        have hnm : (l.getD k default).name.size ≤ maxLen := hok (l.getD k default) (List.mem_of_getElem? hx1)
        have hvv : voltV l xs (voltSt l xs s k).1 k = ((((voltSt l xs s k).1 (l.getD k default).parent).getD (0, 0)).1 + (mulG ((l.getD k default).re, (l.getD k default).im) (xs.getD k (0, 0))).1, (((voltSt l xs s k).1 (l.getD k default).parent).getD (0, 0)).2 + (mulG ((l.getD k default).re, (l.getD k default).im) (xs.getD k (0, 0))).2) := rfl
        rw [hvv] at hst
        clear hvv
        obtain ⟨i1, i2⟩ := hid k hkl
        obtain ⟨j1, j2⟩ := hxd k hkl
        have hmok := mulOk_le (a := ((l.getD k default).re, (l.getD k default).im)) (b := xs.getD k (0, 0)) 1000 16000 i1 i2 j1 j2 (by omega) (by omega) (by omega)
        have hmle := mulG_le (a := ((l.getD k default).re, (l.getD k default).im)) (b := xs.getD k (0, 0)) 1000 16000 i1 i2 j1 j2
        generalize l.getD k default = x at hst hpm hnm hmok hmle c0 c1 c2 c3
        generalize xs.getD k (0, 0) = cu at hst hmok hmle x0 x1
        generalize mulG (x.re, x.im) cu = mm at hst hmok hmle
        generalize voltSt l xs s k = st at mR ho hnil hsg hst hpl
        obtain ⟨σ, ys⟩ := st
        simp only at mR ho hnil hsg hst hpl
        have hsl := hsg.out x.parent
        generalize hp0 : (σ x.parent).getD (0, 0) = p0 at hst hsl
        have HP0 := Lib.hid hp0
        have HST := Lib.hid hst
        have HPL := Lib.hid hpl
        clear hst hpl hp0 hx1 hx3 hcell1 hcell3 hr hr3 hid hxd hpar i1 i2 j1 j2
        have hk16 : k ≤ 16 := by omega
        have hsz := hkm.size
        go_wp2
        generalize hW : World.alloc wr _ = W
        have hbW : Below wr.heap.size wr W := by rw [← hW]; exact ext_alloc _ _
        have cW0 : W.cell? ⟨wr.heap.size, 0, none⟩ = some (.int .i64 cu.1) := by rw [← hW]; simp [World.cell?_alloc_new]
        have cW1 : W.cell? ⟨wr.heap.size, 1, none⟩ = some (.int .i64 cu.2) := by rw [← hW]; simp [World.cell?_alloc_new]
        have hWs : wr.heap.size < W.heap.size := by rw [← hW]; simp
        clear hW
        have d0 := ext_cell hbW c0
        have d1 := ext_cell hbW c1
        have d2 := ext_cell hbW c2
        have d3 := ext_cell hbW c3
        have mW := mR.ext hbW
        have hoW := ho.ext hbW
        have hkW := km_below hkm hbW
        have dB0 : Below W.heap.size W W := Below.refl _ _
        have r80 := RowC.new encG_len W 97 (0, 0)
        have hwle := hbw.size
        clear c0 c1 c2 c3 x0 x1 mR ho hkm hbw
        refine wp_region_tree (fun w' => w'.cell? ⟨wr.heap.size, 0, none⟩ = some (.int .i64 cu.1) ∧ w'.cell? ⟨wr.heap.size, 1, none⟩ = some (.int .i64 cu.2) ∧ w'.cell? ⟨b1, o1 + k * 7 + 1, none⟩ = some (.string x.parent) ∧ w'.cell? ⟨b1, o1 + k * 7 + 2, none⟩ = some (.int .i64 x.re) ∧ w'.cell? ⟨b1, o1 + k * 7 + 3, none⟩ = some (.int .i64 x.im) ∧ MapV 9 W3.heap.size n w' (gF σ) ∧ Below W.heap.size W w') [13, 14, 15, 16] (.one 0 (.one 1 (.one 2 (.one 3 (.one 4 (.one 5 (.one 6 (.one 7 (.one 8 (.one 9 (.one 10 (.one 11 (.one 12 (.two 13 15 (.two 14 15 (.one 15 (.one 16 .nil)) (.one 14 (.one 16 .nil))) (.one 13 (.one 14 (.one 16 .nil))))))))))))))))) (by kernel_rfl) (by kernel_rfl) (by ((first | assumption | exact keepMV (by assumption) (by assumption) | exact keepMV (by assumption) (ext_alloc _ _) | exact keepMV (by assumption) (ext_drew _) | exact keepMV ⟨by assumption, by assumption, by assumption, by assumption, by assumption, by assumption, by assumption⟩ (ext_drew _) | go_keep))) (fun hSw => ?_)
        iterate 13 (first
          | (refine wpT_pas rfl rfl (fun K hK => ?_)
             apply Exists.intro
             refine ⟨?_, ?_⟩
             · first | exact pasOk_no rfl | (apply pasOk_yes rfl; intro wS hS; obtain ⟨s0, s1, s2, s3, s4, s5, s6⟩ := hS; have q1 := s5.gauss uK uT hpm; rw [HP0.out] at q1; go_simp; first | done | exact rfl | ((try simp only [↓IntWalk.iteOmega]); (try go_bits); (try go_simp); first | done | exact rfl))
             go_simp
             refine hK _ ?_
             clear hK K)
          | (refine wpT_act rfl rfl rfl (fun K hK => ?_)
             go_wp2
             refine OnlyK.go (hK _ _ (by ((first | assumption | exact keepMV (by assumption) (by assumption) | exact keepMV (by assumption) (ext_alloc _ _) | exact keepMV (by assumption) (ext_drew _) | exact keepMV ⟨by assumption, by assumption, by assumption, by assumption, by assumption, by assumption, by assumption⟩ (ext_drew _) | go_keep))) (fun hSw => ?_))
             clear hK K))
        refine wpT_two rfl rfl rfl rfl (fun K hK => ?_) (fun K hK => ?_)
        · go_wp2_with (first | (go_at_call 105; refine (times_any (x.re, x.im) cu mm _ hmok).mono ?_; rintro e wT ⟨rfl, hbT⟩; have hTs : W.heap.size ≤ wT.heap.size := hbT.size))
          refine OnlyK.go (hK _ _ (by ((first | assumption | exact keepMV (by assumption) (by assumption) | exact keepMV (by assumption) (ext_alloc _ _) | exact keepMV (by assumption) (ext_drew _) | exact keepMV ⟨by assumption, by assumption, by assumption, by assumption, by assumption, by assumption, by assumption⟩ (ext_drew _) | go_keep))) (fun hSw => ?_))
          clear hK K
          refine wpT_two rfl rfl rfl rfl (fun K hK => ?_) (fun K hK => ?_)
          · go_wp2_with (first | (go_at_call 105; refine (times_any (x.re, x.im) cu mm _ hmok).mono ?_; rintro e wT ⟨rfl, hbT⟩; have hTs : W.heap.size ≤ wT.heap.size := hbT.size) | (go_at_call 104; refine (plus_any p0.1 p0.2 mm.1 mm.2 _ (by omega) (by omega) (by omega) (by omega)).mono ?_; rintro e wP ⟨rfl, hbP⟩))
            refine OnlyK.go (hK _ _ (by ((first | assumption | exact keepMV (by assumption) (by assumption) | exact keepMV (by assumption) (ext_alloc _ _) | exact keepMV (by assumption) (ext_drew _) | exact keepMV ⟨by assumption, by assumption, by assumption, by assumption, by assumption, by assumption, by assumption⟩ (ext_drew _) | go_keep))) (fun hSw => ?_))
            clear hK K
            iterate 2 (first
              | (refine wpT_pas rfl rfl (fun K hK => ?_)
                 apply Exists.intro
                 refine ⟨?_, ?_⟩
                 · first | exact pasOk_no rfl | (apply pasOk_yes rfl; intro wS hS; obtain ⟨s0, s1, s2, s3, s4, s5, s6⟩ := hS; have q1 := s5.gauss uK uT hpm; rw [HP0.out] at q1; go_simp; first | done | exact rfl | ((try simp only [↓IntWalk.iteOmega]); (try go_bits); (try go_simp); first | done | exact rfl))
                 go_simp
                 refine hK _ ?_
                 clear hK K)
              | (refine wpT_act rfl rfl rfl (fun K hK => ?_)
                 go_wp2_with (first | (go_at_call 105; refine (times_any (x.re, x.im) cu mm _ hmok).mono ?_; rintro e wT ⟨rfl, hbT⟩; have hTs : W.heap.size ≤ wT.heap.size := hbT.size) | (go_at_call 104; refine (plus_any p0.1 p0.2 mm.1 mm.2 _ (by omega) (by omega) (by omega) (by omega)).mono ?_; rintro e wP ⟨rfl, hbP⟩))
                 refine OnlyK.go (hK _ _ (by ((first | assumption | exact keepMV (by assumption) (by assumption) | exact keepMV (by assumption) (ext_alloc _ _) | exact keepMV (by assumption) (ext_drew _) | exact keepMV ⟨by assumption, by assumption, by assumption, by assumption, by assumption, by assumption, by assumption⟩ (ext_drew _) | go_keep))) (fun hSw => ?_))
                 clear hK K))
            refine wpT_nil ?_
            have hvs : W.heap.size ≤ wP.heap.size := Nat.le_trans hTs hbP.size
            obtain ⟨_, _, _, _, _, s5, s6⟩ := hSw
            have hr9 := RowC.new encG_len wP 97 (p0.1 + mm.1, p0.2 + mm.2)
            simp only [encG] at hr9
            generalize hW9 : World.alloc wP _ = w9 at s5 s6 hr9 ⊢
            clear hW9
            obtain ⟨y0, y1⟩ := RowC.g0 hr9
            have e0 := ext_cell s6 d0
            have ho9 := hoW.ext s6
            have hk9 := km_below hkW s6
            have hbw9 := below_km hb7 hk9 hw3
            have hb1l : b1 < W3.heap.size := by omega
            go_wp2
            refine wp_region_plan (fun w' => w'.cell? ⟨b1, o1 + k * 7, none⟩ = some (.string x.name) ∧ w'.cell? ⟨wP.heap.size, 0, none⟩ = some (.int .i64 (p0.1 + mm.1)) ∧ w'.cell? ⟨wP.heap.size, 1, none⟩ = some (.int .i64 (p0.2 + mm.2)) ∧ Below w.heap.size w w') [7] [0, 1, 2, 3, 4, 5, 6, 7] (by kernel_rfl) (by kernel_rfl) (by ((first | assumption | exact keep3 (by assumption) (by assumption) | exact keep3 (by assumption) (ext_alloc _ _) | exact keep3 (by assumption) (ext_drew _) | exact keep3 ⟨by assumption, by assumption, by assumption, by assumption⟩ (ext_drew _) | go_keep))) (fun hSw => ?_)
            repeat (first
              | (refine wpPlan_pas rfl rfl (fun K hK => ?_)
                 apply Exists.intro
                 refine ⟨?_, ?_⟩
                 · first | exact pasOk_no rfl | (apply pasOk_yes rfl; intro wS hS; obtain ⟨s0, s1, s2, s3⟩ := hS; go_simp; first | done | exact rfl | ((try simp only [↓IntWalk.iteOmega]); (try go_bits); (try go_simp); first | done | exact rfl))
                 go_simp
                 refine hK _ ?_
                 clear hK K)
              | (refine wpPlan_no rfl rfl rfl (by assumption) (fun K hK => ?_)
                 go_simp
                 refine hK _ ?_
                 clear hK K)
              | (refine wpPlan_act rfl rfl rfl (fun K hK => ?_)
                 go_wp2_with (first | (at_mapUpdate; refine wpList_mapV (w := World.drew w9) (b := W3.heap.size) (n := n) rfl _ _ _ _ rfl uK uT rfl s5 (by simp only [maxLen]; omega) x.name (.agg #[.int .i64 (p0.1 + mm.1), .int .i64 (p0.2 + mm.2)]) rfl rfl hnm ?_; intro w10 m10 hg10; have hg10' := km_drew hg10; have hS10 : _ ∧ _ ∧ _ ∧ _ := ⟨cell_grown hg10' e0 (by simp; omega), cell_grown hg10' y0 (by simp; omega), cell_grown hg10' y1 (by simp; omega), hbw9.grown hg10' hbw9.size (fun j e => by cases e; omega)⟩))
                 refine OnlyK.go (hK _ _ (by ((first | assumption | exact keep3 (by assumption) (by assumption) | exact keep3 (by assumption) (ext_alloc _ _) | exact keep3 (by assumption) (ext_drew _) | exact keep3 ⟨by assumption, by assumption, by assumption, by assumption⟩ (ext_drew _) | go_keep))) (fun hSw => ?_))
                 clear hK K))
            refine wpPlan_nil ?_
            obtain ⟨_, z0, z1, hbw10⟩ := hSw
            have ho10 := ho9.kept hg10' (.inr (fun e => by have := ho9.base_le _ e; omega))
            have hk10 := km_trans hk9 hg10'
            have hsz10 := hk10.size
            go_wp2_with (at_builtin; refine own_append (w0 := w10) rfl _ _ 31 (.agg #[.int .i64 0, .int .i64 0]) 16 rfl Tryz.underlying31 infoG rfl (by decide) (by decide) encG_len _ ys (p0.1 + mm.1, p0.2 + mm.2) _ rfl rfl rfl (by simp [encG, Value.oneCell']) ho10 (Below.refl _ _) hsz10 (by have := HPL.out; omega) ?_; intro v1 w11 hown hbv hgv hnn)
            have m11 := m10.kept hgv (fun e => by have := ho10.base_le _ e.symm; omega)
            have hk11 := km_from hk10 hbv
            have hsig := sigLe_set hsg.out (m' := 100000000 + ((k + 1 : Nat) : Int) * 64000000) (by omega) x.name (p0.1 + mm.1, p0.2 + mm.2) (by simp only; omega)
            go_roundw
            case rel => exact ⟨k + 1, n + 1, by omega, by go_num, by omega, hk11, by rw [HST.out]; simp only; rw [← gF_put]; exact m11, by rw [HST.out]; exact hown, fun h => by rw [HST.out] at h; simp at h, by rw [HST.out]; exact hsig⟩
            case measure => simp [intOf]; omega
          · go_wp2_with (first | (go_at_call 105; refine (times_any (x.re, x.im) cu mm _ hmok).mono ?_; rintro e wT ⟨rfl, hbT⟩; have hTs : W.heap.size ≤ wT.heap.size := hbT.size) | (go_at_call 104; refine (plus_any p0.1 p0.2 mm.1 mm.2 _ (by omega) (by omega) (by omega) (by omega)).mono ?_; rintro e wP ⟨rfl, hbP⟩; have r8 : RowC encG 2 wT.heap.size 0 wP [(0, 0)] := RowC.ext (w := wT.alloc (.cells #[.int .i64 0, .int .i64 0] 97)) (RowC.new encG_len wT 97 (0, 0)) hbP) | (refine wpList_store_row2 rfl 97 _ _ rfl encG_len encG_one sizeG 0 (p0.1 + mm.1, p0.2 + mm.2) r8 (by simp) rfl _ rfl rfl ?_; intro w9 hr9 hb9 hz9 ho9; have hg9 := store_grown hb9 hz9 ho9; obtain ⟨s0, s1, s2, s3, s4, s5, s6⟩ := hSw; have hvb := r8.1; have hS9 : _ ∧ _ ∧ _ ∧ _ ∧ _ ∧ _ ∧ _ := ⟨cell_grown hg9 s0 (by simp; omega), cell_grown hg9 s1 (by simp; omega), cell_grown hg9 s2 (by simp; omega), cell_grown hg9 s3 (by simp; omega), cell_grown hg9 s4 (by simp; omega), s5.kept hg9 (by simp; omega), s6.grown hg9 s6.size (fun j e => by cases e; omega)⟩))
            refine OnlyK.go (hK _ _ (by ((first | assumption | exact keepMV (by assumption) (by assumption) | exact keepMV (by assumption) (ext_alloc _ _) | exact keepMV (by assumption) (ext_drew _) | exact keepMV ⟨by assumption, by assumption, by assumption, by assumption, by assumption, by assumption, by assumption⟩ (ext_drew _) | go_keep))) (fun hSw => ?_))
            clear hK K
            iterate 2 (first
              | (refine wpT_pas rfl rfl (fun K hK => ?_)
                 apply Exists.intro
                 refine ⟨?_, ?_⟩
                 · first | exact pasOk_no rfl | (apply pasOk_yes rfl; intro wS hS; obtain ⟨s0, s1, s2, s3, s4, s5, s6⟩ := hS; have q1 := s5.gauss uK uT hpm; rw [HP0.out] at q1; go_simp; first | done | exact rfl | ((try simp only [↓IntWalk.iteOmega]); (try go_bits); (try go_simp); first | done | exact rfl))
                 go_simp
                 refine hK _ ?_
                 clear hK K)
              | (refine wpT_act rfl rfl rfl (fun K hK => ?_)
                 go_wp2_with (first | (go_at_call 105; refine (times_any (x.re, x.im) cu mm _ hmok).mono ?_; rintro e wT ⟨rfl, hbT⟩; have hTs : W.heap.size ≤ wT.heap.size := hbT.size) | (go_at_call 104; refine (plus_any p0.1 p0.2 mm.1 mm.2 _ (by omega) (by omega) (by omega) (by omega)).mono ?_; rintro e wP ⟨rfl, hbP⟩; have r8 : RowC encG 2 wT.heap.size 0 wP [(0, 0)] := RowC.ext (w := wT.alloc (.cells #[.int .i64 0, .int .i64 0] 97)) (RowC.new encG_len wT 97 (0, 0)) hbP) | (refine wpList_store_row2 rfl 97 _ _ rfl encG_len encG_one sizeG 0 (p0.1 + mm.1, p0.2 + mm.2) r8 (by simp) rfl _ rfl rfl ?_; intro w9 hr9 hb9 hz9 ho9; have hg9 := store_grown hb9 hz9 ho9; obtain ⟨s0, s1, s2, s3, s4, s5, s6⟩ := hSw; have hvb := r8.1; have hS9 : _ ∧ _ ∧ _ ∧ _ ∧ _ ∧ _ ∧ _ := ⟨cell_grown hg9 s0 (by simp; omega), cell_grown hg9 s1 (by simp; omega), cell_grown hg9 s2 (by simp; omega), cell_grown hg9 s3 (by simp; omega), cell_grown hg9 s4 (by simp; omega), s5.kept hg9 (by simp; omega), s6.grown hg9 s6.size (fun j e => by cases e; omega)⟩))
                 refine OnlyK.go (hK _ _ (by ((first | assumption | exact keepMV (by assumption) (by assumption) | exact keepMV (by assumption) (ext_alloc _ _) | exact keepMV (by assumption) (ext_drew _) | exact keepMV ⟨by assumption, by assumption, by assumption, by assumption, by assumption, by assumption, by assumption⟩ (ext_drew _) | go_keep))) (fun hSw => ?_))
                 clear hK K))
            refine wpT_nil ?_
            have hvs : W.heap.size ≤ wT.heap.size := hTs
            obtain ⟨_, _, _, _, _, s5, s6⟩ := hSw
            obtain ⟨y0, y1⟩ := RowC.g0 hr9
            have e0 := ext_cell s6 d0
            have ho9 := hoW.ext s6
            have hk9 := km_below hkW s6
            have hbw9 := below_km hb7 hk9 hw3
            have hb1l : b1 < W3.heap.size := by omega
            go_wp2
            refine wp_region_plan (fun w' => w'.cell? ⟨b1, o1 + k * 7, none⟩ = some (.string x.name) ∧ w'.cell? ⟨wT.heap.size, 0, none⟩ = some (.int .i64 (p0.1 + mm.1)) ∧ w'.cell? ⟨wT.heap.size, 1, none⟩ = some (.int .i64 (p0.2 + mm.2)) ∧ Below w.heap.size w w') [7] [0, 1, 2, 3, 4, 5, 6, 7] (by kernel_rfl) (by kernel_rfl) (by ((first | assumption | exact keep3 (by assumption) (by assumption) | exact keep3 (by assumption) (ext_alloc _ _) | exact keep3 (by assumption) (ext_drew _) | exact keep3 ⟨by assumption, by assumption, by assumption, by assumption⟩ (ext_drew _) | go_keep))) (fun hSw => ?_)
            repeat (first
              | (refine wpPlan_pas rfl rfl (fun K hK => ?_)
                 apply Exists.intro
                 refine ⟨?_, ?_⟩
                 · first | exact pasOk_no rfl | (apply pasOk_yes rfl; intro wS hS; obtain ⟨s0, s1, s2, s3⟩ := hS; go_simp; first | done | exact rfl | ((try simp only [↓IntWalk.iteOmega]); (try go_bits); (try go_simp); first | done | exact rfl))
                 go_simp
                 refine hK _ ?_
                 clear hK K)
              | (refine wpPlan_no rfl rfl rfl (by assumption) (fun K hK => ?_)
                 go_simp
                 refine hK _ ?_
                 clear hK K)
              | (refine wpPlan_act rfl rfl rfl (fun K hK => ?_)
                 go_wp2_with (first | (at_mapUpdate; refine wpList_mapV (w := World.drew w9) (b := W3.heap.size) (n := n) rfl _ _ _ _ rfl uK uT rfl s5 (by simp only [maxLen]; omega) x.name (.agg #[.int .i64 (p0.1 + mm.1), .int .i64 (p0.2 + mm.2)]) rfl rfl hnm ?_; intro w10 m10 hg10; have hg10' := km_drew hg10; have hS10 : _ ∧ _ ∧ _ ∧ _ := ⟨cell_grown hg10' e0 (by simp; omega), cell_grown hg10' y0 (by simp; omega), cell_grown hg10' y1 (by simp; omega), hbw9.grown hg10' hbw9.size (fun j e => by cases e; omega)⟩))
                 refine OnlyK.go (hK _ _ (by ((first | assumption | exact keep3 (by assumption) (by assumption) | exact keep3 (by assumption) (ext_alloc _ _) | exact keep3 (by assumption) (ext_drew _) | exact keep3 ⟨by assumption, by assumption, by assumption, by assumption⟩ (ext_drew _) | go_keep))) (fun hSw => ?_))
                 clear hK K))
            refine wpPlan_nil ?_
            obtain ⟨_, z0, z1, hbw10⟩ := hSw
            have ho10 := ho9.kept hg10' (.inr (fun e => by have := ho9.base_le _ e; omega))
            have hk10 := km_trans hk9 hg10'
            have hsz10 := hk10.size
            go_wp2_with (at_builtin; refine own_append (w0 := w10) rfl _ _ 31 (.agg #[.int .i64 0, .int .i64 0]) 16 rfl Tryz.underlying31 infoG rfl (by decide) (by decide) encG_len _ ys (p0.1 + mm.1, p0.2 + mm.2) _ rfl rfl rfl (by simp [encG, Value.oneCell']) ho10 (Below.refl _ _) hsz10 (by have := HPL.out; omega) ?_; intro v1 w11 hown hbv hgv hnn)
            have m11 := m10.kept hgv (fun e => by have := ho10.base_le _ e.symm; omega)
            have hk11 := km_from hk10 hbv
            have hsig := sigLe_set hsg.out (m' := 100000000 + ((k + 1 : Nat) : Int) * 64000000) (by omega) x.name (p0.1 + mm.1, p0.2 + mm.2) (by simp only; omega)
            go_roundw
            case rel => exact ⟨k + 1, n + 1, by omega, by go_num, by omega, hk11, by rw [HST.out]; simp only; rw [← gF_put]; exact m11, by rw [HST.out]; exact hown, fun h => by rw [HST.out] at h; simp at h, by rw [HST.out]; exact hsig⟩
            case measure => simp [intOf]; omega
        · go_wp2_with (first | (go_at_call 105; refine (times_any (x.re, x.im) cu mm _ hmok).mono ?_; rintro e wT ⟨rfl, hbT⟩; have r81 := RowC.ext (w := World.drew _) r80 hbT) | (go_at_call 104; refine (plus_any p0.1 p0.2 mm.1 mm.2 _ (by omega) (by omega) (by omega) (by omega)).mono ?_; rintro e wP ⟨rfl, hbP⟩; have r8 := r81.ext hbP) | (refine wpList_store_row2 rfl 97 _ _ rfl encG_len encG_one sizeG 0 (p0.1 + mm.1, p0.2 + mm.2) r8 (by simp) rfl _ rfl rfl ?_; intro w9 hr9 hb9 hz9 ho9; have hg9 := store_grown hb9 hz9 ho9; obtain ⟨s0, s1, s2, s3, s4, s5, s6⟩ := hSw; have hvb := r8.1; have hS9 : _ ∧ _ ∧ _ ∧ _ ∧ _ ∧ _ ∧ _ := ⟨cell_grown hg9 s0 (by simp; omega), cell_grown hg9 s1 (by simp; omega), cell_grown hg9 s2 (by simp; omega), cell_grown hg9 s3 (by simp; omega), cell_grown hg9 s4 (by simp; omega), s5.kept hg9 (by simp; omega), s6.grown hg9 s6.size (fun j e => by cases e; omega)⟩))
          refine OnlyK.go (hK _ _ (by ((first | assumption | exact keepMV (by assumption) (by assumption) | exact keepMV (by assumption) (ext_alloc _ _) | exact keepMV (by assumption) (ext_drew _) | exact keepMV ⟨by assumption, by assumption, by assumption, by assumption, by assumption, by assumption, by assumption⟩ (ext_drew _) | go_keep))) (fun hSw => ?_))
          clear hK K
          iterate 3 (first
            | (refine wpT_pas rfl rfl (fun K hK => ?_)
               apply Exists.intro
               refine ⟨?_, ?_⟩
               · first | exact pasOk_no rfl | (apply pasOk_yes rfl; intro wS hS; obtain ⟨s0, s1, s2, s3, s4, s5, s6⟩ := hS; have q1 := s5.gauss uK uT hpm; rw [HP0.out] at q1; go_simp; first | done | exact rfl | ((try simp only [↓IntWalk.iteOmega]); (try go_bits); (try go_simp); first | done | exact rfl))
               go_simp
               refine hK _ ?_
               clear hK K)
            | (refine wpT_act rfl rfl rfl (fun K hK => ?_)
               go_wp2_with (first | (go_at_call 105; refine (times_any (x.re, x.im) cu mm _ hmok).mono ?_; rintro e wT ⟨rfl, hbT⟩; have r81 := RowC.ext (w := World.drew _) r80 hbT) | (go_at_call 104; refine (plus_any p0.1 p0.2 mm.1 mm.2 _ (by omega) (by omega) (by omega) (by omega)).mono ?_; rintro e wP ⟨rfl, hbP⟩; have r8 := r81.ext hbP) | (refine wpList_store_row2 rfl 97 _ _ rfl encG_len encG_one sizeG 0 (p0.1 + mm.1, p0.2 + mm.2) r8 (by simp) rfl _ rfl rfl ?_; intro w9 hr9 hb9 hz9 ho9; have hg9 := store_grown hb9 hz9 ho9; obtain ⟨s0, s1, s2, s3, s4, s5, s6⟩ := hSw; have hvb := r8.1; have hS9 : _ ∧ _ ∧ _ ∧ _ ∧ _ ∧ _ ∧ _ := ⟨cell_grown hg9 s0 (by simp; omega), cell_grown hg9 s1 (by simp; omega), cell_grown hg9 s2 (by simp; omega), cell_grown hg9 s3 (by simp; omega), cell_grown hg9 s4 (by simp; omega), s5.kept hg9 (by simp; omega), s6.grown hg9 s6.size (fun j e => by cases e; omega)⟩))
               refine OnlyK.go (hK _ _ (by ((first | assumption | exact keepMV (by assumption) (by assumption) | exact keepMV (by assumption) (ext_alloc _ _) | exact keepMV (by assumption) (ext_drew _) | exact keepMV ⟨by assumption, by assumption, by assumption, by assumption, by assumption, by assumption, by assumption⟩ (ext_drew _) | go_keep))) (fun hSw => ?_))
               clear hK K))
          refine wpT_nil ?_
          have hvs : W.heap.size ≤ W.heap.size := Nat.le_refl _
          obtain ⟨_, _, _, _, _, s5, s6⟩ := hSw
          obtain ⟨y0, y1⟩ := RowC.g0 hr9
          have e0 := ext_cell s6 d0
          have ho9 := hoW.ext s6
          have hk9 := km_below hkW s6
          have hbw9 := below_km hb7 hk9 hw3
          have hb1l : b1 < W3.heap.size := by omega
          go_wp2
          refine wp_region_plan (fun w' => w'.cell? ⟨b1, o1 + k * 7, none⟩ = some (.string x.name) ∧ w'.cell? ⟨W.heap.size, 0, none⟩ = some (.int .i64 (p0.1 + mm.1)) ∧ w'.cell? ⟨W.heap.size, 1, none⟩ = some (.int .i64 (p0.2 + mm.2)) ∧ Below w.heap.size w w') [7] [0, 1, 2, 3, 4, 5, 6, 7] (by kernel_rfl) (by kernel_rfl) (by ((first | assumption | exact keep3 (by assumption) (by assumption) | exact keep3 (by assumption) (ext_alloc _ _) | exact keep3 (by assumption) (ext_drew _) | exact keep3 ⟨by assumption, by assumption, by assumption, by assumption⟩ (ext_drew _) | go_keep))) (fun hSw => ?_)
          repeat (first
            | (refine wpPlan_pas rfl rfl (fun K hK => ?_)
               apply Exists.intro
               refine ⟨?_, ?_⟩
               · first | exact pasOk_no rfl | (apply pasOk_yes rfl; intro wS hS; obtain ⟨s0, s1, s2, s3⟩ := hS; go_simp; first | done | exact rfl | ((try simp only [↓IntWalk.iteOmega]); (try go_bits); (try go_simp); first | done | exact rfl))
               go_simp
               refine hK _ ?_
               clear hK K)
            | (refine wpPlan_no rfl rfl rfl (by assumption) (fun K hK => ?_)
               go_simp
               refine hK _ ?_
               clear hK K)
            | (refine wpPlan_act rfl rfl rfl (fun K hK => ?_)
               go_wp2_with (first | (at_mapUpdate; refine wpList_mapV (w := World.drew w9) (b := W3.heap.size) (n := n) rfl _ _ _ _ rfl uK uT rfl s5 (by simp only [maxLen]; omega) x.name (.agg #[.int .i64 (p0.1 + mm.1), .int .i64 (p0.2 + mm.2)]) rfl rfl hnm ?_; intro w10 m10 hg10; have hg10' := km_drew hg10; have hS10 : _ ∧ _ ∧ _ ∧ _ := ⟨cell_grown hg10' e0 (by simp; omega), cell_grown hg10' y0 (by simp; omega), cell_grown hg10' y1 (by simp; omega), hbw9.grown hg10' hbw9.size (fun j e => by cases e; omega)⟩))
               refine OnlyK.go (hK _ _ (by ((first | assumption | exact keep3 (by assumption) (by assumption) | exact keep3 (by assumption) (ext_alloc _ _) | exact keep3 (by assumption) (ext_drew _) | exact keep3 ⟨by assumption, by assumption, by assumption, by assumption⟩ (ext_drew _) | go_keep))) (fun hSw => ?_))
               clear hK K))
          refine wpPlan_nil ?_
          obtain ⟨_, z0, z1, hbw10⟩ := hSw
          have ho10 := ho9.kept hg10' (.inr (fun e => by have := ho9.base_le _ e; omega))
          have hk10 := km_trans hk9 hg10'
          have hsz10 := hk10.size
          go_wp2_with (at_builtin; refine own_append (w0 := w10) rfl _ _ 31 (.agg #[.int .i64 0, .int .i64 0]) 16 rfl Tryz.underlying31 infoG rfl (by decide) (by decide) encG_len _ ys (p0.1 + mm.1, p0.2 + mm.2) _ rfl rfl rfl (by simp [encG, Value.oneCell']) ho10 (Below.refl _ _) hsz10 (by have := HPL.out; omega) ?_; intro v1 w11 hown hbv hgv hnn)
          have m11 := m10.kept hgv (fun e => by have := ho10.base_le _ e.symm; omega)
          have hk11 := km_from hk10 hbv
          have hsig := sigLe_set hsg.out (m' := 100000000 + ((k + 1 : Nat) : Int) * 64000000) (by omega) x.name (p0.1 + mm.1, p0.2 + mm.2) (by simp only; omega)
          go_roundw
          case rel => exact ⟨k + 1, n + 1, by omega, by go_num, by omega, hk11, by rw [HST.out]; simp only; rw [← gF_put]; exact m11, by rw [HST.out]; exact hown, fun h => by rw [HST.out] at h; simp at h, by rw [HST.out]; exact hsig⟩
          case measure => simp [intOf]; omega
      · obtain rfl : k = xs.length := by omega
        have hyl : (voltSt l xs s xs.length).2 = res := by rw [HXL.out]; exact HRES.out
        rw [hyl] at ho hnil
        go_wp2
        go_ret2
        exact ⟨_, rfl, ho.mono hb7.size, hbw, hnil.out⟩
  · rw [if_pos (by simpa using hq)]
    go_wp2
    generalize World.alloc w _ = W at hbB p0 p1 ⊢
    have dB0 : Below W.heap.size W W := Below.refl _ _
    refine wp_region_plan (fun w' => w'.cell? ⟨w.heap.size, 0, none⟩ = some (.int .i64 s.1) ∧ w'.cell? ⟨w.heap.size, 1, none⟩ = some (.int .i64 s.2) ∧ Below W.heap.size W w') [1, 3, 4, 5] [0, 2, 1, 3, 4, 5, 6] (by kernel_rfl) (by kernel_rfl) (by ((first | assumption | exact keep2 (by assumption) (by assumption) | exact keep2 (by assumption) (ext_alloc _ _) | exact keep2 (by assumption) (ext_drew _) | exact keep2 ⟨by assumption, by assumption, by assumption⟩ (ext_drew _) | go_keep))) (fun hSw => ?_)
    repeat (first
      | (refine wpPlan_pas rfl rfl (fun K hK => ?_)
         apply Exists.intro
         refine ⟨?_, ?_⟩
         · first | exact pasOk_no rfl | (apply pasOk_yes rfl; intro wS hS; obtain ⟨s0, s1, s2⟩ := hS; go_simp; first | done | exact rfl | ((try simp only [↓IntWalk.iteOmega]); (try go_bits); (try go_simp); first | done | exact rfl))
         go_simp
         refine hK _ ?_
         clear hK K)
      | (refine wpPlan_no rfl rfl rfl (by assumption) (fun K hK => ?_)
         go_simp
         refine hK _ ?_
         clear hK K)
      | (refine wpPlan_act rfl rfl rfl (fun K hK => ?_)
         go_wp2_with (first | (go_at_call 21; refine (hc _ (ext_trans hbB hSw.2.2)).mono ?_; rintro e wA ⟨rfl, hbA⟩) | (go_at_call 103; refine (hp0 _).mono ?_; rintro e wC ⟨rfl, hbC⟩) | (go_at_call 81; refine (first_any [_, _] _ _ (slat_new encI_len (by simp) rfl (by simp))).mono ?_; rintro e w3 ⟨rfl, rfl⟩))
         refine OnlyK.go (hK _ _ (by ((first | assumption | exact keep2 (by assumption) (by assumption) | exact keep2 (by assumption) (ext_alloc _ _) | exact keep2 (by assumption) (ext_drew _) | exact keep2 ⟨by assumption, by assumption, by assumption⟩ (ext_drew _) | go_keep))) (fun hSw => ?_))
         clear hK K))
    refine wpPlan_nil ?_
    have hbT := ext_trans hbB hSw.2.2
    clear hSw
    go_wp2
    go_ret2
    exact ⟨_, rfl, Own.nil _, hbT, fun _ => rfl⟩
end Go.Proofs.YtlogjgmfkjjhjaaGreatDoor
