/-
  feeder.Switched.
-/
import Derived.Test.YtlogjgmfkjjhjaaGreatDoorX24
import Derived.Test.YtlogjgmfkjjhjaaGreatDoorX13
set_option linter.unusedSimpArgs false
set_option linter.unusedVariables false
namespace Go.Proofs.YtlogjgmfkjjhjaaGreatDoor
open Go.RowKit

def encSt (s : ByteArray × Bool) : List Value := [.string s.1, .bool s.2]
theorem encSt_len (s : ByteArray × Bool) : (encSt s).length = 2 := rfl
def sig0 (earthed : List ByteArray) : ByteArray → Option Bool := fun s => if hasS earthed s then some true else none
def rule1B (l : List Nd) (s : ByteArray × Bool) : Bool := decide (findI l s.1 < 0)
def rule2B (σ : ByteArray → Option Bool) (s : ByteArray × Bool) : Bool := (σ s.1).getD false == s.2
def swGo (l : List Nd) (earthed : List ByteArray) : Nat → (ByteArray → Option Bool) → List (ByteArray × Bool) → (ByteArray → Option Bool) × Nat × Int
  | k, σ, [] => (σ, 0, 0)
  | k, σ, s :: r => if rule1B l s = true then (σ, k, 10) else if rule2B σ s = true then (σ, k, 22) else if rule3B l earthed s.1 s.2 = true then (σ, k, 29) else swGo l earthed (k + 1) (setS σ s.1 s.2) r
theorem swGo_step (l : List Nd) (earthed : List ByteArray) (steps : List (ByteArray × Bool)) (k : Nat) (σ : ByteArray → Option Bool) (hk : k < steps.length) :
    swGo l earthed k σ (steps.drop k) = if rule1B l steps[k] = true then (σ, k, 10) else if rule2B σ steps[k] = true then (σ, k, 22) else if rule3B l earthed steps[k].1 steps[k].2 = true then (σ, k, 29) else swGo l earthed (k + 1) (setS σ steps[k].1 steps[k].2) (steps.drop (k + 1)) := by
  rw [List.drop_eq_getElem_cons hk, swGo]
def swE (l : List Nd) (earthed : List ByteArray) (steps : List (ByteArray × Bool)) : Int := firstV [checkNodesV l, namesErr (fun s => decide (0 ≤ findI l s)) earthed, whenV (decide (64 < steps.length)) 5]
def swR (l : List Nd) (earthed : List ByteArray) (steps : List (ByteArray × Bool)) : (ByteArray → Option Bool) × Nat × Int := swGo l earthed 0 (sig0 earthed) steps
def swF (l : List Nd) (r : (ByteArray → Option Bool) × Nat × Int) : List ByteArray × Int × Int := if r.2.2 ≠ 0 then ([], (r.2.1 : Int), r.2.2) else (pickN (fun i => (r.1 (l.getD i default).name).getD false) l l.length, 0, 0)
def switchedR (l : List Nd) (earthed : List ByteArray) (steps : List (ByteArray × Bool)) : List ByteArray × Int × Int := if swE l earthed steps ≠ 0 then ([], 0, swE l earthed steps) else swF l (swR l earthed steps)
/-- a list, an index and an error -/
def Ret3 {α : Type} (E : α → List Value) (k : Nat) (e : TypeId) (r : List α × Int × Int) (w : World) (e' : Ending) (w' : World) : Prop :=
  ∃ v, e' = .returned (.tuple #[v, .int .i64 r.2.1, .int .i64 r.2.2]) ∧ Own E k w.heap.size e w' v r.1 ∧ Below w.heap.size w w' ∧ (r.1 = [] → v = .slice none 0 0)

theorem ruleIdx0 (w : World) : (Instr.index 193 (.agg #[.func (.func 160) #[] #[], .int .i64 10, .func (.func 161) #[] #[], .int .i64 22, .func (.func 162) #[] #[], .int .i64 29]) (.int .i64 0)).run Tryz.prog w = .ok (.agg #[.func (.func 160) #[] #[], .int .i64 10]) w := by kernel_rfl
theorem ruleIdx1 (w : World) : (Instr.index 193 (.agg #[.func (.func 160) #[] #[], .int .i64 10, .func (.func 161) #[] #[], .int .i64 22, .func (.func 162) #[] #[], .int .i64 29]) (.int .i64 1)).run Tryz.prog w = .ok (.agg #[.func (.func 161) #[] #[], .int .i64 22]) w := by kernel_rfl
theorem ruleIdx2 (w : World) : (Instr.index 193 (.agg #[.func (.func 160) #[] #[], .int .i64 10, .func (.func 161) #[] #[], .int .i64 22, .func (.func 162) #[] #[], .int .i64 29]) (.int .i64 2)).run Tryz.prog w = .ok (.agg #[.func (.func 162) #[] #[], .int .i64 29]) w := by kernel_rfl

def encRl : Nat → List Value
  | 1 => [.func (.func 160) #[] #[], .int .i64 10]
  | 2 => [.func (.func 161) #[] #[], .int .i64 22]
  | 3 => [.func (.func 162) #[] #[], .int .i64 29]
  | _ => [.nilFunc, .int .i64 0]
theorem encRl_len (z : Nat) : (encRl z).length = 2 := by unfold encRl; split <;> rfl
theorem encRl_one (z : Nat) : ∀ v ∈ encRl z, v.oneCell' = true := by unfold encRl; split <;> decide
theorem sizeRl : (Tryz.prog.info? 192).map (·.size) = some 2 := by kernel_rfl

set_option maxRecDepth 100000 in
set_option maxHeartbeats 16000000 in
theorem Switched_any (v ve vs : Value) (l : List Nd) (earthed : List ByteArray) (steps : List (ByteArray × Bool)) (w : World) (hs : SlAt encN 7 w v l) (hok : Names l) (he : SlAt encS 1 w ve earthed) (hst : SlAt encSt 2 w vs steps)
    (hse : ∀ s ∈ earthed, s.size ≤ 1048576) (hss : ∀ s ∈ steps, s.1.size ≤ 1048576) (hel : earthed.length ≤ 1048576) :
    Calls Tryz.prog 66 #[v, ve, vs] w (Ret3 encS 1 9 (switchedR l earthed steps) w) := by
  have hc := checkNodes_any l v w hs hok
  have hz : checkNodesV l = 0 → _ := good_of
  have hin := fun W => isNode_any v hs.isSlice W
  have hcn := fun W (hW : Below w.heap.size w W) => checkNames_any (lb := #[.pointer (some ⟨W.heap.size, 0, none⟩)]) (fun s => decide (0 ≤ findI l s)) _ (enters_of Tryz.func157 (by kernel_rfl) rfl) earthed ve (W.alloc (.cells #[v] 29)) (he.ext (hW.alloc hW.size _)) (isNode_fn v l earthed W (hs.ext hW))
  have hV : switchedR l earthed steps = if firstV [checkNodesV l, namesErr (fun s => decide (0 ≤ findI l s)) earthed, whenV (decide (64 < steps.length)) 5] ≠ 0 then ([], 0, firstV [checkNodesV l, namesErr (fun s => decide (0 ≤ findI l s)) earthed, whenV (decide (64 < steps.length)) 5]) else swF l (swR l earthed steps) := rfl
  have hcast : decide ((64 : Int) < (steps.length : Int)) = decide (64 < steps.length) := by congr 1; simp; omega
  rw [hV]
  clear hV
  have hsw := hs
  have hew := he
  have htw := hst
  generalize checkNodesV l = e0 at hc hz ⊢
  generalize namesErr (fun s => decide (0 ≤ findI l s)) earthed = e1 at hcn ⊢
  obtain ⟨A, c, rfl, hc1, hc2, hr⟩ := hs
  obtain ⟨Ae, ce, rfl, hce1, hce2, hre⟩ := he
  obtain ⟨As, cs, rfl, hcs1, hcs2, hrs⟩ := hst
  have hR0 : swR l earthed steps = swGo l earthed 0 (sig0 earthed) (steps.drop 0) := rfl
  generalize swR l earthed steps = R at hR0 ⊢
  have HR0 := Lib.hid hR0
  clear hR0
  cases hq64 : decide (64 < steps.length)
  all_goals
    rw [hq64] at hcast
  · cases hq : (firstV [e0, e1, whenV false 5] != 0)
    · have hee : firstV [e0, e1, whenV false 5] = 0 := by simpa using hq
      rw [if_neg (by simpa using hee)]
      obtain ⟨rfl, rfl⟩ : e0 = 0 ∧ e1 = 0 := by
        simp only [firstV_zero, List.mem_cons, List.mem_nil_iff, or_false, forall_eq_or_imp, forall_eq] at hee
        exact ⟨hee.1, hee.2.1⟩
      have hg := hz rfl
      have hl64 : steps.length ≤ 64 := by simpa using hq64
      generalize hres : swF l R = res
      have HRES := Lib.hid hres
      clear hee hz hq hq64 hres
      have hmm := @run_makeMap Tryz.prog
      go_enter Tryz.func66, Tryz.ntmps66
      go_wp2_with (first
        | (go_at_call 21; refine hc.mono ?_; rintro e wA ⟨rfl, hbA⟩)
        | (go_at_call 120; refine (hin _).mono ?_; rintro e wC ⟨rfl, rfl⟩)
        | (go_at_call 113; refine (hcn _ hbA).mono ?_; rintro e wD ⟨rfl, hbD⟩; have hbE := ext_trans (hbA.alloc hbA.size _) hbD)
        | (go_at_call 82; refine (when_any _ _ _).mono ?_; rintro e w3 ⟨rfl, rfl⟩)
        | (go_at_call 81; refine (first_any [_, _, _] _ _ (slat_new encI_len (by simp) rfl (by simp))).mono ?_; rintro e w3 ⟨rfl, rfl⟩))
      generalize hW : World.alloc wD _ = W3
      have hb3 : Below w.heap.size w W3 := by rw [← hW]; exact hbE.alloc hbE.size _
      have hz3 : W3.heap.size = wD.heap.size + 1 := by rw [← hW]; simp
      clear hW hc hin hcn hbA hbD hbE hmm
      have m1 := (MapV.new 9 W3).ext (ext_alloc (W3.alloc (.map #[] 0)) (.cells #[.slice A l.length c, .slice Ae earthed.length ce, .map (some (wD.heap.size + 1))] 189))
      have xB := BoxC.new (W3.alloc (.map #[] 0)) 189 #[.slice A l.length c, .slice Ae earthed.length ce, .map (some (wD.heap.size + 1))]
      have hb5 : Below W3.heap.size W3 ((W3.alloc (.map #[] 0)).alloc (.cells #[.slice A l.length c, .slice Ae earthed.length ce, .map (some (wD.heap.size + 1))] 189)) := ext_trans (ext_alloc W3 (.map #[] 0)) (ext_alloc _ _)
      rw [knownF_nil, hz3] at m1
      rw [World.size_alloc, hz3] at xB
      generalize World.alloc (World.alloc W3 _) _ = w5 at m1 xB hb5 ⊢
      have HZ3 := Lib.hid hz3
      clear hz3
      have uK := Tryz.underlying9
      have uT := Tryz.underlying165
      go_loopw [41] (fun i wr => ∃ k : Nat, k ≤ earthed.length ∧ i = .int .i64 k ∧ Below W3.heap.size W3 wr ∧ BoxC wr (wD.heap.size + 1 + 1) 189 #[.slice A l.length c, .slice Ae earthed.length ce, .map (some (wD.heap.size + 1))] ∧ MapV 9 (wD.heap.size + 1) k wr (knownF (earthed.take k))) (fun i _ => earthed.length - (intOf i).toNat)
      case atStart => exact ⟨0, Nat.zero_le _, rfl, hb5, xB, m1⟩
      case round =>
        obtain ⟨k, hk, rfl, hb, xR, mR⟩ := hrel
        clear xB m1 hb5 w5
        by_cases hlt : k < earthed.length
        · obtain ⟨b, off, rfl, hbl, hcell⟩ := hre (by omega)
          have hx : earthed[k]? = some earthed[k] := List.getElem?_eq_getElem hlt
          have hts : earthed.take (k + 1) = earthed.take k ++ [earthed[k]] := List.take_succ_eq_append_getElem hlt
          have hsn := hse _ (List.getElem_mem hlt)
          have c0 := ext_cell (ext_trans hb3 hb) (hcell k _ hx 0 _ rfl)
          rw [Nat.add_zero, Nat.mul_one] at c0
          have y2 := xR.cell 2 _ rfl
          generalize earthed[k] = s at hx hts hsn c0
          generalize earthed.take k = ys at hts mR
          have hm1 : s.size ≤ maxLen := by simp only [maxLen]; omega
          have HTS := Lib.hid hts
          clear hts hx hcell hre
          go_wp2_with (at_mapUpdate; refine wpList_mapV (b := wD.heap.size + 1) (n := k) rfl _ _ _ _ rfl uK uT rfl mR (by simp only [maxLen]; omega) s (.bool true) rfl rfl hm1 ?_; intro w9 g7 hg9)
          refine ⟨?_, ?measure⟩
          refine ⟨_, _, _, _, _, _, _, _, _, ?rel, rfl⟩
          case rel => exact ⟨k + 1, by omega, by go_num, hb.grown hg9 hb.size (fun j e => by cases e; have := HZ3.out; omega), xR.kept hg9 (by simp), by rw [HTS.out, ← knownF_put]; exact g7⟩
          case measure => simp [intOf]; omega
        · obtain rfl : k = earthed.length := by omega
          rw [List.take_of_length_le (Nat.le_refl _), knownF_sig] at mR
          go_wp2
          go_loopw [51] (fun i wr2 => ∃ (k n : Nat) (σ : ByteArray → Option Bool), k ≤ steps.length ∧ i = .int .i64 k ∧ n ≤ earthed.length + k ∧ Below W3.heap.size W3 wr2 ∧ BoxC wr2 (wD.heap.size + 1 + 1) 189 #[.slice A l.length c, .slice Ae earthed.length ce, .map (some (wD.heap.size + 1))] ∧ MapV 9 (wD.heap.size + 1) n wr2 (sigF σ) ∧ Hid (R = swGo l earthed k σ (steps.drop k))) (fun i _ => steps.length - (intOf i).toNat)
          case atStart => exact ⟨0, earthed.length, sig0 earthed, Nat.zero_le _, rfl, by omega, hb, xR, mR, HR0⟩
          case round =>
            clear xR mR hb HR0 hlt hk
            rename World => wo
            obtain ⟨k, n, σ, hk, rfl, hn, hb, xR, mR, hzz⟩ := hrel
            by_cases hlt : k < steps.length
            · obtain ⟨b, off, rfl, hbl, hcell⟩ := hrs (by omega)
              have hx : steps[k]? = some steps[k] := List.getElem?_eq_getElem hlt
              have hstp := swGo_step l earthed steps k σ hlt
              rw [← hzz.out] at hstp
              have hsn := hss _ (List.getElem_mem hlt)
              have hbw := ext_trans hb3 hb
              have d0 := ext_cell hbw (hcell k _ hx 0 _ rfl)
              have d1 := ext_cell hbw (hcell k _ hx 1 _ rfl)
              rw [Nat.add_zero] at d0
              generalize steps[k] = s at hx hstp hsn d0 d1
              obtain ⟨s1, s2⟩ := s
              simp only at hsn d0 d1
              have hm1 : s1.size ≤ maxLen := by simp only [maxLen]; omega
              have hrb1 := fun W (hW : Below wo.heap.size wo W) => rule1_any (.slice A l.length c) (.slice Ae earthed.length ce) (.map (some (wD.heap.size + 1))) l s1 s2 W (hsw.ext (ext_trans hbw hW)) ⟨_, _, _, rfl⟩
              have hrb2 := fun W (hW : Below wo.heap.size wo W) => rule2_any (.slice A l.length c) (.slice Ae earthed.length ce) 9 (wD.heap.size + 1) n σ s1 s2 W (mR.ext hW) uK uT ⟨_, _, _, rfl⟩ ⟨_, _, _, rfl⟩ hm1
              have hrb3 := fun W (hW : Below wo.heap.size wo W) => rule3_any (.slice A l.length c) (.slice Ae earthed.length ce) (.map (some (wD.heap.size + 1))) l earthed s1 s2 hg.acyc hg.len W (hsw.ext (ext_trans hbw hW)) (hew.ext (ext_trans hbw hW))
              have e1 : rule1B l (s1, s2) = decide (findI l s1 < 0) := rfl
              have e2 : rule2B σ (s1, s2) = ((σ s1).getD false == s2) := rfl
              rw [← e1] at hrb1
              rw [← e2] at hrb2
              clear e1 e2
              simp only at hstp
              generalize rule1B l (s1, s2) = b1 at hrb1 hstp
              generalize rule2B σ (s1, s2) = b2 at hrb2 hstp
              generalize rule3B l earthed s1 s2 = b3 at hrb3 hstp
              have HST := Lib.hid hstp
              clear hstp hx hcell hzz
              have hsz := hb.size
              have hbX : Below wo.heap.size wo (wo.alloc (.cells #[.string s1, .bool s2] 117)) := ext_alloc _ _
              have sX := BoxC.new wo 117 #[.string s1, .bool s2]
              go_wp2_with (go_at_call 122; refine (rules_any _).mono ?_; rintro e w6 ⟨rfl, hb6⟩; have hbY := ext_trans hbX hb6; have x6 := xR.ext hbY; have s6 := sX.ext hb6; have m6 := mR.ext hbY)
              go_loopw [57] (fun j wq => ∃ q : Nat, q ≤ 3 ∧ j = .int .i64 q ∧ Below w6.heap.size w6 wq ∧ Hid ((1 ≤ q → b1 = false) ∧ (2 ≤ q → b2 = false) ∧ (3 ≤ q → b3 = false))) (fun j _ => 3 - (intOf j).toNat)
              case atStart => exact ⟨0, by omega, rfl, Below.refl _ _, ⟨fun h => by omega, fun h => by omega, fun h => by omega⟩⟩
              case round =>
                obtain ⟨q, hq3, rfl, hbq, hzq⟩ := hrel
                have xQ := x6.ext hbq
                have sQ := s6.ext hbq
                have hrow : RowC encRl 2 wr.heap.size 0 (wr.alloc (.cells #[.nilFunc, .int .i64 0] 192)) [0] := RowC.new encRl_len wr 192 0
                by_cases hlt3 : q < 3
                · obtain rfl | rfl | rfl : q = 0 ∨ q = 1 ∨ q = 2 := by omega
                  · have hix := ruleIdx0 wr
                    cases hqb : b1
                    · rw [hqb] at hrb1
                      have hqB := Lib.hid hqb
                      clear hqb
                      go_wp2_with (first
                        | (refine wpList_store_row2 rfl 192 _ _ rfl encRl_len encRl_one sizeRl 0 1 hrow (by simp) rfl _ rfl rfl ?_; intro wS hlS hbS hzS hoS; have f0 : wS.cell? ⟨wr.heap.size, 0, none⟩ = some (.func (.func 160) #[] #[]) := hlS.2.1 0 1 rfl 0 _ rfl; have hbS6 := (hbq.alloc hbq.size (.cells #[.nilFunc, .int .i64 0] 192)).trans (hbS.mono hbq.size); have xS := x6.ext hbS6; have sS := s6.ext hbS6; have y0 := xS.cell 0 _ rfl; have y1 := xS.cell 1 _ rfl; have y2 := xS.cell 2 _ rfl; have t0 := sS.cell 0 _ rfl; have t1 := sS.cell 1 _ rfl)
                        | (go_at_call 160; refine (hrb1 _ (ext_trans hbY hbS6)).mono ?_; rintro e w8 ⟨rfl, hb8⟩; have hb9 := ext_trans hbS6 hb8))
                      exact ⟨⟨0 + 1, by omega, by go_num, hb9, ⟨fun _ => trivial, fun h => by omega, fun h => by omega⟩⟩, by simp [intOf]⟩
                    · rw [hqb] at hrb1
                      have hqB := Lib.hid hqb
                      clear hqb
                      go_wp2_with (first
                        | (refine wpList_store_row2 rfl 192 _ _ rfl encRl_len encRl_one sizeRl 0 1 hrow (by simp) rfl _ rfl rfl ?_; intro wS hlS hbS hzS hoS; have f0 : wS.cell? ⟨wr.heap.size, 0, none⟩ = some (.func (.func 160) #[] #[]) := hlS.2.1 0 1 rfl 0 _ rfl; have f1 : wS.cell? ⟨wr.heap.size, 1, none⟩ = some (.int .i64 10) := hlS.2.1 0 1 rfl 1 _ rfl; have hbS6 := (hbq.alloc hbq.size (.cells #[.nilFunc, .int .i64 0] 192)).trans (hbS.mono hbq.size); have xS := x6.ext hbS6; have sS := s6.ext hbS6; have y0 := xS.cell 0 _ rfl; have y1 := xS.cell 1 _ rfl; have y2 := xS.cell 2 _ rfl; have t0 := sS.cell 0 _ rfl; have t1 := sS.cell 1 _ rfl)
                        | (go_at_call 160; refine (hrb1 _ (ext_trans hbY hbS6)).mono ?_; rintro e w8 ⟨rfl, hb8⟩; have hb9 := ext_trans hbS6 hb8; have u1 := ext_cell hb8 f1))
                      have hbT := ext_trans hbw (ext_trans hbY hb9)
                      refine wp_region_plan (fun w' => w'.cell? ⟨wr.heap.size, 1, none⟩ = some (.int .i64 10) ∧ Below w.heap.size w w') [] [0, 1, 2, 3, 4, 5] (by kernel_rfl) (by kernel_rfl) (by ((first | assumption | exact keep1 (by assumption) (by assumption) | exact keep1 (by assumption) (ext_alloc _ _) | exact keep1 (by assumption) (ext_drew _) | exact keep1 ⟨by assumption, by assumption⟩ (ext_drew _) | go_keep))) (fun hSw => ?_)
                      repeat (first
                        | (refine wpPlan_pas rfl rfl (fun K hK => ?_)
                           apply Exists.intro
                           refine ⟨?_, ?_⟩
                           · first | exact pasOk_no rfl | (apply pasOk_yes rfl; intro wS hS; obtain ⟨s0, s1⟩ := hS; go_simp; first | done | exact rfl | ((try simp only [↓IntWalk.iteOmega]); (try go_bits); (try go_simp); first | done | exact rfl))
                           go_simp
                           refine hK _ ?_
                           clear hK K)
                        | (refine wpPlan_no rfl rfl rfl (by assumption) (fun K hK => ?_)
                           go_simp
                           refine hK _ ?_
                           clear hK K)
                        | (refine wpPlan_act rfl rfl rfl (fun K hK => ?_)
                           go_wp2
                           refine OnlyK.go (hK _ _ (by ((first | assumption | exact keep1 (by assumption) (by assumption) | exact keep1 (by assumption) (ext_alloc _ _) | exact keep1 (by assumption) (ext_drew _) | exact keep1 ⟨by assumption, by assumption⟩ (ext_drew _) | go_keep))) (fun hSw => ?_))
                           clear hK K))
                      refine wpPlan_nil ?_
                      have hR : R = (σ, k, 10) := by rw [HST.out]; simp [hqB.out, hqB.out]
                      have hres : res = ([], (k : Int), 10) := by rw [← HRES.out, hR]; simp [swF]
                      have HR2 := Lib.hid hres
                      clear hres hR hSw
                      go_wp2
                      refine bodyPost_ret (v := .tuple #[.slice none 0 0, .int .i64 (k : Int), .int .i64 10]) (by simp [results, Tryz.results66, go_sem]) rfl ?_
                      rw [HR2.out]
                      exact ⟨_, rfl, Own.nil _, hbT.drew, fun _ => rfl⟩
                  · have hix := ruleIdx1 wr
                    cases hqb : b2
                    · rw [hqb] at hrb2
                      have hqB := Lib.hid hqb
                      clear hqb
                      go_wp2_with (first
                        | (refine wpList_store_row2 rfl 192 _ _ rfl encRl_len encRl_one sizeRl 0 2 hrow (by simp) rfl _ rfl rfl ?_; intro wS hlS hbS hzS hoS; have f0 : wS.cell? ⟨wr.heap.size, 0, none⟩ = some (.func (.func 161) #[] #[]) := hlS.2.1 0 2 rfl 0 _ rfl; have hbS6 := (hbq.alloc hbq.size (.cells #[.nilFunc, .int .i64 0] 192)).trans (hbS.mono hbq.size); have xS := x6.ext hbS6; have sS := s6.ext hbS6; have y0 := xS.cell 0 _ rfl; have y1 := xS.cell 1 _ rfl; have y2 := xS.cell 2 _ rfl; have t0 := sS.cell 0 _ rfl; have t1 := sS.cell 1 _ rfl)
                        | (go_at_call 161; refine (hrb2 _ (ext_trans hbY hbS6)).mono ?_; rintro e w8 ⟨rfl, hb8⟩; have hb9 := ext_trans hbS6 hb8))
                      exact ⟨⟨1 + 1, by omega, by go_num, hb9, ⟨fun _ => hzq.out.1 (by omega), fun _ => trivial, fun h => by omega⟩⟩, by simp [intOf]⟩
                    · rw [hqb] at hrb2
                      have hqB := Lib.hid hqb
                      clear hqb
                      go_wp2_with (first
                        | (refine wpList_store_row2 rfl 192 _ _ rfl encRl_len encRl_one sizeRl 0 2 hrow (by simp) rfl _ rfl rfl ?_; intro wS hlS hbS hzS hoS; have f0 : wS.cell? ⟨wr.heap.size, 0, none⟩ = some (.func (.func 161) #[] #[]) := hlS.2.1 0 2 rfl 0 _ rfl; have f1 : wS.cell? ⟨wr.heap.size, 1, none⟩ = some (.int .i64 22) := hlS.2.1 0 2 rfl 1 _ rfl; have hbS6 := (hbq.alloc hbq.size (.cells #[.nilFunc, .int .i64 0] 192)).trans (hbS.mono hbq.size); have xS := x6.ext hbS6; have sS := s6.ext hbS6; have y0 := xS.cell 0 _ rfl; have y1 := xS.cell 1 _ rfl; have y2 := xS.cell 2 _ rfl; have t0 := sS.cell 0 _ rfl; have t1 := sS.cell 1 _ rfl)
                        | (go_at_call 161; refine (hrb2 _ (ext_trans hbY hbS6)).mono ?_; rintro e w8 ⟨rfl, hb8⟩; have hb9 := ext_trans hbS6 hb8; have u1 := ext_cell hb8 f1))
                      have hbT := ext_trans hbw (ext_trans hbY hb9)
                      refine wp_region_plan (fun w' => w'.cell? ⟨wr.heap.size, 1, none⟩ = some (.int .i64 22) ∧ Below w.heap.size w w') [] [0, 1, 2, 3, 4, 5] (by kernel_rfl) (by kernel_rfl) (by ((first | assumption | exact keep1 (by assumption) (by assumption) | exact keep1 (by assumption) (ext_alloc _ _) | exact keep1 (by assumption) (ext_drew _) | exact keep1 ⟨by assumption, by assumption⟩ (ext_drew _) | go_keep))) (fun hSw => ?_)
                      repeat (first
                        | (refine wpPlan_pas rfl rfl (fun K hK => ?_)
                           apply Exists.intro
                           refine ⟨?_, ?_⟩
                           · first | exact pasOk_no rfl | (apply pasOk_yes rfl; intro wS hS; obtain ⟨s0, s1⟩ := hS; go_simp; first | done | exact rfl | ((try simp only [↓IntWalk.iteOmega]); (try go_bits); (try go_simp); first | done | exact rfl))
                           go_simp
                           refine hK _ ?_
                           clear hK K)
                        | (refine wpPlan_no rfl rfl rfl (by assumption) (fun K hK => ?_)
                           go_simp
                           refine hK _ ?_
                           clear hK K)
                        | (refine wpPlan_act rfl rfl rfl (fun K hK => ?_)
                           go_wp2
                           refine OnlyK.go (hK _ _ (by ((first | assumption | exact keep1 (by assumption) (by assumption) | exact keep1 (by assumption) (ext_alloc _ _) | exact keep1 (by assumption) (ext_drew _) | exact keep1 ⟨by assumption, by assumption⟩ (ext_drew _) | go_keep))) (fun hSw => ?_))
                           clear hK K))
                      refine wpPlan_nil ?_
                      have hR : R = (σ, k, 22) := by rw [HST.out]; simp [hqB.out, hzq.out.1 (by omega)]
                      have hres : res = ([], (k : Int), 22) := by rw [← HRES.out, hR]; simp [swF]
                      have HR2 := Lib.hid hres
                      clear hres hR hSw
                      go_wp2
                      refine bodyPost_ret (v := .tuple #[.slice none 0 0, .int .i64 (k : Int), .int .i64 22]) (by simp [results, Tryz.results66, go_sem]) rfl ?_
                      rw [HR2.out]
                      exact ⟨_, rfl, Own.nil _, hbT.drew, fun _ => rfl⟩
                  · have hix := ruleIdx2 wr
                    cases hqb : b3
                    · rw [hqb] at hrb3
                      have hqB := Lib.hid hqb
                      clear hqb
                      go_wp2_with (first
                        | (refine wpList_store_row2 rfl 192 _ _ rfl encRl_len encRl_one sizeRl 0 3 hrow (by simp) rfl _ rfl rfl ?_; intro wS hlS hbS hzS hoS; have f0 : wS.cell? ⟨wr.heap.size, 0, none⟩ = some (.func (.func 162) #[] #[]) := hlS.2.1 0 3 rfl 0 _ rfl; have hbS6 := (hbq.alloc hbq.size (.cells #[.nilFunc, .int .i64 0] 192)).trans (hbS.mono hbq.size); have xS := x6.ext hbS6; have sS := s6.ext hbS6; have y0 := xS.cell 0 _ rfl; have y1 := xS.cell 1 _ rfl; have y2 := xS.cell 2 _ rfl; have t0 := sS.cell 0 _ rfl; have t1 := sS.cell 1 _ rfl)
                        | (go_at_call 162; refine (hrb3 _ (ext_trans hbY hbS6)).mono ?_; rintro e w8 ⟨rfl, hb8⟩; have hb9 := ext_trans hbS6 hb8))
                      exact ⟨⟨2 + 1, by omega, by go_num, hb9, ⟨fun _ => hzq.out.1 (by omega), fun _ => hzq.out.2.1 (by omega), fun _ => trivial⟩⟩, by simp [intOf]⟩
                    · rw [hqb] at hrb3
                      have hqB := Lib.hid hqb
                      clear hqb
                      go_wp2_with (first
                        | (refine wpList_store_row2 rfl 192 _ _ rfl encRl_len encRl_one sizeRl 0 3 hrow (by simp) rfl _ rfl rfl ?_; intro wS hlS hbS hzS hoS; have f0 : wS.cell? ⟨wr.heap.size, 0, none⟩ = some (.func (.func 162) #[] #[]) := hlS.2.1 0 3 rfl 0 _ rfl; have f1 : wS.cell? ⟨wr.heap.size, 1, none⟩ = some (.int .i64 29) := hlS.2.1 0 3 rfl 1 _ rfl; have hbS6 := (hbq.alloc hbq.size (.cells #[.nilFunc, .int .i64 0] 192)).trans (hbS.mono hbq.size); have xS := x6.ext hbS6; have sS := s6.ext hbS6; have y0 := xS.cell 0 _ rfl; have y1 := xS.cell 1 _ rfl; have y2 := xS.cell 2 _ rfl; have t0 := sS.cell 0 _ rfl; have t1 := sS.cell 1 _ rfl)
                        | (go_at_call 162; refine (hrb3 _ (ext_trans hbY hbS6)).mono ?_; rintro e w8 ⟨rfl, hb8⟩; have hb9 := ext_trans hbS6 hb8; have u1 := ext_cell hb8 f1))
                      have hbT := ext_trans hbw (ext_trans hbY hb9)
                      refine wp_region_plan (fun w' => w'.cell? ⟨wr.heap.size, 1, none⟩ = some (.int .i64 29) ∧ Below w.heap.size w w') [] [0, 1, 2, 3, 4, 5] (by kernel_rfl) (by kernel_rfl) (by ((first | assumption | exact keep1 (by assumption) (by assumption) | exact keep1 (by assumption) (ext_alloc _ _) | exact keep1 (by assumption) (ext_drew _) | exact keep1 ⟨by assumption, by assumption⟩ (ext_drew _) | go_keep))) (fun hSw => ?_)
                      repeat (first
                        | (refine wpPlan_pas rfl rfl (fun K hK => ?_)
                           apply Exists.intro
                           refine ⟨?_, ?_⟩
                           · first | exact pasOk_no rfl | (apply pasOk_yes rfl; intro wS hS; obtain ⟨s0, s1⟩ := hS; go_simp; first | done | exact rfl | ((try simp only [↓IntWalk.iteOmega]); (try go_bits); (try go_simp); first | done | exact rfl))
                           go_simp
                           refine hK _ ?_
                           clear hK K)
                        | (refine wpPlan_no rfl rfl rfl (by assumption) (fun K hK => ?_)
                           go_simp
                           refine hK _ ?_
                           clear hK K)
                        | (refine wpPlan_act rfl rfl rfl (fun K hK => ?_)
                           go_wp2
                           refine OnlyK.go (hK _ _ (by ((first | assumption | exact keep1 (by assumption) (by assumption) | exact keep1 (by assumption) (ext_alloc _ _) | exact keep1 (by assumption) (ext_drew _) | exact keep1 ⟨by assumption, by assumption⟩ (ext_drew _) | go_keep))) (fun hSw => ?_))
                           clear hK K))
                      refine wpPlan_nil ?_
                      have hR : R = (σ, k, 29) := by rw [HST.out]; simp [hqB.out, hzq.out.1 (by omega), hzq.out.2.1 (by omega)]
                      have hres : res = ([], (k : Int), 29) := by rw [← HRES.out, hR]; simp [swF]
                      have HR2 := Lib.hid hres
                      clear hres hR hSw
                      go_wp2
                      refine bodyPost_ret (v := .tuple #[.slice none 0 0, .int .i64 (k : Int), .int .i64 29]) (by simp [results, Tryz.results66, go_sem]) rfl ?_
                      rw [HR2.out]
                      exact ⟨_, rfl, Own.nil _, hbT.drew, fun _ => rfl⟩
                · obtain rfl : q = 3 := by omega
                  have hS2 : R = swGo l earthed (k + 1) (setS σ s1 s2) (steps.drop (k + 1)) := by rw [HST.out]; simp [hzq.out.1 (by omega), hzq.out.2.1 (by omega), hzq.out.2.2 (by omega)]
                  have HS2 := Lib.hid hS2
                  have mQ := m6.ext hbq
                  have y2 := xQ.cell 2 _ rfl
                  have t0 := sQ.cell 0 _ rfl
                  have t1 := sQ.cell 1 _ rfl
                  have hbW := ext_trans hb (ext_trans hbY hbq)
                  clear hS2 hrow HST hzq
                  go_wp2_with (at_mapUpdate; refine wpList_mapV (b := wD.heap.size + 1) (n := n) rfl _ _ _ _ rfl uK uT rfl mQ (by simp only [maxLen]; omega) s1 (.bool s2) rfl rfl hm1 ?_; intro w9 g7 hg9)
                  refine ⟨?_, ?measureO⟩
                  refine ⟨_, _, _, _, _, _, _, _, _, _, _, _, _, _, _, _, _, _, _, _, _, _, _, _, _, _, _, _, _, _, _, ?relO, rfl⟩
                  case relO => exact ⟨k + 1, n + 1, setS σ s1 s2, by omega, by go_num, by omega, hbW.grown hg9 hbW.size (fun j e => by cases e; have := HZ3.out; omega), xQ.kept hg9 (by simp), by rw [← sigF_put]; exact g7, HS2⟩
                  case measureO => simp [intOf]; omega
            · obtain rfl : k = steps.length := by omega
              have hS2 : R = (σ, 0, 0) := by rw [hzz.out, List.drop_of_length_le (by omega)]; rfl
              have hres : res = (pickN (fun i => (σ (l.getD i default).name).getD false) l l.length, 0, 0) := by rw [← HRES.out, hS2]; simp [swF]
              have hPe : ∃ P : Nat → Bool, (∀ i, P i = (σ (l.getD i default).name).getD false) ∧ res = (pickN P l l.length, 0, 0) := ⟨_, fun _ => rfl, hres⟩
              obtain ⟨P, hPi, hres⟩ := hPe
              have HR2 := Lib.hid hres
              have HPI := Lib.hid hPi
              clear hS2 hres hzz hPi
              have hbw := ext_trans hb3 hb
              go_wp2
              go_loopw [78, 17] (fun i o wr2 => ∃ k : Nat, k ≤ l.length ∧ i = .int .i64 k ∧ Below wo.heap.size wo wr2 ∧ Own encS 1 wo.heap.size 9 wr2 o (pickN P l k) ∧ Hid (pickN P l k = [] → o = .slice none 0 0)) (fun i _ _ => l.length - (intOf i).toNat)
              case atStart => exact ⟨0, Nat.zero_le _, rfl, Below.refl _ _, Own.nil _, fun _ => rfl⟩
              case round =>
                rename World => wo3
                obtain ⟨k, hk, rfl, hb3', ho, hnil⟩ := hrel
                by_cases hlt : k < l.length
                · obtain ⟨b1, o1, rfl, hbl, hcell⟩ := hr (by omega)
                  have hx : l[k]? = some (l.getD k default) := by rw [List.getD_eq_getElem?_getD, List.getElem?_eq_getElem hlt]; rfl
                  have hst : pickN P l (k + 1) = pickN P l k ++ (if (σ (l.getD k default).name).getD false = true then [(l.getD k default).name] else []) := by rw [pickN_succ, HPI.out]
                  have hpl := pickN_len P l k
                  have hnm := hok (l.getD k default) (List.mem_of_getElem? hx)
                  have hbz := ext_trans hbw hb3'
                  obtain ⟨c0, c1, c2, c3, c4, c5, c6⟩ := nodeCells (fun i u hu => ext_cell hbz (hcell k _ hx i u hu))
                  generalize l.getD k default = x at hst hnm c0 c1 c2 c3 c4 c5 c6
                  have mX := mR.ext hb3'
                  have xX := xR.ext hb3'
                  have y2 := fun o => ext_cell (ext_alloc wo3 o) (xX.cell 2 _ rfl)
                  have mY := fun o => MapV.sig (mX.ext (ext_alloc wo3 o)) uK uT hnm
                  have hsz3 := hb3'.size
                  have hbX := hb3'.alloc hsz3 (.cells #[.string x.name, .string x.parent, .int .i64 x.re, .int .i64 x.im, .int .i64 x.lim, .int .i64 x.cre, .int .i64 x.cim] 125)
                  have hbXs := hbX.size
                  have hoX := ho.alloc (.cells #[.string x.name, .string x.parent, .int .i64 x.re, .int .i64 x.im, .int .i64 x.lim, .int .i64 x.cre, .int .i64 x.cim] 125)
                  have HST := Lib.hid hst
                  have HPL := Lib.hid hpl
                  clear hst hpl hx hcell
                  generalize pickN P l k = ys at ho hoX hnil HST HPL
                  cases hqs : (σ x.name).getD false
                  · have hs2 := HST.out
                    rw [hqs] at hs2
                    have HS2 := Lib.hid hs2
                    clear hs2
                    go_wp2
                    exact ⟨⟨k + 1, by omega, by go_num, hbX, by rw [HS2.out]; simpa using hoX, fun h => by rw [HS2.out] at h; exact hnil.out (by simpa using h)⟩, by simp [intOf]; omega⟩
                  · have hs2 := HST.out
                    rw [hqs] at hs2
                    have HS2 := Lib.hid hs2
                    clear hs2
                    go_wp2_with (at_builtin; (refine own_append (w0 := wo) rfl _ _ 25 (.string ByteArray.empty) 16 rfl Tryz.underlying25 infoS rfl (by decide) (by decide) encS_len _ ys x.name _ rfl rfl (by rw [World.size_alloc]; rfl) (by simp [encS, Value.oneCell']) hoX hbX hbXs (by have := HPL.out; have := hg.len1; omega) ?_); intro v1 w7 hown hbv hgv hnn)
                    exact ⟨⟨_, _, _, ⟨k + 1, by omega, by go_num, by rw [HS2.out]; exact hown, fun h => by rw [HS2.out] at h; simp at h⟩, rfl, rfl, rfl⟩, by simp [intOf]; omega⟩
                · obtain rfl : k = l.length := by omega
                  go_wp2
                  refine bodyPost_ret (v := .tuple #[u17, .int .i64 0, .int .i64 0]) (by simp [results, Tryz.results66, go_sem]) rfl ?_
                  rw [HR2.out]
                  exact ⟨_, rfl, ho.mono hbw.size, hbw.trans (hb3'.mono hbw.size), hnil.out⟩
    · skip
      rw [if_pos (by simpa using hq)]
      generalize hres : (([] : List ByteArray), (0 : Int), firstV [e0, e1, whenV false 5]) = res
      have HRES := Lib.hid hres
      clear hz hq64 hres
      go_enter Tryz.func66, Tryz.ntmps66
      go_wp2_with (first
        | (go_at_call 21; refine hc.mono ?_; rintro e wA ⟨rfl, hbA⟩)
        | (go_at_call 120; refine (hin _).mono ?_; rintro e wC ⟨rfl, rfl⟩)
        | (go_at_call 113; refine (hcn _ hbA).mono ?_; rintro e wD ⟨rfl, hbD⟩; have hbE := ext_trans (hbA.alloc hbA.size _) hbD; have hbF := hbE.alloc hbE.size (.cells #[.int .i64 e0, .int .i64 e1, .int .i64 (whenV false 5)] 26))
        | (go_at_call 82; refine (when_any _ _ _).mono ?_; rintro e w3 ⟨rfl, rfl⟩)
        | (go_at_call 81; refine (first_any [_, _, _] _ _ (slat_new encI_len (by simp) rfl (by simp))).mono ?_; rintro e w3 ⟨rfl, rfl⟩))
      refine bodyPost_ret (v := .tuple #[.slice none 0 0, .int .i64 0, .int .i64 (firstV [e0, e1, whenV false 5])]) (by simp [results, Tryz.results66, go_sem]) rfl ?_
      rw [← HRES.out]
      exact ⟨_, rfl, Own.nil _, hbF, fun _ => rfl⟩
  · cases hq : (firstV [e0, e1, whenV true 5] != 0)
    · exfalso
      have h0 : firstV [e0, e1, whenV true 5] = 0 := by simpa using hq
      simp [firstV_zero, whenV] at h0
    · skip
      rw [if_pos (by simpa using hq)]
      generalize hres : (([] : List ByteArray), (0 : Int), firstV [e0, e1, whenV true 5]) = res
      have HRES := Lib.hid hres
      clear hz hq64 hres
      go_enter Tryz.func66, Tryz.ntmps66
      go_wp2_with (first
        | (go_at_call 21; refine hc.mono ?_; rintro e wA ⟨rfl, hbA⟩)
        | (go_at_call 120; refine (hin _).mono ?_; rintro e wC ⟨rfl, rfl⟩)
        | (go_at_call 113; refine (hcn _ hbA).mono ?_; rintro e wD ⟨rfl, hbD⟩; have hbE := ext_trans (hbA.alloc hbA.size _) hbD; have hbF := hbE.alloc hbE.size (.cells #[.int .i64 e0, .int .i64 e1, .int .i64 (whenV true 5)] 26))
        | (go_at_call 82; refine (when_any _ _ _).mono ?_; rintro e w3 ⟨rfl, rfl⟩)
        | (go_at_call 81; refine (first_any [_, _, _] _ _ (slat_new encI_len (by simp) rfl (by simp))).mono ?_; rintro e w3 ⟨rfl, rfl⟩))
      refine bodyPost_ret (v := .tuple #[.slice none 0 0, .int .i64 0, .int .i64 (firstV [e0, e1, whenV true 5])]) (by simp [results, Tryz.results66, go_sem]) rfl ?_
      rw [← HRES.out]
      exact ⟨_, rfl, Own.nil _, hbF, fun _ => rfl⟩
end Go.Proofs.YtlogjgmfkjjhjaaGreatDoor
