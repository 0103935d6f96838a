/-
  The rules of switching.
  (*feeder.taker).word, number.
-/
import Derived.Test.YtlogjgmfkjjhjaaGreatDoorX19
import Derived.Test.YtlogjgmfkjjhjaaGreatDoorX21
import Derived.Test.YtlogjgmfkjjhjaaGreatDoorX23
set_option linter.unusedSimpArgs false
set_option linter.unusedVariables false
namespace Go.Proofs.YtlogjgmfkjjhjaaGreatDoor
open Go.RowKit

theorem BoxC.ext {W W' : World} {B : Nat} {t : TypeId} {cs : Array Value} (h : BoxC W B t cs) (hb : Below W.heap.size W W') : BoxC W' B t cs := (hb.block B h.lt).trans h

/-- which breakers a map says to be open -/
def sigF (σ : ByteArray → Option Bool) : ByteArray → Option Value := fun s => (σ s).map Value.bool
def setS (σ : ByteArray → Option Bool) (s : ByteArray) (b : Bool) : ByteArray → Option Bool := fun t => if t = s then some b else σ t
theorem sigF_put (σ : ByteArray → Option Bool) (s : ByteArray) (b : Bool) : putF (sigF σ) s (.bool b) = sigF (setS σ s b) := by
  funext t
  unfold putF sigF setS
  split <;> rfl
theorem knownF_sig (xs : List ByteArray) : knownF xs = sigF (fun s => if hasS xs s then some true else none) := by
  funext t
  unfold knownF sigF
  cases h : hasS xs t <;> simp [h]
theorem MapV.sig {K b n : Nat} {w : World} {σ : ByteArray → Option Bool} (h : MapV K b n w (sigF σ)) (hK : Tryz.prog.underlying K = some .string) (hT : Tryz.prog.underlying 165 = some (.map K 4)) {s : ByteArray} (hs : s.size ≤ maxLen) :
    (Instr.lookup 165 (.map (some b)) (.string s) false).run Tryz.prog w = .ok (.bool ((σ s).getD false)) w := by
  rw [h.run hK hT (Tryz.zeroValue4 w) hs]
  unfold sigF
  cases σ s <;> rfl

theorem rule1_any (nv ev mv : Value) (l : List Nd) (s : ByteArray) (o : Bool) (w : World) (hs : SlAt encN 7 w nv l) (he : ∃ A n c, ev = .slice A n c) :
    Calls Tryz.prog 160 #[.agg #[nv, ev, mv], .agg #[.string s, .bool o]] w fun e w' => e = .returned (.bool (decide (findI l s < 0))) ∧ Below w.heap.size w w' := by
  have hf := fun W hW => find_any l nv s W (hs.ext hW)
  obtain ⟨A, n, c, rfl⟩ := hs.isSlice
  obtain ⟨A', n', c', rfl⟩ := he
  clear hs
  generalize findI l s = fi at hf ⊢
  have hbW : Below w.heap.size w ((w.alloc (.cells #[.slice A n c, .slice A' n' c', mv] 189)).alloc (.cells #[.string s, .bool o] 117)) := by (repeat (first | exact Below.refl _ _ | assumption | refine Below.drew ?_ | refine Below.alloc ?_ (by simp <;> omega) _ | refine Below.alloc ?_ (by simp) _ | refine Below.setCell ?_ (by simp) _))
  go_enter Tryz.func160, Tryz.ntmps160
  go_wp2_with (go_at_call 89; refine (hf _ hbW).mono ?_; rintro e w1 ⟨rfl, hb1⟩)
  go_ret
  exact ⟨rfl, ext_trans hbW hb1⟩

theorem rule2_any (nv ev : Value) (K b n : Nat) (σ : ByteArray → Option Bool) (s : ByteArray) (o : Bool) (w : World) (hm : MapV K b n w (sigF σ)) (hK : Tryz.prog.underlying K = some .string) (hT : Tryz.prog.underlying 165 = some (.map K 4)) (hn : ∃ A n c, nv = .slice A n c) (he : ∃ A n c, ev = .slice A n c) (hs : s.size ≤ maxLen) :
    Calls Tryz.prog 161 #[.agg #[nv, ev, .map (some b)], .agg #[.string s, .bool o]] w fun e w' => e = .returned (.bool ((σ s).getD false == o)) ∧ Below w.heap.size w w' := by
  obtain ⟨A, n, c, rfl⟩ := hn
  obtain ⟨A', n', c', rfl⟩ := he
  have hbW : Below w.heap.size w ((w.alloc (.cells #[.slice A n c, .slice A' n' c', .map (some b)] 189)).alloc (.cells #[.string s, .bool o] 117)) := by (repeat (first | exact Below.refl _ _ | assumption | refine Below.drew ?_ | refine Below.alloc ?_ (by simp <;> omega) _ | refine Below.alloc ?_ (by simp) _ | refine Below.setCell ?_ (by simp) _))
  have q1 := MapV.sig (hm.ext hbW) hK hT hs
  go_enter Tryz.func161, Tryz.ntmps161
  go_wp2
  go_ret
  exact ⟨rfl, hbW⟩

set_option maxHeartbeats 1000000 in
theorem rule31_any (xb sb : Nat) (nv : Value) (l : List Nd) (nm s : ByteArray) (hac : Acyc l) (hl : l.length ≤ 1048576) (w : World) (hx : w.cell? ⟨xb, 0, none⟩ = some nv) (hsb : w.cell? ⟨sb, 0, none⟩ = some (.string s)) (hs : SlAt encN 7 w nv l) :
    Calls Tryz.prog 163 #[.string nm, .pointer (some ⟨xb, 0, none⟩), .pointer (some ⟨sb, 0, none⟩)] w fun e w' => e = .returned (.bool (hasS (namesN l nm) s)) ∧ Below w.heap.size w w' := by
  have hnm := fun W hW => names_any nv l nm hac hl W (hs.ext hW)
  obtain ⟨A, n, c, rfl⟩ := hs.isSlice
  clear hs
  generalize namesN l nm = way at hnm ⊢
  go_enter Tryz.func163, Tryz.ntmps163
  go_wp2
  have dB0 : Below w.heap.size w w := Below.refl _ _
  refine wp_region_plan (fun w' => w'.cell? ⟨xb, 0, none⟩ = some (.slice A n c) ∧ w'.cell? ⟨sb, 0, none⟩ = some (.string s) ∧ Below w.heap.size w w') [3, 6] [0, 1, 2, 4, 5, 3, 6, 7] (by kernel_rfl) (by kernel_rfl) (by ((first | assumption | exact keep2 (by assumption) (by assumption) | exact keep2 (by assumption) (ext_alloc _ _) | exact keep2 (by assumption) (ext_drew _) | exact keep2 ⟨by assumption, by assumption, by assumption⟩ (ext_drew _) | go_keep))) (fun hSw => ?_)
  repeat (first
    | (refine wpPlan_pas rfl rfl (fun K hK => ?_)
       apply Exists.intro
       refine ⟨?_, ?_⟩
       · first | exact pasOk_no rfl | (apply pasOk_yes rfl; intro wS hS; obtain ⟨s0, s1, s2⟩ := hS; go_simp; first | done | exact rfl | ((try simp only [↓IntWalk.iteOmega]); (try go_bits); (try go_simp); first | done | exact rfl))
       go_simp
       refine hK _ ?_
       clear hK K)
    | (refine wpPlan_no rfl rfl rfl (by assumption) (fun K hK => ?_)
       go_simp
       refine hK _ ?_
       clear hK K)
    | (refine wpPlan_act rfl rfl rfl (fun K hK => ?_)
       go_wp2_with (first | (go_at_call 71; refine (hnm _ hSw.2.2).mono ?_; rintro e w1 ⟨v1, rfl, ho1, hb1, hn1⟩; have hws := ho1.slat encS_len; obtain ⟨A1, c1, rfl⟩ := ho1.slice) | (go_at_call 119; refine (containsS_any way _ s _ hws).mono ?_; rintro e w3 ⟨rfl, rfl⟩))
       refine OnlyK.go (hK _ _ (by ((first | assumption | exact keep2 (by assumption) (by assumption) | exact keep2 (by assumption) (ext_alloc _ _) | exact keep2 (by assumption) (ext_drew _) | exact keep2 ⟨by assumption, by assumption, by assumption⟩ (ext_drew _) | go_keep))) (fun hSw => ?_))
       clear hK K))
  refine wpPlan_nil ?_
  go_wp2
  go_ret
  exact ⟨rfl, hSw.2.2⟩

def rule3B (l : List Nd) (earthed : List ByteArray) (s : ByteArray) (o : Bool) : Bool := !o && earthed.any fun nm => hasS (namesN l nm) s
set_option maxHeartbeats 1000000 in
theorem rule3_any (nv ev mv : Value) (l : List Nd) (earthed : List ByteArray) (s : ByteArray) (o : Bool) (hac : Acyc l) (hl : l.length ≤ 1048576) (w : World) (hs : SlAt encN 7 w nv l) (he : SlAt encS 1 w ev earthed) :
    Calls Tryz.prog 162 #[.agg #[nv, ev, mv], .agg #[.string s, .bool o]] w fun e w' => e = .returned (.bool (rule3B l earthed s o)) ∧ Below w.heap.size w w' := by
  have hcf := fun (W : World) (hc : W.cell? ⟨w.heap.size, 0, none⟩ = some nv) (hc2 : W.cell? ⟨w.heap.size + 1, 0, none⟩ = some (.string s)) (hW : Below w.heap.size w W) =>
    containsFuncSS (fun nm => hasS (namesN l nm) s) 163 #[.pointer (some ⟨w.heap.size, 0, none⟩), .pointer (some ⟨w.heap.size + 1, 0, none⟩)] (enters_of Tryz.func163 (by kernel_rfl) rfl) earthed ev W (he.ext hW)
      (fun W' x _ hb => rule31_any w.heap.size (w.heap.size + 1) nv l x s hac hl W' (ext_cell hb hc) (ext_cell hb hc2) (hs.ext (ext_trans hW hb)))
  have hV : rule3B l earthed s o = (!o && earthed.any fun nm => hasS (namesN l nm) s) := rfl
  rw [hV]
  clear hV
  generalize (earthed.any fun nm => hasS (namesN l nm) s) = r at hcf ⊢
  obtain ⟨A, n, c, rfl⟩ := hs.isSlice
  obtain ⟨A', n', c', rfl⟩ := he.isSlice
  clear hs he
  have hbW : Below w.heap.size w ((w.alloc (.cells #[.slice A n c, .slice A' n' c', mv] 189)).alloc (.cells #[.string s, .bool o] 117)) := by (repeat (first | exact Below.refl _ _ | assumption | refine Below.drew ?_ | refine Below.alloc ?_ (by simp <;> omega) _ | refine Below.alloc ?_ (by simp) _ | refine Below.setCell ?_ (by simp) _))
  have x0 := (BoxC.new w 189 #[.slice A n c, .slice A' n' c', mv]).alloc (.cells #[.string s, .bool o] 117)
  have x1 := BoxC.new (w.alloc (.cells #[.slice A n c, .slice A' n' c', mv] 189)) 117 #[.string s, .bool o]
  rw [World.size_alloc] at x1
  have p0 := x0.cell 0 _ rfl
  have p1 := x1.cell 0 _ rfl
  clear x0 x1
  go_enter Tryz.func162, Tryz.ntmps162
  cases o
  · go_wp2_with (go_at_call 158; refine (hcf _ p0 p1 hbW).mono ?_; rintro e w1 ⟨rfl, hb1⟩)
    go_ret
    exact ⟨by simp, ext_trans hbW hb1⟩
  · go_wp2
    go_ret
    exact ⟨rfl, hbW⟩

def encRu (z : Bool) : List Value := if z then [.func (.func 160) #[] #[], .int .i64 10, .func (.func 161) #[] #[], .int .i64 22, .func (.func 162) #[] #[], .int .i64 29] else [.nilFunc, .int .i64 0, .nilFunc, .int .i64 0, .nilFunc, .int .i64 0]
theorem encRu_len (z : Bool) : (encRu z).length = 6 := by cases z <;> rfl
theorem encRu_one (z : Bool) : ∀ v ∈ encRu z, v.oneCell' = true := by cases z <;> decide
theorem sizeRu : (Tryz.prog.info? 193).map (·.size) = some 6 := by kernel_rfl
theorem rules_any (w : World) : Calls Tryz.prog 122 #[] w fun e w' => e = .returned (.agg #[.func (.func 160) #[] #[], .int .i64 10, .func (.func 161) #[] #[], .int .i64 22, .func (.func 162) #[] #[], .int .i64 29]) ∧ Below w.heap.size w w' := by
  have hr : RowC encRu 6 w.heap.size 0 (w.alloc (.cells #[.nilFunc, .int .i64 0, .nilFunc, .int .i64 0, .nilFunc, .int .i64 0] 193)) [false] := RowC.new encRu_len w 193 false
  have hbW : Below w.heap.size w (w.alloc (.cells #[.nilFunc, .int .i64 0, .nilFunc, .int .i64 0, .nilFunc, .int .i64 0] 193)) := ext_alloc _ _
  go_enter Tryz.func122, Tryz.ntmps122
  go_wp2_with ((refine wpList_store_row2 rfl 193 _ _ rfl encRu_len encRu_one sizeRu 0 true hr (by simp) rfl _ rfl rfl ?_); intro w9 hl9 hb9 hz9 ho9)
  have g := hl9.2.1 0 true rfl
  have g0 := g 0 _ rfl
  have g1 := g 1 _ rfl
  have g2 := g 2 _ rfl
  have g3 := g 3 _ rfl
  have g4 := g 4 _ rfl
  have g5 := g 5 _ rfl
  simp only [Nat.zero_mul, Nat.zero_add] at g0 g1 g2 g3 g4 g5
  exact bodyPost_ret (v := .agg #[.func (.func 160) #[] #[], .int .i64 10, .func (.func 161) #[] #[], .int .i64 22, .func (.func 162) #[] #[], .int .i64 29]) (by simp [results, Tryz.results122, go_sem, g0, g1, g2, g3, g4, g5]) rfl ⟨rfl, hbW.trans (hb9.mono (Nat.le_refl _))⟩
end Go.Proofs.YtlogjgmfkjjhjaaGreatDoor
namespace Go.Proofs.YtlogjgmfkjjhjaaGreatDoor
open Go.RowKit

theorem BoxC.setC {W : World} {B : Nat} {t : TypeId} {cs : Array Value} (h : BoxC W B t cs) (i : Nat) (v : Value) : BoxC (W.setCell ⟨B, i, none⟩ v) B t (cs.setIfInBounds i v) := heap_setCell_same W B i cs t v h
theorem BoxC.frozen {W : World} {B : Nat} {t : TypeId} {cs : Array Value} (h : BoxC W B t cs) (j : Nat) : W.frozen? ⟨B, j, none⟩ = false := by
  unfold BoxC at h
  simp only [World.frozen?, h]
  simp
theorem setCell_grown (W : World) (B i : Nat) (v : Value) : W.grownBy (W.setCell ⟨B, i, none⟩ v) (some B) :=
  ⟨rfl, rfl, rfl, by simp, fun k _ hne => heap_setCell_other _ _ _ _ (fun e => hne (by rw [e]))⟩

/-- a taker: the words that are left, and whether one was wrong -/
def TkAt (w : World) (tb : Nat) (ws : List ByteArray) (wr : Bool) : Prop :=
  ∃ (A : Option Addr) (c : Nat), BoxC w tb 214 #[.slice A ws.length c, .bool wr] ∧ ws.length ≤ c ∧ c ≤ 9223372036854775807 ∧
    (0 < ws.length → ∃ b o, A = some ⟨b, o, none⟩ ∧ b < tb ∧ ∀ j x, ws[j]? = some x → w.cell? ⟨b, o + j, none⟩ = some (.string x))
theorem TkAt.grown {w w1 : World} {tb : Nat} {ws : List ByteArray} {wr : Bool} (h : TkAt w tb ws wr) (hg : Below w.heap.size w w1) : TkAt w1 tb ws wr := by
  obtain ⟨A, c, h1, h2, h3, h4⟩ := h
  refine ⟨A, c, BoxC.ext h1 hg, h2, h3, fun hp => ?_⟩
  obtain ⟨b, o, e, hl, hc⟩ := h4 hp
  exact ⟨b, o, e, hl, fun j x hx => ext_cell hg (hc j x hx)⟩

def wordS (ws : List ByteArray) (wr : Bool) : ByteArray × List ByteArray × Bool := match ws with
  | [] => (ByteArray.empty, [], true)
  | x :: r => if x.toList.isEmpty then (ByteArray.empty, [], true) else (x, r, wr)

set_option maxHeartbeats 4000000 in
theorem word_any (tb : Nat) (ws : List ByteArray) (wr : Bool) (w : World) (h : TkAt w tb ws wr) :
    Calls Tryz.prog 132 #[.pointer (some ⟨tb, 0, none⟩)] w fun e w' => e = .returned (.string (wordS ws wr).1) ∧ TkAt w' tb (wordS ws wr).2.1 (wordS ws wr).2.2 ∧ w.grownBy w' (some tb) := by
  obtain ⟨A, c, hbx, hc1, hc2, hr⟩ := h
  have c0 := hbx.cell 0 _ rfl
  have c1 := hbx.cell 1 _ rfl
  have hfz := hbx.frozen
  have hnil : ∀ W : World, BoxC W tb 214 #[.slice none 0 0, .bool true] → TkAt W tb [] true := fun W hW => ⟨none, 0, hW, Nat.le_refl _, by omega, fun h => absurd h (by simp)⟩
  have hb2 : BoxC ((w.setCell ⟨tb, 0, none⟩ (.slice none 0 0)).setCell ⟨tb, 1, none⟩ (.bool true)) tb 214 #[.slice none 0 0, .bool true] := (hbx.setC 0 (.slice none 0 0)).setC 1 (.bool true)
  have hg2 : w.grownBy ((w.setCell ⟨tb, 0, none⟩ (.slice none 0 0)).setCell ⟨tb, 1, none⟩ (.bool true)) (some tb) := km_trans (setCell_grown w tb 0 _) (setCell_grown _ tb 1 _)
  have d1 := (hbx.setC 0 (.slice none 0 0)).cell 1 _ rfl
  have dfz := (hbx.setC 0 (.slice none 0 0)).frozen
  go_enter Tryz.func132, Tryz.ntmps132
  rcases ws with _ | ⟨x, r⟩
  · go_wp2
    exact bodyPost_ret (v := .string ByteArray.empty) (by simp [results, Tryz.results132, go_sem]; rfl) rfl ⟨rfl, hnil _ hb2, hg2⟩
  · obtain ⟨b, o, rfl, hbl', hcell⟩ := hr (by simp)
    have hbl : b < w.heap.size := Nat.lt_trans hbl' hbx.lt
    have hbne : b ≠ tb := Nat.ne_of_lt hbl'
    have x0 : w.cell? ⟨b, o, none⟩ = some (.string x) := hcell 0 x rfl
    cases hq : x.toList.isEmpty
    · have hw : wordS (x :: r) wr = (x, r, wr) := by simp [wordS, hq]
      rw [hw]
      by_cases hcc : c = 1
      · subst hcc
        have hr0 : r = [] := by
          cases r with
          | nil => rfl
          | cons y r' => simp at hc1
        subst hr0
        have hb3 : BoxC (w.setCell ⟨tb, 0, none⟩ (.slice (some ⟨b, o, none⟩) 0 0)) tb 214 #[.slice (some ⟨b, o, none⟩) 0 0, .bool wr] := hbx.setC 0 _
        go_wp2
        exact bodyPost_ret (v := .string x) (by simp [results, Tryz.results132, go_sem]) rfl ⟨rfl, ⟨_, _, hb3, Nat.le_refl _, by omega, fun h => absurd h (by simp)⟩, setCell_grown w tb 0 _⟩
      · have hb3 : BoxC (w.setCell ⟨tb, 0, none⟩ (.slice (some ⟨b, o + 1, none⟩) r.length (c - 1))) tb 214 #[.slice (some ⟨b, o + 1, none⟩) r.length (c - 1), .bool wr] := hbx.setC 0 _
        have hcl := hc1
        simp only [List.length_cons] at hcl
        have hg3 := setCell_grown w tb 0 (.slice (some ⟨b, o + 1, none⟩) r.length (c - 1))
        have htk : TkAt (w.setCell ⟨tb, 0, none⟩ (.slice (some ⟨b, o + 1, none⟩) r.length (c - 1))) tb r wr := ⟨_, _, hb3, by omega, by omega, fun h => ⟨b, o + 1, rfl, hbl', fun j y hy => by
          rw [World.cell?_of_block (hg3.block b hbl (by simpa using hbne)), Nat.add_assoc, Nat.add_comm 1 j]
          exact hcell (j + 1) y (by simpa using hy)⟩⟩
        go_wp2
        exact bodyPost_ret (v := .string x) (by simp [results, Tryz.results132, go_sem]) rfl ⟨rfl, htk, hg3⟩
    · have hw : wordS (x :: r) wr = (ByteArray.empty, [], true) := by simp [wordS, hq]
      rw [hw]
      go_wp2
      exact bodyPost_ret (v := .string ByteArray.empty) (by simp [results, Tryz.results132, go_sem]; rfl) rfl ⟨rfl, hnil _ hb2, hg2⟩

theorem tk_wrong {w : World} {tb : Nat} {ws : List ByteArray} {wr : Bool} (h : TkAt w tb ws wr) (v : Bool) : TkAt (w.setCell ⟨tb, 1, none⟩ (.bool v)) tb ws v := by
  obtain ⟨A, c, h1, h2, h3, h4⟩ := h
  refine ⟨A, c, h1.setC 1 _, h2, h3, fun h => ?_⟩
  obtain ⟨b, o, e, hl', hc⟩ := h4 h
  have hl : b < w.heap.size := Nat.lt_trans hl' h1.lt
  have hne : b ≠ tb := Nat.ne_of_lt hl'
  exact ⟨b, o, e, hl', fun j x hx => by
    rw [World.cell?_of_block ((setCell_grown w tb 1 (.bool v)).block b hl (by simpa using hne))]
    exact hc j x hx⟩
def numberS (ws : List ByteArray) (wr : Bool) : Int × List ByteArray × Bool := ((numB (wordS ws wr).1).1, (wordS ws wr).2.1, (wordS ws wr).2.2 || !(numB (wordS ws wr).1).2)
set_option maxHeartbeats 4000000 in
theorem tnumber_any (tb : Nat) (ws : List ByteArray) (wr : Bool) (w : World) (h : TkAt w tb ws wr) :
    Calls Tryz.prog 131 #[.pointer (some ⟨tb, 0, none⟩)] w fun e w' => e = .returned (.int .i64 (numberS ws wr).1) ∧ TkAt w' tb (numberS ws wr).2.1 (numberS ws wr).2.2 ∧ w.grownBy w' (some tb) := by
  have hwd := word_any tb ws wr w h
  have hV : numberS ws wr = ((numB (wordS ws wr).1).1, (wordS ws wr).2.1, (wordS ws wr).2.2 || !(numB (wordS ws wr).1).2) := rfl
  rw [hV]
  clear hV
  generalize wordS ws wr = st at hwd ⊢
  obtain ⟨s, ws2, wr2⟩ := st
  simp only at hwd ⊢
  have hnum := fun W => number_any s W
  generalize numB s = nn at hnum ⊢
  obtain ⟨n, isn⟩ := nn
  simp only at hnum ⊢
  go_enter Tryz.func131, Tryz.ntmps131
  cases wr2
  · skip
    go_wp2_with (first
      | (go_at_call 132; refine hwd.mono ?_; rintro e w1 ⟨rfl, ht1, hg1⟩)
      | (go_at_call 171; refine (hnum _).mono ?_; rintro e w2 ⟨rfl, hb2⟩; obtain ⟨A2, c2, hbx2, hcc1, hcc2, hr2⟩ := ht1.grown hb2; have c0 := hbx2.cell 0 _ rfl; have c1 := hbx2.cell 1 _ rfl; have hfz := hbx2.frozen))
    exact bodyPost_ret (v := .int .i64 n) (by simp [results, Tryz.results131, go_sem]) rfl ⟨rfl, tk_wrong ⟨A2, c2, hbx2, hcc1, hcc2, hr2⟩ (!isn), km_trans (km_below hg1 hb2) (setCell_grown w2 tb 1 _)⟩
  · skip
    go_wp2_with (first
      | (go_at_call 132; refine hwd.mono ?_; rintro e w1 ⟨rfl, ht1, hg1⟩)
      | (go_at_call 171; refine (hnum _).mono ?_; rintro e w2 ⟨rfl, hb2⟩; obtain ⟨A2, c2, hbx2, hcc1, hcc2, hr2⟩ := ht1.grown hb2; have c0 := hbx2.cell 0 _ rfl; have c1 := hbx2.cell 1 _ rfl; have hfz := hbx2.frozen))
    exact bodyPost_ret (v := .int .i64 n) (by simp [results, Tryz.results131, go_sem]) rfl ⟨rfl, tk_wrong ⟨A2, c2, hbx2, hcc1, hcc2, hr2⟩ true, km_trans (km_below hg1 hb2) (setCell_grown w2 tb 1 _)⟩
end Go.Proofs.YtlogjgmfkjjhjaaGreatDoor
