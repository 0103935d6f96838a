/-
  cmp.Compare, cmp.Or at ints; tripped.compare.
  slices.SortFunc at relays that trip: at most 12.
  slices.SortFunc at the nil slice.
-/
import Derived.Test.YtlogjgmfkjjhjaaGreatDoorX13
import Derived.Sort.Grow
import Derived.Shelf.SlSortCmp.SmallK
import Derived.Shelf.Small.Bits
import Derived.Lib.OwnBridge
import Derived.Ground.SlsfProg
import Derived.Ground.NamesProg
import Derived.Test.YtlogjgmfkjjhjaaGreatDoorShelfB
set_option linter.unusedSimpArgs false
set_option linter.unusedVariables false
namespace Go.Proofs.YtlogjgmfkjjhjaaGreatDoor
open Go.RowKit

theorem isNaN_any (x : Int) (w : World) : Calls Tryz.prog 187 #[.int .i64 x] w fun e w' => e = .returned (.bool false) ∧ w' = w := by
  go_enter Tryz.func187, Tryz.ntmps187
  go_wp2
  go_ret
  exact ⟨by simp, rfl⟩
def cmpV (a b : Int) : Int := if a < b then -1 else if b < a then 1 else 0
set_option maxHeartbeats 1000000 in
theorem compare_any (a b : Int) (w : World) : Calls Tryz.prog 175 #[.int .i64 a, .int .i64 b] w fun e w' => e = .returned (.int .i64 (cmpV a b)) ∧ w' = w := by
  unfold cmpV
  by_cases h1 : a < b
  · rw [if_pos h1]
    go_enter Tryz.func175, Tryz.ntmps175
    go_wp2_with (go_at_call 187; refine (isNaN_any _ _).mono ?_; rintro e w1 ⟨rfl, rfl⟩)
    go_ret
    exact ⟨rfl, rfl⟩
  · rw [if_neg h1]
    by_cases h2 : b < a
    · rw [if_pos h2]
      go_enter Tryz.func175, Tryz.ntmps175
      go_wp2_with (go_at_call 187; refine (isNaN_any _ _).mono ?_; rintro e w1 ⟨rfl, rfl⟩)
      go_ret
      exact ⟨rfl, rfl⟩
    · rw [if_neg h2]
      go_enter Tryz.func175, Tryz.ntmps175
      go_wp2_with (go_at_call 187; refine (isNaN_any _ _).mono ?_; rintro e w1 ⟨rfl, rfl⟩)
      go_ret
      exact ⟨rfl, rfl⟩

set_option maxHeartbeats 400000 in
theorem or_any (xs : List Int) (v : Value) (w : World) (hs : SlAt encI 1 w v xs) : Calls Tryz.prog 174 #[v] w fun e w' => e = .returned (.int .i64 (firstV xs)) ∧ w = w' := by
  obtain ⟨A, c, rfl, hc, hm, hr⟩ := hs
  have hlen : xs.length ≤ 9223372036854775807 := by omega
  go_enter Tryz.func174, Tryz.ntmps174
  go_wp2
  go_loop [8, 5] (fun i _ => ∃ k : Nat, k ≤ xs.length ∧ i = .int .i64 k ∧ Hid (∀ j, j < k → xs.getD j 0 = 0)) (fun i _ => xs.length - (intOf i).toNat)
  case atStart => exact ⟨0, Nat.zero_le _, rfl, fun j hj => absurd hj (Nat.not_lt_zero _)⟩
  case round =>
    obtain ⟨k, hk, rfl, hz⟩ := hrel
    by_cases hlt : k < xs.length
    · obtain ⟨b, off, rfl, hb, hc⟩ := hr (by omega)
      have hcell : w.cell? ⟨b, off + k, none⟩ = some (.int .i64 (xs[k])) := by
        have := hc k xs[k] (List.getElem?_eq_getElem hlt) 0 _ rfl
        simpa using this
      clear hc hr
      generalize hx : xs[k] = x at hcell
      have HX : Hid (xs[k] = x) := hx
      clear hx
      cases hq : (x != 0)
      · go_wp2
        go_round
        case rel => exact ⟨k + 1, by omega, by go_num, fun j hj => by
          by_cases e : j = k
          · subst e; have := HX.out; simp at hq; simp [hlt, this, hq]
          · exact hz.out j (by omega)⟩
        case measure => simp [intOf]; omega
      · go_wp2
        go_ret
        refine ⟨?_, rfl⟩
        rw [firstV_drop xs k hz.out, List.drop_eq_getElem_cons hlt, HX.out, firstV, if_pos (by simpa using hq)]; rfl
    · go_wp2
      go_ret
      refine ⟨?_, rfl⟩
      rw [firstV_drop xs k hz.out, List.drop_of_length_le (by omega)]; rfl

/-- a relay that trips -/
structure Tp where
  rel : Rl
  time : Int
  far : Int
instance : Inhabited Tp := ⟨⟨default, 0, 0⟩⟩
def encT (t : Tp) : List Value := [.string t.rel.name, .string t.rel.node, t.rel.pv, .string t.rel.name, .int .i64 t.time, .int .i64 t.far]
theorem encT_len (t : Tp) : (encT t).length = 6 := rfl
def compareV (t o : Tp) : Int := firstV [cmpV t.time o.time, cmpV t.far o.far]

set_option maxHeartbeats 2000000 in
theorem tripCompare_any (t o : Tp) (w : World) :
    Calls Tryz.prog 149 #[.agg (encT t).toArray, .agg (encT o).toArray] w fun e w' => e = .returned (.int .i64 (compareV t o)) ∧ ∃ q os, w' = Go.Sort.grow (w.drewN q) os := by
  have hV : compareV t o = firstV [cmpV t.time o.time, cmpV t.far o.far] := rfl
  rw [hV]
  clear hV
  unfold encT Rl.pv
  generalize t.rel.name = a1
  generalize t.rel.node = a2
  generalize o.rel.name = b1
  generalize o.rel.node = b2
  generalize t.rel.pa = A1
  generalize t.rel.pts.length = n1
  generalize t.rel.pc = c1
  generalize o.rel.pa = A2
  generalize o.rel.pts.length = n2
  generalize o.rel.pc = c2
  generalize t.time = tt
  generalize o.time = ot
  generalize t.far = tf
  generalize o.far = of
  go_enter Tryz.func149, Tryz.ntmps149
  go_wp2
  have hg0 : ∃ os, ((w.alloc (.cells #[.string a1, .string a2, .slice A1 n1 c1, .string a1, .int .i64 tt, .int .i64 tf] 154)).alloc (.cells #[.string b1, .string b2, .slice A2 n2 c2, .string b1, .int .i64 ot, .int .i64 of] 154)) = Go.Sort.grow w os := ⟨_, by rw [Go.Sort.alloc_eq_grow, Go.Sort.alloc_eq_grow, Go.Sort.grow_grow]⟩
  have x1 := BoxC.alloc (BoxC.new w 154 #[.string a1, .string a2, .slice A1 n1 c1, .string a1, .int .i64 tt, .int .i64 tf]) (.cells #[.string b1, .string b2, .slice A2 n2 c2, .string b1, .int .i64 ot, .int .i64 of] 154)
  have x2 := BoxC.new (w.alloc (.cells #[.string a1, .string a2, .slice A1 n1 c1, .string a1, .int .i64 tt, .int .i64 tf] 154)) 154 #[.string b1, .string b2, .slice A2 n2 c2, .string b1, .int .i64 ot, .int .i64 of]
  rw [World.size_alloc] at x2
  generalize World.alloc (World.alloc w _) _ = W at hg0 x1 x2 ⊢
  have p4 := x1.cell 4 _ rfl
  have p5 := x1.cell 5 _ rfl
  have q4 := x2.cell 4 _ rfl
  have q5 := x2.cell 5 _ rfl
  have dB0 : Below W.heap.size W W := Below.refl _ _
  refine wp_region_plan (fun w' => w'.cell? ⟨w.heap.size, 4, none⟩ = some (.int .i64 tt) ∧ w'.cell? ⟨w.heap.size, 5, none⟩ = some (.int .i64 tf) ∧ w'.cell? ⟨w.heap.size + 1, 4, none⟩ = some (.int .i64 ot) ∧ w'.cell? ⟨w.heap.size + 1, 5, none⟩ = some (.int .i64 of) ∧ Below W.heap.size W w') [6, 11, 12, 13] [0, 1, 2, 3, 4, 5, 7, 8, 9, 10, 6, 11, 12, 13, 14] (by kernel_rfl) (by kernel_rfl) (by ((first | assumption | exact keep4 (by assumption) (by assumption) | exact keep4 (by assumption) (ext_alloc _ _) | exact keep4 (by assumption) (ext_drew _) | exact keep4 ⟨by assumption, by assumption, by assumption, by assumption, by assumption⟩ (ext_drew _) | go_keep))) (fun hSw => ?_)
  repeat (first
    | (refine wpPlan_pas rfl rfl (fun K hK => ?_)
       apply Exists.intro
       refine ⟨?_, ?_⟩
       · first | exact pasOk_no rfl | (apply pasOk_yes rfl; intro wS hS; obtain ⟨s0, s1, s2, s3, s4⟩ := hS; go_simp; first | done | exact rfl | ((try simp only [↓IntWalk.iteOmega]); (try go_bits); (try go_simp); first | done | exact rfl))
       go_simp
       refine hK _ ?_
       clear hK K)
    | (refine wpPlan_no rfl rfl rfl (by assumption) (fun K hK => ?_)
       go_simp
       refine hK _ ?_
       clear hK K)
    | (refine wpPlan_act rfl rfl rfl (fun K hK => ?_)
       go_wp2_with (first | (go_at_call 175; refine (compare_any _ _ _).mono ?_; rintro e w1 ⟨rfl, rfl⟩) | (go_at_call 174; refine (or_any [_, _] _ _ (SlAt.drew (slat_new encI_len (by simp) rfl (by simp)))).mono ?_; rintro e w1 ⟨rfl, rfl⟩))
       refine OnlyK.go (hK _ _ (by ((first | assumption | exact keep4 (by assumption) (by assumption) | exact keep4 (by assumption) (ext_alloc _ _) | exact keep4 (by assumption) (ext_drew _) | exact keep4 ⟨by assumption, by assumption, by assumption, by assumption, by assumption⟩ (ext_drew _) | go_keep))) (fun hSw => ?_))
       clear hK K))
  refine wpPlan_nil ?_
  clear hSw
  go_wp2
  go_ret
  refine ⟨rfl, ?_⟩
  obtain ⟨os, rfl⟩ := hg0
  exact ⟨1, _, by rw [Go.Sort.alloc_eq_grow, Go.Sort.grow_grow]; rfl⟩
end Go.Proofs.YtlogjgmfkjjhjaaGreatDoor
namespace Go.Proofs.YtlogjgmfkjjhjaaGreatDoor
open Go.Shelf Go.RowKit Go.Lib Go.Sort

theorem encT_one (t : Tp) : ∀ v ∈ encT t, v.oneCell' = true := by
  intro v hv
  simp only [encT, Rl.pv, List.mem_cons, List.mem_nil_iff, or_false] at hv
  rcases hv with rfl | rfl | rfl | rfl | rfl | rfl <;> rfl
theorem cmpLaysT (blk off size : Nat) (w : World) : CmpLays Tryz.prog 149 #[] encT 6 compareV blk off size w :=
  fun _ _ _ _ x y => tripCompare_any x y _
theorem hlenT (n : Nat) (W : World) (h : n ≤ 12) : Calls Tryz.prog 177 #[.int .u64 n] W fun e w' => (∃ l : Int, e = .returned (.int .i64 l)) ∧ w' = W :=
  (Any.bits_Len Tryz.bitsLenTp n W (by omega) (by omega)).mono fun _ _ ⟨he, hw⟩ => ⟨⟨_, he⟩, hw⟩

/-- the row of a slice of the call's own -/
theorem Own.holds {base : Nat} {w : World} {b c : Nat} {xs : List Tp} (h : Own encT 6 base 154 w (.slice (some ⟨b, 0, none⟩) xs.length c) xs) : HoldsK encT 6 w b 0 xs.toArray := by
  obtain ⟨A, c', e1, _, _, hr⟩ := h.slat encT_len
  intro t ht
  rw [size_flatK] at ht
  have hn : xs.length * 6 = xs.toArray.size * 6 := by simp
  have hlt : t < xs.length * 6 := by rw [hn]; exact ht
  obtain ⟨b', off, e2, hbl, hcell⟩ := hr (by omega)
  cases e1
  cases e2
  have hi : t / 6 < xs.length := by omega
  have hj : t % 6 < 6 := by omega
  constructor
  · rw [get_flatK encT 6 xs.toArray t ht]
    have hx : xs[t / 6]? = some xs[t / 6] := List.getElem?_eq_getElem hi
    have hu : (encT xs[t / 6])[t % 6]? = some ((encT xs[t / 6])[t % 6]'(by rw [encT_len]; exact hj)) := List.getElem?_eq_getElem _
    have h3 := hcell _ _ hx _ _ hu
    have e3 : 0 + t / 6 * 6 + t % 6 = 0 + t := by omega
    rw [e3] at h3
    rw [h3]
    have e4 : xs.toArray[t / 6]! = xs[t / 6] := by rw [getElem!_pos _ _ (by simpa using hi)]; simp
    rw [e4, getElem!_pos (encT xs[t / 6]) (t % 6) (by rw [encT_len]; exact hj)]
    rfl
  · rcases h.2 with ⟨hv, _⟩ | ⟨g, cap, cur, e5, _, hh, _⟩
    · cases hv
    · cases e5
      simp [World.frozen?, hh]
theorem size_insInner {α : Type} [Inhabited α] (lt : α → α → Bool) (a : Nat) : ∀ (j : Nat) (d : Array α), (insInner lt a j d).size = d.size
  | 0, d => rfl
  | j + 1, d => by
    unfold insInner
    split
    · rw [size_insInner lt a j, size_swp]
    · rfl
theorem size_insOuter {α : Type} [Inhabited α] (lt : α → α → Bool) (a b : Nat) : ∀ (m i : Nat) (d : Array α), b - i ≤ m → (insOuter lt a b i d).size = d.size
  | 0, i, d, h => by unfold insOuter; rw [if_neg (by omega)]
  | m + 1, i, d, h => by
    unfold insOuter
    split
    · rw [size_insOuter lt a b m (i + 1) _ (by omega), size_insInner]
    · rfl
theorem sorted_size (d : Array Tp) : (Sort.insertionSort (ltOf compareV) d 0 d.size).size = d.size := size_insOuter _ _ _ _ _ _ (Nat.le_refl _)
def sortT (xs : List Tp) : List Tp := (Sort.insertionSort (ltOf compareV) xs.toArray 0 xs.toArray.size).toList

theorem below_grown_sl' (B : Nat) (w : World) (os : Array Obj) (hB : B ≤ w.heap.size) : RowKit.Below B w (grow w os) :=
  ⟨rfl, rfl, rfl, by simp [grow], fun k hk => by simp only [grow]; rw [Array.getElem?_append_left (by omega)]⟩
theorem sortT_any (xs : List Tp) (b c base : Nat) (w : World) (h : Own encT 6 base 154 w (.slice (some ⟨b, 0, none⟩) xs.length c) xs) (hb : b < w.heap.size) (hbb : base ≤ b) (h12 : xs.length ≤ 12) :
    Calls Tryz.prog 150 #[.slice (some ⟨b, 0, none⟩) xs.length c, .func (.func 149) #[] #[]] w fun e w' => e = .returned (.tuple #[]) ∧ SlAt encT 6 w' (.slice (some ⟨b, 0, none⟩) xs.length c) (sortT xs) ∧ Below base w w' := by
  have eg := enters_of Tryz.func149 (by kernel_rfl) rfl
  have hcon := AnyQ.slices_SortFunc_small Tryz.sortTp 6 Tryz.isAgg154 Tryz.sizeOf154 encT encT_len encT_one compareV 149 #[] b 0 c xs.toArray w eg (cmpLaysT b 0 _ w) h.holds hb (by simpa using h12) hlenT
  change Calls Tryz.prog 150 _ _ _ at hcon
  refine hcon.mono ?_
  rintro e w' ⟨rfl, n, os, rfl⟩
  have hlen : xs.length ≤ c ∧ c ≤ 9223372036854775807 := by
    obtain ⟨A, c', e1, h1, h2, _⟩ := h.slat encT_len
    cases e1
    exact ⟨h1, h2⟩
  have hs := sorted_size xs.toArray
  have hl : (sortT xs).length = xs.length := by unfold sortT; rw [Array.length_toList, hs]; simp
  have hsz : (putRowK encT 6 (Sort.ahead w n) b 0 (Sort.insertionSort (ltOf compareV) xs.toArray 0 xs.toArray.size)).heap.size = w.heap.size := by simp [putRowK, putRow, mapBlock, Sort.ahead]
  refine ⟨rfl, ?_, ?_⟩
  · have h1 := holdsK_putRowK (enc := encT) (k := 6) (Sort.ahead w n) b 0 xs.toArray (Sort.insertionSort (ltOf compareV) xs.toArray 0 xs.toArray.size) h.holds hs
    have h2 := holdsK_grow (enc := encT) (k := 6) _ os b 0 _ (by rw [hsz]; exact hb) h1
    refine ⟨some ⟨b, 0, none⟩, c, by rw [hl], by rw [hl]; exact hlen.1, hlen.2, fun _ => ⟨b, 0, rfl, ?_, fun j x hx i u hu => ?_⟩⟩
    · show b < (grow _ os).heap.size
      simp only [grow, Array.size_append]
      rw [hsz]; omega
    · have hj : j < (Sort.insertionSort (ltOf compareV) xs.toArray 0 xs.toArray.size).size := by
        have := (List.getElem?_eq_some_iff.1 hx).1
        simpa [sortT] using this
      have hi : i < 6 := by rw [← encT_len x]; exact (List.getElem?_eq_some_iff.1 hu).1
      have h3 := (h2.cell hj hi).1
      have hx2 : (Sort.insertionSort (ltOf compareV) xs.toArray 0 xs.toArray.size)[j]! = x := by
        rw [getElem!_pos _ j hj]
        have := (List.getElem?_eq_some_iff.1 hx).2
        simpa [sortT] using this
      rw [hx2] at h3
      have hu2 : (encT x)[i]! = u := by
        rw [getElem!_pos (encT x) i (by rw [encT_len]; exact hi)]
        exact (List.getElem?_eq_some_iff.1 hu).2
      rw [hu2] at h3
      exact h3
  · have h1 : RowKit.Below base w (putRowK encT 6 (Sort.ahead w n) b 0 (Sort.insertionSort (ltOf compareV) xs.toArray 0 xs.toArray.size)) := below_putRow (RowKit.Below.refl base w) hbb
    exact h1.trans ((below_grown_sl' base _ os (by rw [hsz]; omega)))
end Go.Proofs.YtlogjgmfkjjhjaaGreatDoor
namespace Go.Proofs.YtlogjgmfkjjhjaaGreatDoor
open Go.RowKit

set_option maxHeartbeats 1000000 in
theorem insNil_any (w : World) : Calls Tryz.prog 188 #[.slice none 0 0, .int .i64 0, .int .i64 0, .func (.func 149) #[] #[]] w fun e w' => e = .returned (.tuple #[]) ∧ w' = w := by
  go_enter Tryz.func188, Tryz.ntmps188
  go_wp2
  go_loopw [8] (fun i wr => i = .int .i64 1 ∧ wr = w) (fun i _ => 0)
  case atStart => exact ⟨rfl, rfl⟩
  case round =>
    obtain ⟨rfl, rfl⟩ := hrel
    go_wp2
    go_end0
    exact ⟨rfl, rfl⟩
set_option maxHeartbeats 1000000 in
theorem pdqNil_any (lim : Int) (w : World) : Calls Tryz.prog 176 #[.slice none 0 0, .int .i64 0, .int .i64 0, .int .i64 lim, .func (.func 149) #[] #[]] w fun e w' => e = .returned (.tuple #[]) ∧ w' = w := by
  go_enter Tryz.func176, Tryz.ntmps176
  go_wp2
  go_loopw [1, 2] (fun a b wr => a = .int .i64 0 ∧ b = .int .i64 0 ∧ wr = w) (fun _ _ _ => 0)
  case atStart => exact ⟨rfl, rfl, rfl⟩
  case round =>
    obtain ⟨rfl, rfl, rfl⟩ := hrel
    go_wp2_with (go_at_call 188; refine (insNil_any _).mono ?_; rintro e w1 ⟨rfl, rfl⟩)
    refine bodyPost_ret (results_none rfl _ _ _) rfl ?_
    exact ⟨rfl, rfl⟩
theorem sortNil_any (w : World) : Calls Tryz.prog 150 #[.slice none 0 0, .func (.func 149) #[] #[]] w fun e w' => e = .returned (.tuple #[]) ∧ w' = w := by
  go_enter Tryz.func150, Tryz.ntmps150
  go_wp2_with (first
    | (go_at_call 177; refine (hlenT 0 _ (by omega)).mono ?_; rintro e w1 ⟨⟨lim, rfl⟩, rfl⟩)
    | (go_at_call 176; refine (pdqNil_any _ _).mono ?_; rintro e w1 ⟨rfl, rfl⟩))
  go_end0
  exact ⟨rfl, rfl⟩
end Go.Proofs.YtlogjgmfkjjhjaaGreatDoor
