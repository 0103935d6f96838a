/-
  Integers of less than 2^53 as float64: they are exact, and so are their sums, differences and products as long as these stay below 2^53. No program in sight.
  feeder.wide, times: the product of two complex integers, where the parts stay below 2^53.
-/
import Derived.Laws.ComplexArith
import Derived.Test.YtlogjgmfkjjhjaaGreatDoorX20
set_option linter.unusedSimpArgs false
set_option linter.unusedVariables false
namespace Go.Proofs.YtlogjgmfkjjhjaaGreatDoor
open Go Ieee

/-- the bits stand for the integer n -/
def Reads (b : Nat) (n : Int) : Prop := ∃ (s : Bool) (m k : Nat), Ieee.double.read b = .number s m (-(k : Int)) ∧ signed s m 0 = n * 2 ^ k

theorem bin_52 : Ieee.double.binade = 4503599627370496 := by decide
theorem inf_52 : Ieee.double.infRung = 2047 * 4503599627370496 := by decide
theorem sgn_63 : Ieee.double.signWeight = 2048 * 4503599627370496 := by decide
theorem lst_52 : Ieee.double.leastPlace = -1074 := by decide

theorem read_word (s : Bool) (E F : Nat) (hE : E < 2046) (hF : F < 4503599627370496) :
    Ieee.double.read (Ieee.double.word s ((E + 1) * 4503599627370496 + F)) = .number s (4503599627370496 + F) (-1074 + (E : Int)) := by
  unfold Format.read Format.word
  rw [bin_52, inf_52, sgn_63, lst_52]
  have h1 : (if s = true then 2048 * 4503599627370496 + ((E + 1) * 4503599627370496 + F) else (E + 1) * 4503599627370496 + F) % (2048 * 4503599627370496) = (E + 1) * 4503599627370496 + F := by
    cases s <;> simp <;> omega
  have h2 : ((if s = true then 2048 * 4503599627370496 + ((E + 1) * 4503599627370496 + F) else (E + 1) * 4503599627370496 + F) / (2048 * 4503599627370496) % 2 == 1) = s := by
    cases s
    · have : ((E + 1) * 4503599627370496 + F) / (2048 * 4503599627370496) = 0 := by omega
      simp [this]
    · have : (2048 * 4503599627370496 + ((E + 1) * 4503599627370496 + F)) / (2048 * 4503599627370496) = 1 := by omega
      simp [this]
  rw [h1, h2]
  have h3 : ¬ ((E + 1) * 4503599627370496 + F < 4503599627370496) := by omega
  have h4 : (E + 1) * 4503599627370496 + F < 2047 * 4503599627370496 := by omega
  have h5 : ((E + 1) * 4503599627370496 + F) % 4503599627370496 = F := by omega
  have h6 : ((E + 1) * 4503599627370496 + F) / 4503599627370496 = E + 1 := by omega
  simp only [h3, h4, h5, h6, if_true, if_false, Nat.add_sub_cancel]

theorem cut_exact (neg : Bool) (n b q : Nat) (h : n = q * 2 ^ b) (hq : 0 < q) : Toward.even.cut neg n b = q := by
  have hb : b ≤ n.log2 := by
    rw [Nat.le_log2 (by rw [h]; exact Nat.ne_of_gt (Nat.mul_pos hq (Nat.two_pow_pos b))), h]
    exact Nat.le_mul_of_pos_left _ hq
  unfold Toward.cut
  have hg : 1 <<< min b (n.log2 + 2) = 2 ^ b := by rw [Nat.min_eq_left (by omega), Nat.one_shiftLeft]
  have hp := Nat.two_pow_pos b
  have hl : n / 2 ^ b = q := by rw [h]; exact Nat.mul_div_cancel _ hp
  have hr : n % 2 ^ b = 0 := by rw [h]; exact Nat.mul_mod_left _ _
  simp only [hg, hl, hr]
  have : ¬ (2 ^ b < 2 * 0) := by omega
  have h2 : (2 ^ b == 2 * 0) = false := by simp
  simp [h2]

theorem zero_pow2 (k : Nat) : 0 = 0 * 2 ^ k := (Nat.zero_mul _).symm
theorem read_nearest (s : Bool) (N k : Nat) (hN : N < 9007199254740992) : ∃ m j : Nat, Ieee.double.read (Ieee.double.nearest s (N * 2 ^ k) (-(k : Int))) = .number s m (-(j : Int)) ∧ m = N * 2 ^ j := by
  by_cases h0 : N = 0
  · subst h0
    refine ⟨0, 1074, ?_, zero_pow2 1074⟩
    have : Ieee.double.nearest s (0 * 2 ^ k) (-(k : Int)) = Ieee.double.word s 0 := by unfold Format.nearest; simp
    rw [this]
    cases s <;> decide
  · have hL : N.log2 ≤ 52 := by
      have := (Nat.log2_lt h0 (k := 53)).2 (by omega)
      omega
    have hlog : (N * 2 ^ k).log2 = N.log2 + k := by
      have hlo := Nat.log2_self_le h0
      have hhi : N < 2 ^ (N.log2 + 1) := Nat.lt_log2_self
      have hne : N * 2 ^ k ≠ 0 := Nat.ne_of_gt (Nat.mul_pos (by omega) (Nat.two_pow_pos k))
      apply Nat.le_antisymm
      · have : (N * 2 ^ k).log2 < N.log2 + k + 1 := by
          rw [Nat.log2_lt hne, show N.log2 + k + 1 = (N.log2 + 1) + k from by omega, Nat.pow_add]
          exact Nat.mul_lt_mul_of_pos_right hhi (Nat.two_pow_pos k)
        omega
      · rw [Nat.le_log2 hne, Nat.pow_add]
        exact Nat.mul_le_mul_right _ hlo
    generalize hLL : N.log2 = L at hL hlog
    have hkept : 2 ^ 52 ≤ N * 2 ^ (52 - L) ∧ N * 2 ^ (52 - L) < 2 ^ 53 := by
      have hlo := Nat.log2_self_le h0
      have hhi : N < 2 ^ (N.log2 + 1) := Nat.lt_log2_self
      rw [hLL] at hlo hhi
      constructor
      · calc 2 ^ 52 = 2 ^ L * 2 ^ (52 - L) := by rw [← Nat.pow_add]; congr 1; omega
          _ ≤ _ := Nat.mul_le_mul_right _ hlo
      · calc N * 2 ^ (52 - L) < 2 ^ (L + 1) * 2 ^ (52 - L) := Nat.mul_lt_mul_of_pos_right hhi (Nat.two_pow_pos _)
          _ = 2 ^ 53 := by rw [← Nat.pow_add]; congr 1; omega
    have hnr : Ieee.double.nearest s (N * 2 ^ k) (-(k : Int)) = Ieee.double.word s ((L + 1022) * 4503599627370496 + N * 2 ^ (52 - L)) := by
      unfold Format.nearest
      have hne : N * 2 ^ k ≠ 0 := Nat.ne_of_gt (Nat.mul_pos (by omega) (Nat.two_pow_pos k))
      rw [if_neg hne, hlog, lst_52, bin_52, inf_52]
      have hfb : Ieee.double.fractionBits = 52 := rfl
      rw [hfb]
      have hlast : max (-(k : Int) + ((L + k : Nat) : Int) - ((52 : Nat) : Int)) (-1074) = (L : Int) - 52 := by omega
      simp only [hlast]
      have hcut : Toward.even.cut s ((N * 2 ^ k) <<< (-(k : Int) - ((L : Int) - 52)).toNat) ((L : Int) - 52 - -(k : Int)).toNat = N * 2 ^ (52 - L) := by
        apply cut_exact
        · rw [Nat.shiftLeft_eq, Nat.mul_assoc, ← Nat.pow_add, Nat.mul_assoc, ← Nat.pow_add]
          congr 2
          omega
        · exact Nat.mul_pos (by omega) (Nat.two_pow_pos _)
      rw [hcut]
      have he : ((L : Int) - 52 - -1074).toNat = L + 1022 := by omega
      rw [he, Nat.min_eq_left (by have := hkept.2; have : (2:Nat)^53 = 2 * 4503599627370496 := by decide
                                  omega)]
    refine ⟨N * 2 ^ (52 - L), 52 - L, ?_, rfl⟩
    have h52 : (2:Nat)^52 = 4503599627370496 := by decide
    have h53 : (2:Nat)^53 = 2 * 4503599627370496 := by decide
    have := read_word s (L + 1022) (N * 2 ^ (52 - L) - 4503599627370496) (by omega) (by omega)
    have e1 : 4503599627370496 + (N * 2 ^ (52 - L) - 4503599627370496) = N * 2 ^ (52 - L) := by omega
    have e2 : (-1074 + ((L + 1022 : Nat) : Int)) = -((52 - L : Nat) : Int) := by omega
    generalize N * 2 ^ (52 - L) = Q at *
    have e3 : (L + 1022) * 4503599627370496 + Q = (L + 1022 + 1) * 4503599627370496 + (Q - 4503599627370496) := by rw [Nat.add_mul (L + 1022) 1, Nat.one_mul, Nat.add_assoc, e1]
    rw [e1, e2] at this
    rw [hnr, e3]
    exact this

theorem signed_zero_shift (s : Bool) (m : Nat) : signed s m 0 = if s then -(m : Int) else m := by
  unfold signed; simp

/-- a number whose value is an integer below 2^53 is written exactly -/
theorem reads_write (s : Bool) (m : Nat) (k : Nat) (n : Int) (h : signed s m 0 = n * 2 ^ k) (hn : n.natAbs < 9007199254740992) : Reads (Ieee.double.write (.number s m (-(k : Int)))) n := by
  have hp : (0 : Int) < 2 ^ k := Int.pow_pos (by decide)
  have hm : m = n.natAbs * 2 ^ k := by
    have e : (signed s m 0).natAbs = m := by rw [signed_zero_shift]; cases s <;> simp
    rw [h, Int.natAbs_mul] at e
    rw [← e, Int.natAbs_pow]; rfl
  obtain ⟨m', j, hr, hj⟩ := read_nearest s n.natAbs k hn
  refine ⟨s, m', j, ?_, ?_⟩
  · show Ieee.double.read (Ieee.double.nearest s m (-(k : Int))) = _
    rw [hm]; exact hr
  · rw [hj, signed_zero_shift]
    rw [signed_zero_shift] at h
    have hs : (if s = true then -((n.natAbs : Nat) : Int) else (n.natAbs : Int)) = n := by
      cases s
      · simp only [Bool.false_eq_true, if_false] at h ⊢
        have : 0 ≤ n := by
          rcases Int.lt_or_le n 0 with hh | hh
          · have := Int.mul_neg_of_neg_of_pos hh hp; omega
          · exact hh
        omega
      · simp only [if_true] at h ⊢
        have : n ≤ 0 := by
          rcases Int.lt_or_le 0 n with hh | hh
          · have := Int.mul_pos hh hp; omega
          · exact hh
        omega
    cases s
    · simp only [Bool.false_eq_true, if_false] at hs ⊢
      rw [Int.natCast_mul, hs]; simp
    · simp only [if_true] at hs ⊢
      rw [Int.natCast_mul, ← Int.neg_mul, hs]; simp

theorem reads_ofInt (n : Int) (hn : n.natAbs < 9007199254740992) : Reads (floatOfInt .f64 n) n := by
  have : signed (decide (n < 0)) n.natAbs 0 = n * 2 ^ 0 := by
    rw [signed_zero_shift]
    by_cases h : n < 0 <;> simp [h] <;> omega
  exact reads_write _ n.natAbs 0 n this hn

theorem signed_shift (s : Bool) (m a : Nat) : signed s m a = signed s m 0 * 2 ^ a := by
  unfold signed
  cases s <;> simp [Nat.shiftLeft_eq, Int.neg_mul]

theorem sum_exact {s t : Bool} {m q i j : Nat} {a b : Int} (ha : signed s m 0 = a * 2 ^ i) (hb : signed t q 0 = b * 2 ^ j) (hn : (a + b).natAbs < 9007199254740992) :
    ∃ d, (Datum.number s m (-(i : Int))).sum (.number t q (-(j : Int))) = some d ∧ Reads (Ieee.double.write d) (a + b) := by
  unfold Datum.sum
  simp only
  have hbase : min (-(i : Int)) (-(j : Int)) = -((max i j : Nat) : Int) := by omega
  rw [hbase]
  have h1 : (-(i : Int) - -((max i j : Nat) : Int)).toNat = max i j - i := by omega
  have h2 : (-(j : Int) - -((max i j : Nat) : Int)).toNat = max i j - j := by omega
  rw [h1, h2]
  have ht : signed s m (max i j - i) + signed t q (max i j - j) = (a + b) * 2 ^ (max i j) := by
    rw [signed_shift s m, signed_shift t q, ha, hb, Int.mul_assoc, Int.mul_assoc, ← Int.pow_add, ← Int.pow_add, Int.add_mul]
    congr 3 <;> omega
  rw [ht]
  refine ⟨_, rfl, ?_⟩
  apply reads_write _ _ _ _ ?_ hn
  rw [signed_zero_shift]
  generalize (a + b) * 2 ^ (max i j) = x
  by_cases h0 : x = 0
  · subst h0; simp
  · rw [if_neg h0]
    by_cases hx : x < 0 <;> simp [hx] <;> omega

theorem add_reads {x y : Nat} {a b : Int} (hx : Reads x a) (hy : Reads y b) (hn : (a + b).natAbs < 9007199254740992) : ∃ r, floatBits .add .f64 x y = some r ∧ Reads r (a + b) := by
  obtain ⟨s, m, i, hr, ha⟩ := hx
  obtain ⟨t, q, j, hr', hb⟩ := hy
  obtain ⟨d, hd, hw⟩ := sum_exact ha hb hn
  refine ⟨Ieee.double.write d, ?_, hw⟩
  show Ieee.double.add x y = _
  unfold Format.add
  rw [hr, hr', hd]; rfl
theorem sub_reads {x y : Nat} {a b : Int} (hx : Reads x a) (hy : Reads y b) (hn : (a - b).natAbs < 9007199254740992) : ∃ r, floatBits .sub .f64 x y = some r ∧ Reads r (a - b) := by
  obtain ⟨s, m, i, hr, ha⟩ := hx
  obtain ⟨t, q, j, hr', hb⟩ := hy
  have hb' : signed (!t) q 0 = (-b) * 2 ^ j := by
    rw [signed_zero_shift] at hb ⊢
    rw [Int.neg_mul, ← hb]
    cases t <;> simp
  obtain ⟨d, hd, hw⟩ := sum_exact ha hb' (by rw [← Int.sub_eq_add_neg]; exact hn)
  refine ⟨Ieee.double.write d, ?_, by rw [Int.sub_eq_add_neg]; exact hw⟩
  show Ieee.double.sub x y = _
  unfold Format.sub
  rw [hr, hr']
  show ((Datum.number s m (-(i : Int))).sum (.number (!t) q (-(j : Int)))).map _ = _
  rw [hd]; rfl
theorem mul_reads {x y : Nat} {a b : Int} (hx : Reads x a) (hy : Reads y b) (hn : (a * b).natAbs < 9007199254740992) : ∃ r, floatBits .mul .f64 x y = some r ∧ Reads r (a * b) := by
  obtain ⟨s, m, i, hr, ha⟩ := hx
  obtain ⟨t, q, j, hr', hb⟩ := hy
  refine ⟨Ieee.double.write (.number (s ^^ t) (m * q) (-((i + j : Nat) : Int))), ?_, ?_⟩
  · show Ieee.double.mul x y = _
    unfold Format.mul
    rw [hr, hr']
    show Option.map _ (some (Datum.number (s ^^ t) (m * q) (-(i : Int) + -(j : Int)))) = _
    rw [show (-(i : Int) + -(j : Int)) = -((i + j : Nat) : Int) from by omega]; rfl
  · apply reads_write _ _ _ _ ?_ hn
    have : signed (s ^^ t) (m * q) 0 = signed s m 0 * signed t q 0 := by
      rw [signed_zero_shift, signed_zero_shift, signed_zero_shift]
      cases s <;> cases t <;> simp [Int.neg_mul, Int.mul_neg]
    rw [this, ha, hb, Int.pow_add]
    simp only [Int.mul_assoc, Int.mul_left_comm, Int.mul_comm]

theorem toInt_reads {x : Nat} {a : Int} (hx : Reads x a) (hn : a.natAbs < 9007199254740992) : floatToIntVal .f64 x .i64 = some a := by
  obtain ⟨s, m, k, hr, ha⟩ := hx
  have hp : (0 : Int) < 2 ^ k := Int.pow_pos (by decide)
  have hm : m = a.natAbs * 2 ^ k := by
    have e : (signed s m 0).natAbs = m := by rw [signed_zero_shift]; cases s <;> simp
    rw [ha, Int.natAbs_mul] at e
    rw [← e, Int.natAbs_pow]; rfl
  unfold floatToIntVal
  have hrd : FloatKind.f64.decode x = .number s m (-(k : Int)) := hr
  have hcut : (Datum.number s m (-(k : Int))).toInt .zero = some a := by
    unfold Datum.toInt Datum.integral
    simp only
    have e0 : (-(k : Int)).toNat = 0 := by omega
    have e1 : (-(-(k : Int))).toNat = k := by omega
    rw [e0, e1, Nat.shiftLeft_zero]
    have hc : Toward.zero.cut s m k = a.natAbs := by
      by_cases h0 : a.natAbs = 0
      · rw [hm, h0]; unfold Toward.cut; simp
      · have hq : 0 < a.natAbs := by omega
        have hb : k ≤ m.log2 := by
          rw [Nat.le_log2 (by rw [hm]; exact Nat.ne_of_gt (Nat.mul_pos hq (Nat.two_pow_pos k))), hm]
          exact Nat.le_mul_of_pos_left _ hq
        unfold Toward.cut
        have hg : 1 <<< min k (m.log2 + 2) = 2 ^ k := by rw [Nat.min_eq_left (by omega), Nat.one_shiftLeft]
        have hl : m / 2 ^ k = a.natAbs := by rw [hm]; exact Nat.mul_div_cancel _ (Nat.two_pow_pos k)
        simp [hg, hl]
    rw [hc, signed_zero_shift]
    congr 1
    rw [signed_zero_shift] at ha
    cases s
    · simp only [Bool.false_eq_true, if_false] at ha ⊢
      have : 0 ≤ a := by
        rcases Int.lt_or_le a 0 with hh | hh
        · have := Int.mul_neg_of_neg_of_pos hh hp; omega
        · exact hh
      omega
    · simp only [if_true] at ha ⊢
      have : a ≤ 0 := by
        rcases Int.lt_or_le 0 a with hh | hh
        · have := Int.mul_pos hh hp; omega
        · exact hh
      omega
  rw [hrd, hcut]
  have h1 : IntKind.i64.min = -9223372036854775808 := rfl
  have h2 : IntKind.i64.max = 9223372036854775807 := rfl
  simp only [h1, h2]
  rw [if_pos (by omega)]

/-- the product of two complex integers whose parts stay below 2^53 all the way -/
theorem cmul_reads {a b c d : Int} (ha : a.natAbs < 9007199254740992) (hb : b.natAbs < 9007199254740992) (hc : c.natAbs < 9007199254740992) (hd : d.natAbs < 9007199254740992)
    (h1 : (a * c).natAbs < 9007199254740992) (h2 : (b * d).natAbs < 9007199254740992) (h3 : (a * d).natAbs < 9007199254740992) (h4 : (b * c).natAbs < 9007199254740992)
    (h5 : (a * c - b * d).natAbs < 9007199254740992) (h6 : (a * d + b * c).natAbs < 9007199254740992) :
    ∃ re im, cMulBits (floatOfInt .f64 a) (floatOfInt .f64 b) (floatOfInt .f64 c) (floatOfInt .f64 d) = some (re, im) ∧ floatToIntVal .f64 re .i64 = some (a * c - b * d) ∧ floatToIntVal .f64 im .i64 = some (a * d + b * c) := by
  obtain ⟨r1, e1, k1⟩ := mul_reads (reads_ofInt a ha) (reads_ofInt c hc) h1
  obtain ⟨r2, e2, k2⟩ := mul_reads (reads_ofInt b hb) (reads_ofInt d hd) h2
  obtain ⟨r3, e3, k3⟩ := sub_reads k1 k2 h5
  obtain ⟨r4, e4, k4⟩ := mul_reads (reads_ofInt a ha) (reads_ofInt d hd) h3
  obtain ⟨r5, e5, k5⟩ := mul_reads (reads_ofInt b hb) (reads_ofInt c hc) h4
  obtain ⟨r6, e6, k6⟩ := add_reads k4 k5 h6
  refine ⟨r3, r6, ?_, toInt_reads k3 h5, toInt_reads k6 h6⟩
  unfold cMulBits
  simp only [e1, e2, e3, e4, e5, e6, Option.bind_some]
end Go.Proofs.YtlogjgmfkjjhjaaGreatDoor
namespace Go.Proofs.YtlogjgmfkjjhjaaGreatDoor
open Go.RowKit

theorem wide_any (a b : Int) (w : World) : Calls Tryz.prog 151 #[.agg #[.int .i64 a, .int .i64 b]] w fun e w' => e = .returned (.complex .f64 (floatOfInt .f64 a) (floatOfInt .f64 b)) ∧ Below w.heap.size w w' := by
  have h1 := fun (W : World) (n : Int) => run_convert_int_float (P := Tryz.prog) W 3 239 .i64 .f64 n (by kernel_rfl) Tryz.underlying239
  go_enter Tryz.func151, Tryz.ntmps151
  go_wp2
  go_ret
  exact ⟨rfl, ext_alloc _ _⟩

/-- the product's bits read as these integers -/
def MulOk (a b : Int × Int) (r : Int × Int) : Prop := ∃ re im, cMulBits (floatOfInt .f64 a.1) (floatOfInt .f64 a.2) (floatOfInt .f64 b.1) (floatOfInt .f64 b.2) = some (re, im) ∧ floatToIntVal .f64 re .i64 = some r.1 ∧ floatToIntVal .f64 im .i64 = some r.2

set_option maxHeartbeats 1000000 in
theorem times_any (a b r : Int × Int) (w : World) (h : MulOk a b r) : Calls Tryz.prog 105 #[.agg #[.int .i64 a.1, .int .i64 a.2], .agg #[.int .i64 b.1, .int .i64 b.2]] w fun e w' => e = .returned (.agg #[.int .i64 r.1, .int .i64 r.2]) ∧ Below w.heap.size w w' := by
  obtain ⟨re, im, h1, h2, h3⟩ := h
  have hm := fun (W : World) => run_complex_mul (P := Tryz.prog) W 237 _ _ _ _ re im h1
  have hc1 := fun (W : World) => run_convert_float_int (P := Tryz.prog) W 239 3 .f64 .i64 re r.1 (by kernel_rfl) Tryz.underlying3 h2
  have hc2 := fun (W : World) => run_convert_float_int (P := Tryz.prog) W 239 3 .f64 .i64 im r.2 (by kernel_rfl) Tryz.underlying3 h3
  clear h1 h2 h3
  have hbW : Below w.heap.size w (((w.alloc (.cells #[.int .i64 a.1, .int .i64 a.2] 97)).alloc (.cells #[.int .i64 b.1, .int .i64 b.2] 97)).alloc (.cells #[.int .i64 0, .int .i64 0] 97)) := by (repeat (first | exact Below.refl _ _ | assumption | refine Below.drew ?_ | refine Below.alloc ?_ (by simp <;> omega) _ | refine Below.alloc ?_ (by simp) _ | refine Below.setCell ?_ (by simp) _))
  have e0 := ((BoxC.new w 97 #[.int .i64 a.1, .int .i64 a.2]).alloc (.cells #[.int .i64 b.1, .int .i64 b.2] 97)).alloc (.cells #[.int .i64 0, .int .i64 0] 97)
  have e1 := (BoxC.new (w.alloc (.cells #[.int .i64 a.1, .int .i64 a.2] 97)) 97 #[.int .i64 b.1, .int .i64 b.2]).alloc (.cells #[.int .i64 0, .int .i64 0] 97)
  have r2 := RowC.new encG_len ((w.alloc (.cells #[.int .i64 a.1, .int .i64 a.2] 97)).alloc (.cells #[.int .i64 b.1, .int .i64 b.2] 97)) 97 (0, 0)
  unfold encG at r2
  simp only [World.size_alloc] at e1 r2
  go_enter Tryz.func105, Tryz.ntmps105
  go_wp2
  generalize World.alloc (World.alloc (World.alloc w _) _) _ = W at hbW e0 e1 r2 ⊢
  have p0 := e0.cell 0 _ rfl
  have p1 := e0.cell 1 _ rfl
  have q0 := e1.cell 0 _ rfl
  have q1 := e1.cell 1 _ rfl
  clear e0 e1
  have dB0 : Below W.heap.size W W := Below.refl _ _
  refine wp_region_plan (fun w' => w'.cell? ⟨w.heap.size, 0, none⟩ = some (.int .i64 a.1) ∧ w'.cell? ⟨w.heap.size, 1, none⟩ = some (.int .i64 a.2) ∧ w'.cell? ⟨w.heap.size + 1, 0, none⟩ = some (.int .i64 b.1) ∧ w'.cell? ⟨w.heap.size + 1, 1, none⟩ = some (.int .i64 b.2) ∧ Below W.heap.size W w') [1, 3] [0, 2, 1, 3, 4, 5] (by kernel_rfl) (by kernel_rfl) (by ((first | assumption | exact keep4 (by assumption) (by assumption) | exact keep4 (by assumption) (ext_alloc _ _) | exact keep4 (by assumption) (ext_drew _) | exact keep4 ⟨by assumption, by assumption, by assumption, by assumption, by assumption⟩ (ext_drew _) | go_keep))) (fun hSw => ?_)
  repeat (first
    | (refine wpPlan_pas rfl rfl (fun K hK => ?_)
       apply Exists.intro
       refine ⟨?_, ?_⟩
       · first | exact pasOk_no rfl | (apply pasOk_yes rfl; intro wS hS; obtain ⟨s0, s1, s2, s3, s4⟩ := hS; go_simp; first | done | exact rfl | ((try simp only [↓IntWalk.iteOmega]); (try go_bits); (try go_simp); first | done | exact rfl))
       go_simp
       refine hK _ ?_
       clear hK K)
    | (refine wpPlan_no rfl rfl rfl (by assumption) (fun K hK => ?_)
       go_simp
       refine hK _ ?_
       clear hK K)
    | (refine wpPlan_act rfl rfl rfl (fun K hK => ?_)
       go_wp2_with (first | (go_at_call 151; refine (wide_any _ _ _).mono ?_; rintro e w1 ⟨rfl, hb1⟩))
       refine OnlyK.go (hK _ _ (by ((first | assumption | exact keep4 (by assumption) (by assumption) | exact keep4 (by assumption) (ext_alloc _ _) | exact keep4 (by assumption) (ext_drew _) | exact keep4 ⟨by assumption, by assumption, by assumption, by assumption, by assumption⟩ (ext_drew _) | go_keep))) (fun hSw => ?_))
       clear hK K))
  refine wpPlan_nil ?_
  have hbS := held4 hSw
  have r3 : RowC encG 2 (w.heap.size + 1 + 1) 0 w1 [(0, 0)] := RowC.ext (E := encG) r2 hbS
  have hbT := ext_trans hbW hbS
  clear hSw p0 p1 q0 q1 r2
  go_wp2_with (refine wpList_store_row2 rfl 97 _ _ rfl encG_len encG_one sizeG 0 r r3 (by simp) rfl _ rfl rfl ?_; intro w9 hl9 hb9 hz9 ho9)
  obtain ⟨g0, g1⟩ := RowC.g0 hl9
  exact bodyPost_ret (v := .agg #[.int .i64 r.1, .int .i64 r.2]) (by simp [results, Tryz.results105, go_sem, g0, g1]) rfl ⟨rfl, hbT.trans (hb9.mono (by omega))⟩

/-- the product of complex integers -/
def mulG (a b : Int × Int) : Int × Int := (a.1 * b.1 - a.2 * b.2, a.1 * b.2 + a.2 * b.1)
theorem mulOk {a b : Int × Int} (ha : a.1.natAbs < 9007199254740992) (hb : a.2.natAbs < 9007199254740992) (hc : b.1.natAbs < 9007199254740992) (hd : b.2.natAbs < 9007199254740992)
    (h1 : (a.1 * b.1).natAbs < 9007199254740992) (h2 : (a.2 * b.2).natAbs < 9007199254740992) (h3 : (a.1 * b.2).natAbs < 9007199254740992) (h4 : (a.2 * b.1).natAbs < 9007199254740992)
    (h5 : (a.1 * b.1 - a.2 * b.2).natAbs < 9007199254740992) (h6 : (a.1 * b.2 + a.2 * b.1).natAbs < 9007199254740992) : MulOk a b (mulG a b) := cmul_reads ha hb hc hd h1 h2 h3 h4 h5 h6
/-- parts of at most m and of at most k, where 2 m k stays below 2^53 -/
theorem mulOk_le {a b : Int × Int} (m k : Nat) (ha : a.1.natAbs ≤ m) (hb : a.2.natAbs ≤ m) (hc : b.1.natAbs ≤ k) (hd : b.2.natAbs ≤ k) (hmk : 2 * (m * k) < 9007199254740992) (hm : m < 9007199254740992) (hk : k < 9007199254740992) : MulOk a b (mulG a b) := by
  have p1 : (a.1 * b.1).natAbs ≤ m * k := by rw [Int.natAbs_mul]; exact Nat.mul_le_mul ha hc
  have p2 : (a.2 * b.2).natAbs ≤ m * k := by rw [Int.natAbs_mul]; exact Nat.mul_le_mul hb hd
  have p3 : (a.1 * b.2).natAbs ≤ m * k := by rw [Int.natAbs_mul]; exact Nat.mul_le_mul ha hd
  have p4 : (a.2 * b.1).natAbs ≤ m * k := by rw [Int.natAbs_mul]; exact Nat.mul_le_mul hb hc
  generalize m * k = q at hmk p1 p2 p3 p4
  apply mulOk <;> omega
end Go.Proofs.YtlogjgmfkjjhjaaGreatDoor
