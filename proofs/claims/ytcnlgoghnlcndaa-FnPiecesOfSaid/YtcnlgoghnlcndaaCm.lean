/- Plain: comparisons, negatives, and what lies below the least normal number. -/
import Derived.Test.YtcnlgoghnlcndaaCx
namespace Go.Proofs.Ytcnlgoghnlcndaa
open Ieee

theorem beq_lt_compare (a b : Int) : (some (compare a b) == some Ordering.lt) = decide (a < b) := by
  simp only [compare, compareOfLessAndEq]
  by_cases h : a < b
  · simp [h]
  · by_cases h2 : a = b <;> simp [h, h2]
theorem beq_eq_compare (a b : Int) : (some (compare a b) == some Ordering.eq) = decide (a = b) := by
  simp only [compare, compareOfLessAndEq]
  by_cases h : a < b
  · have : a ≠ b := by omega
    simp [h, this]
  · by_cases h2 : a = b <;> simp [h, h2]
theorem beq_gt_compare (a b : Int) : (some (compare a b) == some Ordering.gt) = decide (b < a) := by
  simp only [compare, compareOfLessAndEq]
  by_cases h : a < b
  · have : ¬ b < a := by omega
    simp [h, this]
  · by_cases h2 : a = b
    · simp [h2]
    · have : b < a := by omega
      simp [h, h2, this]

section
variable (f : Format) {x y : Nat}
theorem cmp_lt (hx : fin f x = true) (hy : fin f y = true) : (f.order x y == some .lt) = decide (iv f x < iv f y) := by
  rw [order_fin f hx hy, beq_lt_compare]
theorem cmp_eq (hx : fin f x = true) (hy : fin f y = true) : (f.order x y == some .eq) = decide (iv f x = iv f y) := by
  rw [order_fin f hx hy, beq_eq_compare]
theorem cmp_gt (hx : fin f x = true) (hy : fin f y = true) : (f.order x y == some .gt) = decide (iv f y < iv f x) := by
  rw [order_fin f hx hy, beq_gt_compare]
end

/-! The sign turned. -/
theorem neg_rung (a : Nat) : rung single (Op.negFloat .f32 a) = rung single a := by
  unfold rung Op.negFloat
  show (a ^^^ 2 ^ 31) % 2 ^ 31 = a % 2 ^ 31
  rw [Nat.xor_mod_two_pow]
  simp
theorem neg_ngt (a : Nat) : ngt single (Op.negFloat .f32 a) = !ngt single a := by
  unfold ngt Op.negFloat
  show ((a ^^^ 2 ^ 31) / 2 ^ 31 % 2 == 1) = !(a / 2 ^ 31 % 2 == 1)
  rw [← Nat.shiftRight_eq_div_pow, ← Nat.shiftRight_eq_div_pow, Nat.shiftRight_xor_distrib]
  have : 2 ^ 31 >>> 31 = 1 := by decide
  rw [this]
  rw [show (a >>> 31 ^^^ 1) % 2 = (a >>> 31 % 2 ^^^ 1 % 2) from Nat.xor_mod_two_pow (n := 1)]
  rcases Nat.mod_two_eq_zero_or_one (a >>> 31) with h | h <;> rw [h] <;> rfl
theorem neg_fin (a : Nat) : fin single (Op.negFloat .f32 a) = fin single a := by
  unfold fin; rw [neg_rung]
theorem neg_iv (a : Nat) : iv single (Op.negFloat .f32 a) = -iv single a := by
  unfold iv; rw [neg_rung, neg_ngt, sgn_not]

/-- A part below the least normal number; 0 is. -/
def lowB (a : Nat) : Bool := decide (rung single a < 8388608)
theorem neg_lowB (a : Nat) : lowB (Op.negFloat .f32 a) = lowB a := by unfold lowB; rw [neg_rung]

theorem magU_lt_least (r : Nat) : magU single r < 8388608 ↔ r < 8388608 := by
  unfold magU
  have hb : single.binade = 8388608 := rfl
  by_cases h : r < 8388608
  · simp [hb, h]
  · simp only [hb, h, if_false, iff_false]
    have : 0 < 2 ^ (r / 8388608 - 1) := Nat.two_pow_pos _
    have h2 : 8388608 ≤ (8388608 + r % 8388608) * 2 ^ (r / 8388608 - 1) :=
      Nat.le_trans (by omega) (Nat.le_mul_of_pos_right (8388608 + r % 8388608) this)
    omega
theorem fin_least : fin single 8388608 = true := by decide +kernel
theorem iv_least : iv single 8388608 = 8388608 := by decide +kernel
theorem iv_zero : iv single 0 = 0 := by decide +kernel
theorem fin_zero : fin single 0 = true := by decide +kernel

theorem lowB_iv (a : Nat) : lowB a = decide ((iv single a).natAbs < 8388608) := by
  unfold lowB
  rw [natAbs_iv, decide_eq_decide]
  exact (magU_lt_least _).symm

/-- 'x < least' for x at least 0. -/
theorem lt_least {a : Nat} (h : fin single a = true) (h0 : 0 ≤ iv single a) : (single.order a 8388608 == some .lt) = lowB a := by
  rw [cmp_lt single h fin_least, lowB_iv, iv_least, decide_eq_decide]
  omega
theorem lt_zero {a : Nat} (h : fin single a = true) : (single.order a 0 == some .lt) = decide (iv single a < 0) := by
  rw [cmp_lt single h fin_zero, iv_zero]
theorem ne_zero {a : Nat} (h : fin single a = true) : (single.order a 0 != some .eq) = decide (iv single a ≠ 0) := by
  have := cmp_eq single h fin_zero
  rw [iv_zero] at this
  rw [bne, this]
  simp

def isZ (a : Nat) : Bool := decide (iv single a = 0)
end Go.Proofs.Ytcnlgoghnlcndaa
