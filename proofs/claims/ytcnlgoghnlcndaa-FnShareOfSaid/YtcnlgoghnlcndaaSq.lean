/- Plain: shares. -/
import Derived.Test.YtcnlgoghnlcndaaSp
namespace Go.Proofs.Ytcnlgoghnlcndaa
open Ieee

/-- 1 / n less 0.000001. -/
def invW (n : Nat) : Nat := (floatBits .quo .f64 4607182418800017408 (floatOfInt .f64 (n : Int))).getD 0
def lowW (n : Nat) : Nat := (floatBits .sub .f64 (invW n) 4517329193108106637).getD 0
theorem inv_some : ∀ n ∈ [1, 2, 4, 8, 16], floatBits .quo .f64 4607182418800017408 (floatOfInt .f64 ((n : Nat) : Int)) = some (invW n) ∧ floatBits .sub .f64 (invW n) 4517329193108106637 = some (lowW n) ∧ fin double (lowW n) = true := by decide +kernel
theorem low_le : ∀ n ∈ [1, 2, 4, 8, 16], iv double (lowW n) ≤ (magU double (rt double 3000 ((2 ^ 20 - 1) * (16 / n) * p2 4050)) : Int) := by decide +kernel
theorem one64 : fin double 4607182418800017408 = true ∧ iv double 4607182418800017408 = (p2 1074 : Int) := by decide +kernel
theorem top_share : rt double 3000 (p2 4074 + p2 4020) < double.infRung ∧ magU double (rt double 3000 (p2 4074 + p2 4020)) ≤ p2 1074 := by decide +kernel

theorem ngt_pos {x : Nat} (h : 0 < iv double x) : ngt double x = false := by
  rcases Bool.eq_false_or_eq_true (ngt double x) with e | e
  · exfalso
    unfold iv at h
    rw [e] at h
    simp only [sgn] at h
    have := Int.natCast_nonneg (magU double (rung double x))
    simp at h
    omega
  · exact e
theorem word_64 {s : Bool} {r : Nat} (h : r < double.signWeight) : double.word s r < 18446744073709551616 := by
  have e : double.signWeight = 9223372036854775808 := by decide
  rw [e] at h
  unfold Format.word
  rw [e]
  split <;> omega

theorem q_low {P S Q U n Z : Nat} (hS : 0 < S) (h1 : P * (16777216 * Z) ≤ Q * S + S * U) (h2 : S * 1073741823 ≤ P * n * 1073741824) : 1073741823 * 16777216 * Z ≤ n * 1073741824 * (Q + U) := by
  have a := Nat.mul_le_mul_right (16777216 * Z) h2
  have b := Nat.mul_le_mul_left (n * 1073741824) h1
  have e1 : P * n * 1073741824 * (16777216 * Z) = n * 1073741824 * (P * (16777216 * Z)) := by
    generalize 16777216 * Z = Y
    generalize 1073741824 = c
    rw [Nat.mul_comm P n, Nat.mul_assoc n P c, Nat.mul_comm P c, ← Nat.mul_assoc n c P, Nat.mul_assoc (n * c)]
  have c : S * 1073741823 * (16777216 * Z) ≤ n * 1073741824 * (Q * S + S * U) := Nat.le_trans a (by rw [e1]; exact b)
  have e2 : S * 1073741823 * (16777216 * Z) = 1073741823 * 16777216 * Z * S := by
    rw [Nat.mul_assoc S, Nat.mul_comm S, ← Nat.mul_assoc 1073741823]
  have e3 : n * 1073741824 * (Q * S + S * U) = n * 1073741824 * (Q + U) * S := by
    rw [Nat.mul_assoc (n * 1073741824), Nat.add_mul, Nat.mul_comm S U]
  rw [e2, e3] at c
  exact Nat.le_of_mul_le_mul_right c hS

theorem q_low2 {n Q U Z : Nat} (hn : n = 1 ∨ n = 2 ∨ n = 4 ∨ n = 8 ∨ n = 16) (h : 1073741823 * 16777216 * Z ≤ n * 1073741824 * (Q + U)) (hu : 2 ^ 54 * U ≤ Q) : (2 ^ 20 - 1) * (16 / n) * Z ≤ Q := by
  rcases hn with rfl | rfl | rfl | rfl | rfl <;> omega

/-- What the quotient is. -/
theorem share_of {x y : Nat} (hx : fin double x = true) (hy : fin double y = true) (h0 : 0 ≤ iv double x) (hle : iv double x ≤ iv double y) (hy0 : iv double y ≠ 0) :
    ∃ q, floatBits .quo .f64 x y = some q ∧ fin double q = true ∧ q < 18446744073709551616 ∧ 0 ≤ iv double q ∧ iv double q ≤ (p2 1074 : Int) ∧
      (∀ n ∈ [1, 2, 4, 8, 16], iv double y * 1073741823 ≤ iv double x * (n : Nat) * 1073741824 → iv double (lowW n) ≤ iv double q) := by
  obtain ⟨Q, u, hd, h1, h2, h3, h4, _⟩ := div_T hx hy hy0
  obtain ⟨P, hP⟩ := Int.eq_ofNat_of_zero_le h0
  obtain ⟨S, hS⟩ := Int.eq_ofNat_of_zero_le (Int.le_trans h0 hle)
  rw [hP, hS] at h1 h2
  rw [hP] at h3 h4
  simp only [Int.natAbs_natCast] at h1 h2
  have hS0 : 0 < S := by omega
  have hPS : P ≤ S := by omega
  have hQ : Q ≤ p2 4074 + p2 4020 := by
    by_cases hz : P = 0
    · rw [h4 (by omega)]; exact Nat.zero_le _
    · have hu := h3 (by omega)
      have a1 : Q * S ≤ (p2 4074 + 2 ^ u) * S := by
        have b1 := Nat.mul_le_mul_right (p2 4074) hPS
        rw [Nat.add_mul, Nat.mul_comm (p2 4074), Nat.mul_comm (2 ^ u)]
        omega
      have a2 := Nat.le_of_mul_le_mul_right a1 hS0
      have a3 : u ≤ 4020 := by
        rcases Nat.lt_or_ge 4020 u with hlt | hge
        · exfalso
          have e0 : p2 53 = 9007199254740992 := by decide +kernel
          have e1 : p2 4074 = p2 53 * p2 4021 := p2_add 53 4021
          rw [e0] at e1
          have e2 : p2 4021 ≤ 2 ^ u := p2_mono hlt
          have e3 := p2_pos 4021
          rw [e1] at a2
          generalize p2 4021 = Y at *
          generalize 2 ^ u = X at *
          omega
        · exact hge
      have a4 : 2 ^ u ≤ p2 4020 := p2_mono a3
      omega
  obtain ⟨t1, t2⟩ := top_share
  have m1 := rt_mono double (t := 3000) hQ
  have hlt : rt double 3000 Q < double.infRung := Nat.lt_of_le_of_lt m1 t1
  have m2 := magU_mono double m1 t1
  have hiv : iv double (double.word (ngt double x ^^ ngt double y) (rt double 3000 Q)) = (magU double (rt double 3000 Q) : Int) := by
    rw [iv_word double (rt_lt_sw double)]
    by_cases hz : P = 0
    · rw [h4 (by omega), rt_zero]
      cases (ngt double x ^^ ngt double y) <;> decide +kernel
    · rw [ngt_pos (x := x) (by omega), ngt_pos (x := y) (by omega)]
      rfl
  refine ⟨_, hd, ?_, word_64 (rt_lt_sw double), ?_, ?_, ?_⟩
  · rw [fin_word double (rt_lt_sw double)]; exact decide_eq_true hlt
  · rw [hiv]; exact Int.natCast_nonneg _
  · rw [hiv]; omega
  · intro n hn hb
    rw [hiv]
    refine Int.le_trans (low_le n hn) ?_
    have hn' : n = 1 ∨ n = 2 ∨ n = 4 ∨ n = 8 ∨ n = 16 := by simpa using hn
    have hz : P ≠ 0 := by
      rintro rfl
      rw [hP, hS] at hb
      simp at hb
      omega
    have hu := h3 (by omega)
    have hb' : S * 1073741823 ≤ P * n * 1073741824 := by
      rw [hP, hS] at hb
      have : ((S * 1073741823 : Nat) : Int) ≤ ((P * n * 1073741824 : Nat) : Int) := by
        rw [Int.natCast_mul, Int.natCast_mul, Int.natCast_mul]
        exact hb
      omega
    have e0 : p2 24 = 16777216 := by decide +kernel
    have e1 : p2 4074 = p2 24 * p2 4050 := p2_add 24 4050
    rw [e0] at e1
    rw [e1] at h2
    have k1 := q_low hS0 h2 hb'
    have k2 := q_low2 hn' k1 hu
    have k3 := magU_mono double (rt_mono double (t := 3000) k2) hlt
    omega
end Go.Proofs.Ytcnlgoghnlcndaa
