/- Plain: the product of a number and a turn. -/
import Derived.Test.YtcnlgoghnlcndaaNm
namespace Go.Proofs.Ytcnlgoghnlcndaa
open Ieee

theorem tn_facts : ∀ j, j < 16 → fin single (tn j).1 = true ∧ fin single (tn j).2 = true ∧ iv single (tn j).1 * iv single (tn j).1 + iv single (tn j).2 * iv single (tn j).2 ≤ ((p2 298 + p2 276 : Nat) : Int) := by decide +kernel

theorem len_turn {a b c d m : Int} {U : Int} (hm : 0 ≤ m) (hm2 : m ≤ 16777216) (h : a * a + b * b ≤ (m * U) * (m * U)) (ht : c * c + d * d ≤ ((p2 298 + p2 276 : Nat) : Int)) :
    (a * c - b * d) * (a * c - b * d) + (a * d + b * c) * (a * d + b * c) ≤ ((m + 3) * U * p2 149) * ((m + 3) * U * p2 149) := by
  have e : (a * c - b * d) * (a * c - b * d) + (a * d + b * c) * (a * d + b * c) = (a * a + b * b) * (c * c + d * d) := by grind
  rw [e]
  have h0 : (0 : Int) ≤ c * c + d * d := by have := sq_nn c; have := sq_nn d; omega
  have h1 : (a * a + b * b) * (c * c + d * d) ≤ (m * U) * (m * U) * ((p2 298 + p2 276 : Nat) : Int) := Int.mul_le_mul h ht h0 (sq_nn _)
  refine Int.le_trans h1 ?_
  have h22 : p2 22 = 4194304 := by decide
  have e2 : ((p2 298 + p2 276 : Nat) : Int) = 4194305 * (p2 276 : Int) := by
    have : p2 298 = 4194304 * p2 276 := by rw [← h22]; exact p2_add 22 276
    rw [this]
    generalize p2 276 = G
    omega
  have e3 : (p2 149 : Int) * (p2 149 : Int) = 4194304 * (p2 276 : Int) := by
    have : p2 149 * p2 149 = 4194304 * p2 276 := by rw [← h22, ← p2_add, ← p2_add]
    rw [← Int.natCast_mul, this]
    generalize p2 276 = G
    omega
  have h2 : m * m * 4194305 ≤ (m + 3) * (m + 3) * 4194304 := by
    have : m * m ≤ 16777216 * m := Int.mul_le_mul_of_nonneg_right hm2 hm
    grind
  have h3 : 0 ≤ U * U * (p2 276 : Int) := Int.mul_nonneg (sq_nn U) (Int.natCast_nonneg _)
  have h4 := Int.mul_le_mul_of_nonneg_right h2 h3
  rw [e2]
  have e5 : (m + 3) * U * (p2 149 : Int) * ((m + 3) * U * (p2 149 : Int)) = (m + 3) * (m + 3) * (U * U) * ((p2 149 : Int) * (p2 149 : Int)) := by grind
  rw [e5, e3]
  grind

theorem fin_mul {E A P V : Int} (hP : 0 < P) (h : E * E * (P * P) + A * A * (P * P) ≤ (V * P) * (V * P)) : E * E + A * A ≤ V * V := by
  have hPP : 0 < P * P := Int.mul_pos hP hP
  have : (E * E + A * A) * (P * P) ≤ (V * V) * (P * P) := by grind
  exact Int.le_of_mul_le_mul_right this hPP

theorem mul_Nm {z : Num} {m j : Nat} (h : Nm z m) (hj : j < 16) (hm : m ≤ 16777000) :
    cmul32 z.1 z.2 (tn j).1 (tn j).2 = some (mulN z (tn j)) ∧ Nm (mulN z (tn j)) (m + 5) ∧ iv single (mulN z (tn j)).1 = rI single 925 (cre z.1 z.2 (tn j).1 (tn j).2) ∧ iv single (mulN z (tn j)).2 = rI single 925 (cim z.1 z.2 (tn j).1 (tn j).2) := by
  obtain ⟨t1, t2, t3⟩ := tn_facts j hj
  obtain ⟨h1, h2, h3⟩ := h
  generalize htn : tn j = t at *
  rw [Int.natCast_mul] at h3
  have hlen := len_turn (U := (p2 253 : Int)) (m := (m : Int)) (Int.natCast_nonneg m) (by omega) h3 t3
  -- as float64
  have hp776 : (0 : Int) < p2 776 := by have := p2_pos 776; omega
  have e1178 : (p2 253 : Int) * p2 149 * p2 776 = p2 1178 := by
    have : p2 253 * p2 149 * p2 776 = p2 1178 := by rw [← p2_add, ← p2_add]
    exact_mod_cast this
  have hX : iv single z.1 * iv single t.1 * (p2 776 : Int) - iv single z.2 * iv single t.2 * (p2 776 : Int) = (iv single z.1 * iv single t.1 - iv single z.2 * iv single t.2) * p2 776 := by rw [Int.sub_mul]
  have hY : iv single z.1 * iv single t.2 * (p2 776 : Int) + iv single z.2 * iv single t.1 * (p2 776 : Int) = (iv single z.1 * iv single t.2 + iv single z.2 * iv single t.1) * p2 776 := by rw [Int.add_mul]
  have ecre : cre z.1 z.2 t.1 t.2 = rI double 0 ((iv single z.1 * iv single t.1 - iv single z.2 * iv single t.2) * p2 776) := by unfold cre; rw [hX]
  have ecim : cim z.1 z.2 t.1 t.2 = rI double 0 ((iv single z.1 * iv single t.2 + iv single z.2 * iv single t.1) * p2 776) := by unfold cim; rw [hY]
  have hrF := (rF_two (prod_lt h1 t1) (prod_lt h2 t2)).2
  have hrF2 := (rF_two (prod_lt h1 t2) (prod_lt h2 t1)).1
  rw [hX] at hrF
  rw [hY] at hrF2
  generalize iv single z.1 * iv single t.1 - iv single z.2 * iv single t.2 = X at *
  generalize iv single z.1 * iv single t.2 + iv single z.2 * iv single t.1 = Y at *
  have hlen2 : (X * p2 776) * (X * p2 776) + (Y * p2 776) * (Y * p2 776) ≤ (((m : Int) + 3) * p2 1178) * (((m : Int) + 3) * p2 1178) := by
    have := Int.mul_le_mul_of_nonneg_right hlen (Int.le_of_lt (Int.mul_pos hp776 hp776))
    rw [← e1178]
    grind
  have hM0 : (0 : Int) ≤ ((m : Int) + 3) * p2 1178 := Int.mul_nonneg (by omega) (Int.natCast_nonneg _)
  have bx := abs_part hM0 hlen2
  have by' := abs_part (x := Y * p2 776) (y := X * p2 776) hM0 (by omega)
  have hP := p2_pos 1178
  have e1202 : p2 (1201 + 1) = 16777216 * p2 1178 := by
    have : p2 1202 = p2 24 * p2 1178 := p2_add 24 1178
    have h24 : p2 24 = 16777216 := by decide
    rw [this, h24]
  have em : ((m : Int) + 3) * p2 1178 = (((m + 3) * p2 1178 : Nat) : Int) := by simp
  have hm3 : (m + 3) * p2 1178 ≤ 16777003 * p2 1178 := Nat.mul_le_mul_right _ (by omega)
  obtain ⟨d1, d2⟩ := rI_err double (N := 1201) hrF (by rw [e1202]; omega)
  obtain ⟨d3, d4⟩ := rI_err double (N := 1201) hrF2 (by rw [e1202]; omega)
  have e0 : (p2 0 : Int) = 1 := rfl
  have eN : p2 (1201 - (double.fractionBits + 0) + 0) = p2 1149 := rfl
  rw [e0, Int.mul_one, eN, ← ecre] at d1 d2
  rw [e0, Int.mul_one, eN, ← ecim] at d3 d4
  have e1149 : p2 1178 = 536870912 * p2 1149 := by
    have : p2 1178 = p2 29 * p2 1149 := p2_add 29 1149
    have h29 : p2 29 = 536870912 := by decide
    rw [this, h29]
  have hP0 : (0 : Int) ≤ p2 1149 := Int.natCast_nonneg _
  rw [e1149] at bx by' em hm3
  have hV : ((536870912 * p2 1149 : Nat) : Int) = 536870912 * (p2 1149 : Int) := Int.natCast_mul _ _
  rw [em] at bx by'
  have e253 : p2 (253 + 925) = 536870912 * p2 1149 := e1149
  have hR : (cre z.1 z.2 t.1 t.2).natAbs ≤ 16777215 * p2 (253 + 925) := by rw [e253]; generalize p2 1149 = G at *; omega
  have hI : (cim z.1 z.2 t.1 t.2).natAbs ≤ 16777215 * p2 (253 + 925) := by rw [e253]; generalize p2 1149 = G at *; omega
  obtain ⟨g1, g2, g3⟩ := rI_near hR
  obtain ⟨k1, k2, k3⟩ := rI_near hI
  obtain ⟨re, im, c1, c2, c3, c4, c5⟩ := cmul32_some h1 h2 t1 t2 g1 k1
  have em2 : mulN z t = (re, im) := by unfold mulN; rw [c1]; rfl
  rw [em2]
  refine ⟨c1, ⟨c2, c3, ?_⟩, c4, c5⟩
  rw [← c4] at g2 g3
  rw [← c5] at k2 k3
  rw [e253] at g2 g3 k2 k3
  show iv single re * iv single re + iv single im * iv single im ≤ _
  generalize iv single re = r at *
  generalize iv single im = s at *
  have hfin := mink (x := r * p2 925) (y := s * p2 925) (x0 := X * p2 776) (y0 := Y * p2 776) (V := (p2 1178 : Int)) hM0 (Int.natCast_nonneg _) (by rw [e1149]; generalize p2 1149 = G at *; omega) (by rw [e1149]; generalize p2 1149 = G at *; omega) hlen2
  have hP925 : (0 : Int) < p2 925 := by have := p2_pos 925; omega
  have e1178' : (p2 1178 : Int) = p2 253 * p2 925 := by
    have : p2 1178 = p2 253 * p2 925 := p2_add 253 925
    rw [this, Int.natCast_mul]
  rw [e1178'] at hfin
  have e5 : (((m + 5) * p2 253 : Nat) : Int) = ((m : Int) + 5) * p2 253 := by rw [Int.natCast_mul]; rfl
  rw [e5]
  exact fin_mul (V := ((m : Int) + 5) * p2 253) hP925 (by grind)
end Go.Proofs.Ytcnlgoghnlcndaa
