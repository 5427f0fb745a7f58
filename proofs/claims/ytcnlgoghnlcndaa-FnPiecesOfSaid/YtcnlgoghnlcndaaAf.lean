/- Plain: errors of sums and products with turns; the fast spectrum and the plain one lie near each other; of at most 4 points and whole parts they are the same.; Walks: Near, nearSignal -/
import Derived.Test.YtcnlgoghnlcndaaFt
import Derived.Test.YtcnlgoghnlcndaaPx
import Derived.Test.YtcnlgoghnlcndaaW4
import Derived.BigQuiet
import Derived.Test.YtcnlgoghnlcndaaW8
namespace Go.Proofs.Ytcnlgoghnlcndaa
open Go.RowKit Ieee

/-- The table, in parts of 2^-25. -/
def tX (j : Nat) : Int := iv single (tn j).1 / (p2 124 : Int)
def tY (j : Nat) : Int := iv single (tn j).2 / (p2 124 : Int)
theorem t_iv : ∀ j, j < 16 → iv single (tn j).1 = tX j * p2 124 ∧ iv single (tn j).2 = tY j * p2 124 := by decide +kernel
theorem t_le : ∀ j, j < 16 → (tX j).natAbs ≤ 33554432 ∧ (tY j).natAbs ≤ 33554432 := by decide +kernel
theorem t_neg : ∀ j, j < 16 → tX ((j + 8) % 16) = -tX j ∧ tY ((j + 8) % 16) = -tY j := by decide +kernel
theorem t_mul : ∀ a, a < 16 → ∀ b, b < 16 → (33554432 * tX ((a + b) % 16) - (tX a * tX b - tY a * tY b)).natAbs ≤ 67108864 ∧ (33554432 * tY ((a + b) % 16) - (tX a * tY b + tY a * tX b)).natAbs ≤ 67108864 := by decide +kernel

/-- x lies by at most e from P, both in parts U. -/
def Nr1 (U : Int) (x P : Int) (e : Nat) : Prop := -((e : Int) * U) ≤ x - P * U ∧ x - P * U ≤ (e : Int) * U

theorem nr_prod {A B P Q s t R U G K H L : Int} {e d : Nat} (hU : 0 ≤ U) (hG : 0 ≤ G) (hA : Nr1 U A P e) (hB : Nr1 U B Q e) (hs : s.natAbs ≤ 33554432) (ht : t.natAbs ≤ 33554432)
    (hd : (33554432 * R - (P * s - Q * t)).natAbs ≤ d * 33554432) (hL : L = U * U * G) (hH : H = U * G) (hK : K = 33554432 * L) :
    -((2 * (e : Int) + d) * K) ≤ (A * (s * U) - B * (t * U)) * G - R * K ∧ (A * (s * U) - B * (t * U)) * G - R * K ≤ (2 * (e : Int) + d) * K := by
  obtain ⟨a1, a2⟩ := hA
  obtain ⟨b1, b2⟩ := hB
  have hL0 : 0 ≤ L := by rw [hL]; exact Int.mul_nonneg (Int.mul_nonneg hU hU) hG
  have hH0 : 0 ≤ H := by rw [hH]; exact Int.mul_nonneg hU hG
  have heU : 0 ≤ (e : Int) * U := Int.mul_nonneg (Int.natCast_nonneg e) hU
  obtain ⟨α, hα⟩ : ∃ α, α = A - P * U := ⟨_, rfl⟩
  obtain ⟨β, hβ⟩ : ∃ β, β = B - Q * U := ⟨_, rfl⟩
  rw [← hα] at a1 a2
  rw [← hβ] at b1 b2
  have c1 := mul_le_of heU (by omega : (0 : Int) ≤ 33554432) ⟨a1, a2⟩ (e := s) (by omega)
  have c2 := mul_le_of heU (by omega : (0 : Int) ≤ 33554432) ⟨a1, a2⟩ (e := -s) (by omega)
  have c3 := mul_le_of heU (by omega : (0 : Int) ≤ 33554432) ⟨b1, b2⟩ (e := t) (by omega)
  have c4 := mul_le_of heU (by omega : (0 : Int) ≤ 33554432) ⟨b1, b2⟩ (e := -t) (by omega)
  rw [Int.mul_neg] at c2 c4
  have w1 : α * s - β * t ≤ 2 * (((e : Int) * U) * 33554432) := by omega
  have w2 : -(α * s - β * t) ≤ 2 * (((e : Int) * U) * 33554432) := by omega
  have v1 := Int.mul_le_mul_of_nonneg_right w1 hH0
  have v2 := Int.mul_le_mul_of_nonneg_right w2 hH0
  have d1 : (P * s - Q * t) - 33554432 * R ≤ (d : Int) * 33554432 := by omega
  have d2 : -((P * s - Q * t) - 33554432 * R) ≤ (d : Int) * 33554432 := by omega
  have x1 := Int.mul_le_mul_of_nonneg_right d1 hL0
  have x2 := Int.mul_le_mul_of_nonneg_right d2 hL0
  have hX : (A * (s * U) - B * (t * U)) * G - R * K = ((P * s - Q * t) - 33554432 * R) * L + (α * s - β * t) * H := by
    rw [hα, hβ, hK, hL, hH]; grind
  have e1 : 2 * (((e : Int) * U) * 33554432) * H = 2 * (e : Int) * K := by rw [hK, hL, hH]; grind
  have e2 : (d : Int) * 33554432 * L = (d : Int) * K := by rw [hK]; grind
  rw [e1] at v1 v2
  rw [e2] at x1 x2
  rw [Int.neg_mul] at v2 x2
  have e3 : (2 * (e : Int) + d) * K = 2 * (e : Int) * K + (d : Int) * K := Int.add_mul _ _ _
  rw [hX, e3]
  omega

theorem p2i (a b : Nat) : (p2 (a + b) : Int) = p2 a * p2 b := by rw [p2_add, Int.natCast_mul]

theorem p2m {a b c : Nat} (h : p2 a = c) : p2 (a + b) = c * p2 b := by rw [p2_add, h]

/-- One part of a product with a turn, rounded twice. -/
theorem part_prod {A B P Q s t R : Int} {e d M : Nat} (hA : Nr1 (p2 124) A P e) (hB : Nr1 (p2 124) B Q e) (hs : s.natAbs ≤ 33554432) (ht : t.natAbs ≤ 33554432)
    (hd : (33554432 * R - (P * s - Q * t)).natAbs ≤ d * 33554432) (hM : 2 * e + d + R.natAbs ≤ M) (hM2 : M ≤ 17179869183) :
    Nr1 (p2 124) (rI single 925 (rI double 0 ((A * (s * p2 124) - B * (t * p2 124)) * p2 776))) R (2 * e + d + 1030) := by
  have hU : (0 : Int) ≤ p2 124 := Int.natCast_nonneg _
  have hG : (0 : Int) ≤ p2 776 := Int.natCast_nonneg _
  have h25 : (p2 25 : Int) = 33554432 := by decide
  have hK : (p2 1049 : Int) = 33554432 * ((p2 124 : Int) * p2 124 * p2 776) := by
    rw [← h25, ← p2i, ← p2i, ← p2i]
  obtain ⟨k1, k2⟩ := nr_prod (K := (p2 1049 : Int)) (H := (p2 124 : Int) * p2 776) (L := (p2 124 : Int) * p2 124 * p2 776) hU hG hA hB hs ht hd rfl rfl hK
  have hKp : (0 : Int) < p2 1049 := by have := p2_pos 1049; omega
  generalize (A * (s * (p2 124 : Int)) - B * (t * (p2 124 : Int))) * (p2 776 : Int) = X at *
  have hRK : (R * (p2 1049 : Int)).natAbs = R.natAbs * p2 1049 := by rw [Int.natAbs_mul, Int.natAbs_natCast]
  have hXa : X.natAbs ≤ M * p2 1049 := by
    have e1 : (2 * (e : Int) + d) * (p2 1049 : Int) = (((2 * e + d) * p2 1049 : Nat) : Int) := by simp
    rw [e1] at k1 k2
    have e2 : (2 * e + d) * p2 1049 + R.natAbs * p2 1049 ≤ M * p2 1049 := by rw [← Nat.add_mul]; exact Nat.mul_le_mul_right _ hM
    generalize (2 * e + d) * p2 1049 = q1 at *
    generalize M * p2 1049 = q2 at *
    generalize R.natAbs * p2 1049 = q3 at *
    generalize R * (p2 1049 : Int) = q4 at *
    omega
  have hXb : X.natAbs < p2 (1082 + 1) := by
    have e1 : p2 (1082 + 1) = 17179869184 * p2 1049 := by
      exact p2m (a := 34) (b := 1049) (c := 17179869184) (by decide)
    have e2 : M * p2 1049 ≤ 17179869183 * p2 1049 := Nat.mul_le_mul_right _ hM2
    have := p2_pos 1049
    rw [e1]
    generalize M * p2 1049 = q2 at *
    generalize p2 1049 = q3 at *
    omega
  have hF : rF double 0 X = true := rF_lt double (N := 1083) (by decide +kernel) (Nat.le_of_lt hXb)
  obtain ⟨r1, r2⟩ := rI_err double (N := 1082) hF hXb
  have e0 : (p2 0 : Int) = 1 := rfl
  have eN : p2 (1082 - (double.fractionBits + 0) + 0) = p2 1030 := rfl
  rw [e0, Int.mul_one, eN] at r1 r2
  generalize rI double 0 X = c at *
  have e1030 : p2 1049 = 524288 * p2 1030 := by
    exact p2m (a := 19) (b := 1030) (c := 524288) (by decide)
  have e1083 : p2 1083 = 17179869184 * p2 1049 := by
    exact p2m (a := 34) (b := 1049) (c := 17179869184) (by decide)
  have e1084 : p2 (1083 + 1) = 34359738368 * p2 1049 := by
    exact p2m (a := 35) (b := 1049) (c := 34359738368) (by decide)
  have e1060 : p2 1060 = 2048 * p2 1049 := by
    exact p2m (a := 11) (b := 1049) (c := 2048) (by decide)
  have e1178 : p2 (253 + 925) = p2 94 * p2 1084 := by rw [← p2_add]
  have hcb : c.natAbs < p2 (1083 + 1) := by
    rw [e1084]
    rw [show (1082 + 1 : Nat) = 1083 from rfl, e1083] at hXb
    have := p2_pos 1030
    rw [e1030] at hXb ⊢
    generalize p2 1030 = q3 at *
    omega
  have hbig : c.natAbs ≤ 16777215 * p2 (253 + 925) := by
    have h1 : p2 1084 ≤ 16777215 * p2 (253 + 925) := by
      rw [e1178, ← Nat.mul_assoc]
      exact Nat.le_mul_of_pos_left _ (Nat.mul_pos (by decide) (p2_pos 94))
    exact Nat.le_trans (Nat.le_of_lt hcb) h1
  have hF2 : rF single 925 c = true := rF_big hbig
  obtain ⟨s1, s2⟩ := rI_err single (N := 1083) hF2 hcb
  have eN2 : p2 (1083 - (single.fractionBits + 925) + 925) = p2 1060 := rfl
  rw [eN2, e1060] at s1 s2
  generalize rI single 925 c = r at *
  have e4 : (p2 1049 : Int) = p2 124 * p2 925 := by rw [← p2i]
  have hmain : -(((2 * e + d + 1030 : Nat) : Int) * p2 1049) ≤ r * p2 925 - R * p2 1049 ∧ r * p2 925 - R * p2 1049 ≤ ((2 * e + d + 1030 : Nat) : Int) * p2 1049 := by
    have e5 : ((2 * e + d + 1030 : Nat) : Int) * (p2 1049 : Int) = (2 * (e : Int) + d) * p2 1049 + 1030 * p2 1049 := by
      rw [← Int.add_mul]; congr 1
    have e6 : ((2048 * p2 1049 : Nat) : Int) = 2048 * (p2 1049 : Int) := by simp
    have e7 : (p2 1049 : Int) = 524288 * (p2 1030 : Int) := by rw [e1030]; simp
    rw [e6] at s1 s2
    rw [e5]
    generalize r * (p2 925 : Int) = q1 at *
    generalize R * (p2 1049 : Int) = q2 at *
    generalize (2 * (e : Int) + d) * (p2 1049 : Int) = q3 at *
    rw [e7] at s1 s2 ⊢
    generalize (p2 1030 : Int) = q4 at *
    omega
  have hP : (0 : Int) < p2 925 := by have := p2_pos 925; omega
  obtain ⟨m1, m2⟩ := hmain
  rw [e4] at m1 m2
  unfold Nr1
  generalize ((2 * e + d + 1030 : Nat) : Int) = E at *
  constructor
  · refine Int.le_of_mul_le_mul_right (a := (p2 925 : Int)) ?_ hP
    have a1 : -(E * (p2 124 : Int)) * (p2 925 : Int) = -(E * ((p2 124 : Int) * p2 925)) := by grind
    have a2 : (r - R * (p2 124 : Int)) * (p2 925 : Int) = r * p2 925 - R * ((p2 124 : Int) * p2 925) := by grind
    rw [a1, a2]; exact m1
  · refine Int.le_of_mul_le_mul_right (a := (p2 925 : Int)) ?_ hP
    have a1 : (E * (p2 124 : Int)) * (p2 925 : Int) = E * ((p2 124 : Int) * p2 925) := by grind
    have a2 : (r - R * (p2 124 : Int)) * (p2 925 : Int) = r * p2 925 - R * ((p2 124 : Int) * p2 925) := by grind
    rw [a1, a2]; exact m2

/-- One part of a sum. -/
theorem part_sum {A B P Q : Int} {e d M : Nat} (hA : Nr1 (p2 124) A P e) (hB : Nr1 (p2 124) B Q d) (hM : e + d + (P + Q).natAbs ≤ M) (hM2 : M ≤ 17179869183) :
    Nr1 (p2 124) (rI single 0 (A + B)) (P + Q) (e + d + 512) := by
  obtain ⟨a1, a2⟩ := hA
  obtain ⟨b1, b2⟩ := hB
  have k1 : -(((e + d : Nat) : Int) * p2 124) ≤ (A + B) - (P + Q) * p2 124 ∧ (A + B) - (P + Q) * p2 124 ≤ ((e + d : Nat) : Int) * p2 124 := by
    have e1 : ((e + d : Nat) : Int) * (p2 124 : Int) = (e : Int) * p2 124 + (d : Int) * p2 124 := by rw [← Int.add_mul]; congr 1
    rw [e1, Int.add_mul]
    omega
  obtain ⟨k1, k2⟩ := k1
  generalize A + B = X at *
  generalize P + Q = R at *
  have hRK : (R * (p2 124 : Int)).natAbs = R.natAbs * p2 124 := by rw [Int.natAbs_mul, Int.natAbs_natCast]
  have hXa : X.natAbs ≤ M * p2 124 := by
    have e1 : ((e + d : Nat) : Int) * (p2 124 : Int) = (((e + d) * p2 124 : Nat) : Int) := by simp
    rw [e1] at k1 k2
    have e2 : (e + d) * p2 124 + R.natAbs * p2 124 ≤ M * p2 124 := by rw [← Nat.add_mul]; exact Nat.mul_le_mul_right _ hM
    generalize (e + d) * p2 124 = q1 at *
    generalize M * p2 124 = q2 at *
    generalize R.natAbs * p2 124 = q3 at *
    generalize R * (p2 124 : Int) = q4 at *
    omega
  have hXb : X.natAbs < p2 (157 + 1) := by
    have e1 : p2 (157 + 1) = 17179869184 * p2 124 := by
      exact p2m (a := 34) (b := 124) (c := 17179869184) (by decide)
    have e2 : M * p2 124 ≤ 17179869183 * p2 124 := Nat.mul_le_mul_right _ hM2
    have := p2_pos 124
    rw [e1]
    generalize M * p2 124 = q2 at *
    generalize p2 124 = q3 at *
    omega
  have hF : rF single 0 X = true := rF_lt single (N := 158) (by decide +kernel) (Nat.le_of_lt hXb)
  obtain ⟨r1, r2⟩ := rI_err single (N := 157) hF hXb
  have e0 : (p2 0 : Int) = 1 := rfl
  have eN : p2 (157 - (single.fractionBits + 0) + 0) = p2 134 := rfl
  have e134 : p2 134 = 1024 * p2 124 := by
    exact p2m (a := 10) (b := 124) (c := 1024) (by decide)
  rw [e0, Int.mul_one, eN, e134] at r1 r2
  have e5 : ((e + d + 512 : Nat) : Int) * (p2 124 : Int) = ((e + d : Nat) : Int) * p2 124 + 512 * p2 124 := by
    rw [← Int.add_mul]; congr 1
  unfold Nr1
  rw [e5]
  have e6 : ((1024 * p2 124 : Nat) : Int) = 1024 * (p2 124 : Int) := by simp
  rw [e6] at r1 r2
  generalize ((e + d : Nat) : Int) * (p2 124 : Int) = q1 at *
  generalize R * (p2 124 : Int) = q2 at *
  generalize (p2 124 : Int) = q3 at *
  omega

/-- z lies near P + iQ, in parts of 2^-25. -/
def Ap (z : Num) (P Q : Int) (e : Nat) : Prop := fin single z.1 = true ∧ fin single z.2 = true ∧ Nr1 (p2 124) (iv single z.1) P e ∧ Nr1 (p2 124) (iv single z.2) Q e

theorem nr_abs {A P : Int} {e M : Nat} (h : Nr1 (p2 124) A P e) (hM : P.natAbs + e ≤ M) : A.natAbs ≤ M * p2 124 := by
  obtain ⟨h1, h2⟩ := h
  have e1 : (e : Int) * (p2 124 : Int) = ((e * p2 124 : Nat) : Int) := by simp
  have e2 : (P * (p2 124 : Int)).natAbs = P.natAbs * p2 124 := by rw [Int.natAbs_mul, Int.natAbs_natCast]
  have e3 : P.natAbs * p2 124 + e * p2 124 ≤ M * p2 124 := by rw [← Nat.add_mul]; exact Nat.mul_le_mul_right _ hM
  rw [e1] at h1 h2
  generalize e * p2 124 = q1 at *
  generalize M * p2 124 = q2 at *
  generalize P.natAbs * p2 124 = q3 at *
  generalize P * (p2 124 : Int) = q4 at *
  omega
theorem nr_neg {A P : Int} {e : Nat} {U : Int} (h : Nr1 U A P e) : Nr1 U (-A) (-P) e := by
  unfold Nr1 at *
  rw [Int.neg_mul]
  omega
theorem nr_mono {A P : Int} {e d : Nat} (h : Nr1 (p2 124) A P e) (hd : e ≤ d) : Nr1 (p2 124) A P d := by
  obtain ⟨h1, h2⟩ := h
  have e1 : (e : Int) * (p2 124 : Int) ≤ (d : Int) * (p2 124 : Int) := Int.mul_le_mul_of_nonneg_right (by omega) (Int.natCast_nonneg _)
  exact ⟨by omega, by omega⟩
theorem Ap.mono {z : Num} {P Q : Int} {e d : Nat} (h : Ap z P Q e) (hd : e ≤ d) : Ap z P Q d := ⟨h.1, h.2.1, nr_mono h.2.2.1 hd, nr_mono h.2.2.2 hd⟩

theorem ap_nm {z : Num} {P Q : Int} {e : Nat} (h : Ap z P Q e) (h1 : P.natAbs + e ≤ 17179869183) (h2 : Q.natAbs + e ≤ 17179869183) : Nm z 1 := by
  have a := nr_abs h.2.2.1 h1
  have b := nr_abs h.2.2.2 h2
  have h3 := sq_le a
  have h4 := sq_le b
  refine ⟨h.1, h.2.1, ?_⟩
  have h5 : (17179869183 * p2 124) * (17179869183 * p2 124) + (17179869183 * p2 124) * (17179869183 * p2 124) ≤ (1 * p2 253) * (1 * p2 253) := by decide +kernel
  have h6 : ((17179869183 * p2 124 : Nat) : Int) * ((17179869183 * p2 124 : Nat) : Int) + ((17179869183 * p2 124 : Nat) : Int) * ((17179869183 * p2 124 : Nat) : Int) ≤ ((1 * p2 253 : Nat) : Int) * ((1 * p2 253 : Nat) : Int) := by exact_mod_cast h5
  exact Int.le_trans (Int.add_le_add h3 h4) h6

theorem add_Ap {a b : Num} {P Q P' Q' : Int} {e d : Nat} (ha : Ap a P Q e) (hb : Ap b P' Q' d) (h1 : e + d + P.natAbs + P'.natAbs ≤ 17179869183) (h2 : e + d + Q.natAbs + Q'.natAbs ≤ 17179869183) :
    Ap (addN a b) (P + P') (Q + Q') (e + d + 512) := by
  obtain ⟨_, _, n1, e1, e2⟩ := add_Nm (ap_nm ha (by omega) (by omega)) (ap_nm hb (by omega) (by omega)) (by omega)
  refine ⟨n1.1, n1.2.1, ?_, ?_⟩
  · rw [e1]; exact part_sum ha.2.2.1 hb.2.2.1 (M := 17179869183) (by omega) (by omega)
  · rw [e2]; exact part_sum ha.2.2.2 hb.2.2.2 (M := 17179869183) (by omega) (by omega)
theorem sub_Ap {a b : Num} {P Q P' Q' : Int} {e d : Nat} (ha : Ap a P Q e) (hb : Ap b P' Q' d) (h1 : e + d + P.natAbs + P'.natAbs ≤ 17179869183) (h2 : e + d + Q.natAbs + Q'.natAbs ≤ 17179869183) :
    Ap (subN a b) (P + -P') (Q + -Q') (e + d + 512) := by
  obtain ⟨_, _, n1, e1, e2⟩ := sub_Nm (ap_nm ha (by omega) (by omega)) (ap_nm hb (by omega) (by omega)) (by omega)
  refine ⟨n1.1, n1.2.1, ?_, ?_⟩
  · rw [e1, Int.sub_eq_add_neg]; exact part_sum ha.2.2.1 (nr_neg hb.2.2.1) (M := 17179869183) (by omega) (by omega)
  · rw [e2, Int.sub_eq_add_neg]; exact part_sum ha.2.2.2 (nr_neg hb.2.2.2) (M := 17179869183) (by omega) (by omega)

theorem mul_Ap {z : Num} {P Q R R' : Int} {e d j : Nat} (h : Ap z P Q e) (hj : j < 16) (hd1 : (33554432 * R - (P * tX j - Q * tY j)).natAbs ≤ d * 33554432) (hd2 : (33554432 * R' - (P * tY j + Q * tX j)).natAbs ≤ d * 33554432)
    (b1 : P.natAbs + e ≤ 17179869183) (b2 : Q.natAbs + e ≤ 17179869183) (b3 : 2 * e + d + R.natAbs ≤ 17179869183) (b4 : 2 * e + d + R'.natAbs ≤ 17179869183) :
    Ap (mulN z (tn j)) R R' (2 * e + d + 1030) := by
  obtain ⟨_, n1, e1, e2⟩ := mul_Nm (j := j) (ap_nm h b1 b2) hj (by omega)
  obtain ⟨t1, t2⟩ := t_iv j hj
  obtain ⟨l1, l2⟩ := t_le j hj
  refine ⟨n1.1, n1.2.1, ?_, ?_⟩
  · rw [e1]
    unfold cre
    rw [t1, t2, ← Int.sub_mul]
    exact part_prod h.2.2.1 h.2.2.2 l1 l2 hd1 b3 (Nat.le_refl _)
  · rw [e2]
    unfold cim
    rw [t1, t2]
    have e3 : iv single z.1 * (tY j * (p2 124 : Int)) * (p2 776 : Int) + iv single z.2 * (tX j * (p2 124 : Int)) * (p2 776 : Int) = (iv single z.1 * (tY j * (p2 124 : Int)) - iv single z.2 * (-tX j * (p2 124 : Int))) * (p2 776 : Int) := by grind
    rw [e3]
    exact part_prod h.2.2.1 h.2.2.2 l2 (by omega) (by rw [Int.mul_neg, Int.sub_neg]; exact hd2) b4 (Nat.le_refl _)

theorem G_Ap {z : Num} {x y : Int} (h : G z x y) : Ap z (x * 33554432) (y * 33554432) 0 := by
  have e : (p2 149 : Int) = 33554432 * p2 124 := by
    have : p2 149 = 33554432 * p2 124 := p2m (a := 25) (b := 124) (by decide)
    rw [this]; simp
  have q : ∀ v : Int, v * p2 149 - v * 33554432 * p2 124 = 0 := by
    intro v
    rw [e, Int.mul_assoc, Int.sub_self]
  refine ⟨h.1, h.2.1, ?_, ?_⟩
  · unfold Nr1; rw [h.2.2.1, q]; simp
  · unfold Nr1; rw [h.2.2.2, q]; simp

/-! The exact sums of the table's turns. -/
def dX (f : Nat → Nat) (X Y : Nat → Int) : Nat → Int
  | 0 => 0
  | k + 1 => dX f X Y k + (X k * tX (f k) - Y k * tY (f k))
def dY (f : Nat → Nat) (X Y : Nat → Int) : Nat → Int
  | 0 => 0
  | k + 1 => dY f X Y k + (X k * tY (f k) + Y k * tX (f k))
def Bd (n : Nat) (X Y : Nat → Int) : Prop := ∀ i, i < n → (-10 ≤ X i ∧ X i ≤ 10) ∧ (-10 ≤ Y i ∧ Y i ≤ 10)
theorem mul_bd {x t B T : Int} (hB : 0 ≤ B) (hT : 0 ≤ T) (hx : -B ≤ x ∧ x ≤ B) (ht : -T ≤ t ∧ t ≤ T) : -(B * T) ≤ x * t ∧ x * t ≤ B * T := by
  have a := mul_le_of hB hT hx (e := t) ht
  have b := mul_le_of hB hT hx (e := -t) (by omega)
  rw [Int.mul_neg] at b
  omega
theorem term_le {f : Nat → Nat} {X Y : Nat → Int} {n k : Nat} (hf : f k < 16) (h : Bd n X Y) (hk : k < n) : (X k * tX (f k) - Y k * tY (f k)).natAbs ≤ 671088640 ∧ (X k * tY (f k) + Y k * tX (f k)).natAbs ≤ 671088640 := by
  obtain ⟨hx, hy⟩ := h k hk
  obtain ⟨l1, l2⟩ := t_le _ hf
  have c1 := mul_bd (B := 10) (T := 33554432) (by omega) (by omega) hx (t := tX (f k)) (by omega)
  have c2 := mul_bd (B := 10) (T := 33554432) (by omega) (by omega) hx (t := tY (f k)) (by omega)
  have c3 := mul_bd (B := 10) (T := 33554432) (by omega) (by omega) hy (t := tX (f k)) (by omega)
  have c4 := mul_bd (B := 10) (T := 33554432) (by omega) (by omega) hy (t := tY (f k)) (by omega)
  omega
theorem d_le {f : Nat → Nat} {X Y : Nat → Int} {n : Nat} (hf : ∀ i, i < n → f i < 16) (h : Bd n X Y) : ∀ k, k ≤ n → (dX f X Y k).natAbs ≤ k * 671088640 ∧ (dY f X Y k).natAbs ≤ k * 671088640 := by
  intro k
  induction k with
  | zero => intro _; simp [dX, dY]
  | succ k ih =>
    intro hk
    obtain ⟨a, b⟩ := ih (by omega)
    obtain ⟨hx, hy⟩ := h k (by omega)
    obtain ⟨l1, l2⟩ := t_le _ (hf k (by omega))
    have c1 := mul_bd (B := 10) (T := 33554432) (by omega) (by omega) hx (t := tX (f k)) (by omega)
    have c2 := mul_bd (B := 10) (T := 33554432) (by omega) (by omega) hx (t := tY (f k)) (by omega)
    have c3 := mul_bd (B := 10) (T := 33554432) (by omega) (by omega) hy (t := tX (f k)) (by omega)
    have c4 := mul_bd (B := 10) (T := 33554432) (by omega) (by omega) hy (t := tY (f k)) (by omega)
    unfold dX dY
    omega
theorem d_congr {f g : Nat → Nat} {X Y : Nat → Int} {n : Nat} (h : ∀ i, i < n → f i = g i) : ∀ k, k ≤ n → dX f X Y k = dX g X Y k ∧ dY f X Y k = dY g X Y k := by
  intro k
  induction k with
  | zero => intro _; exact ⟨rfl, rfl⟩
  | succ k ih =>
    intro hk
    obtain ⟨a, b⟩ := ih (by omega)
    unfold dX dY
    rw [a, b, h k (by omega)]
    exact ⟨rfl, rfl⟩
theorem d_two (f : Nat → Nat) (X Y : Nat → Int) (n : Nat) : dX f X Y (2 * n) = dX (evX f) (evX X) (evX Y) n + dX (odX f) (odX X) (odX Y) n ∧ dY f X Y (2 * n) = dY (evX f) (evX X) (evX Y) n + dY (odX f) (odX X) (odX Y) n := by
  induction n with
  | zero => exact ⟨rfl, rfl⟩
  | succ n ih =>
    obtain ⟨a, b⟩ := ih
    constructor
    · show dX f X Y (2 * n) + (X (2 * n) * tX (f (2 * n)) - Y (2 * n) * tY (f (2 * n))) + (X (2 * n + 1) * tX (f (2 * n + 1)) - Y (2 * n + 1) * tY (f (2 * n + 1))) =
        dX (evX f) (evX X) (evX Y) n + (X (2 * n) * tX (f (2 * n)) - Y (2 * n) * tY (f (2 * n))) + (dX (odX f) (odX X) (odX Y) n + (X (2 * n + 1) * tX (f (2 * n + 1)) - Y (2 * n + 1) * tY (f (2 * n + 1))))
      omega
    · show dY f X Y (2 * n) + (X (2 * n) * tY (f (2 * n)) + Y (2 * n) * tX (f (2 * n))) + (X (2 * n + 1) * tY (f (2 * n + 1)) + Y (2 * n + 1) * tX (f (2 * n + 1))) =
        dY (evX f) (evX X) (evX Y) n + (X (2 * n) * tY (f (2 * n)) + Y (2 * n) * tX (f (2 * n))) + (dY (odX f) (odX X) (odX Y) n + (X (2 * n + 1) * tY (f (2 * n + 1)) + Y (2 * n + 1) * tX (f (2 * n + 1))))
      omega
theorem turn_ring1 (A B C x y p q r s a b : Int) : 33554432 * (C + (x * p - y * q)) - ((A + (x * a - y * b)) * r - (B + (x * b + y * a)) * s) = (33554432 * C - (A * r - B * s)) + (x * (33554432 * p - (a * r - b * s)) - y * (33554432 * q - (a * s + b * r))) := by grind
theorem turn_ring2 (A B C x y p q r s a b : Int) : 33554432 * (C + (x * q + y * p)) - ((A + (x * a - y * b)) * s + (B + (x * b + y * a)) * r) = (33554432 * C - (A * s + B * r)) + (x * (33554432 * q - (a * s + b * r)) + y * (33554432 * p - (a * r - b * s))) := by grind
/-- All turned by t more: nearly the product. -/
theorem d_turn {f g : Nat → Nat} {X Y : Nat → Int} {n t : Nat} (ht : t < 16) (hf : ∀ i, i < n → f i < 16) (hg : ∀ i, i < n → g i = (f i + t) % 16) (h : Bd n X Y) : ∀ k, k ≤ n →
    (33554432 * dX g X Y k - (dX f X Y k * tX t - dY f X Y k * tY t)).natAbs ≤ k * 1342177280 ∧ (33554432 * dY g X Y k - (dX f X Y k * tY t + dY f X Y k * tX t)).natAbs ≤ k * 1342177280 := by
  intro k
  induction k with
  | zero => intro _; simp [dX, dY]
  | succ k ih =>
    intro hk
    obtain ⟨a, b⟩ := ih (by omega)
    obtain ⟨hx, hy⟩ := h k (by omega)
    obtain ⟨m1, m2⟩ := t_mul _ (hf k (by omega)) t ht
    rw [← hg k (by omega)] at m1 m2
    have ex : 33554432 * dX g X Y (k + 1) - (dX f X Y (k + 1) * tX t - dY f X Y (k + 1) * tY t) = (33554432 * dX g X Y k - (dX f X Y k * tX t - dY f X Y k * tY t)) + (X k * (33554432 * tX (g k) - (tX (f k) * tX t - tY (f k) * tY t)) - Y k * (33554432 * tY (g k) - (tX (f k) * tY t + tY (f k) * tX t))) := turn_ring1 _ _ _ _ _ _ _ _ _ _ _
    have ey : 33554432 * dY g X Y (k + 1) - (dX f X Y (k + 1) * tY t + dY f X Y (k + 1) * tX t) = (33554432 * dY g X Y k - (dX f X Y k * tY t + dY f X Y k * tX t)) + (X k * (33554432 * tY (g k) - (tX (f k) * tY t + tY (f k) * tX t)) + Y k * (33554432 * tX (g k) - (tX (f k) * tX t - tY (f k) * tY t))) := turn_ring2 _ _ _ _ _ _ _ _ _ _ _
    rw [ex, ey]
    generalize 33554432 * tX (g k) - (tX (f k) * tX t - tY (f k) * tY t) = u at *
    generalize 33554432 * tY (g k) - (tX (f k) * tY t + tY (f k) * tX t) = v at *
    have c1 := mul_bd (B := 10) (T := 67108864) (by omega) (by omega) hx (t := u) (by omega)
    have c2 := mul_bd (B := 10) (T := 67108864) (by omega) (by omega) hx (t := v) (by omega)
    have c3 := mul_bd (B := 10) (T := 67108864) (by omega) (by omega) hy (t := u) (by omega)
    have c4 := mul_bd (B := 10) (T := 67108864) (by omega) (by omega) hy (t := v) (by omega)
    omega
theorem d_neg {f g : Nat → Nat} {X Y : Nat → Int} {n : Nat} (hf : ∀ i, i < n → f i < 16) (hg : ∀ i, i < n → g i = (f i + 8) % 16) : ∀ k, k ≤ n → dX g X Y k = -dX f X Y k ∧ dY g X Y k = -dY f X Y k := by
  intro k
  induction k with
  | zero => intro _; simp [dX, dY]
  | succ k ih =>
    intro hk
    obtain ⟨a, b⟩ := ih (by omega)
    obtain ⟨m1, m2⟩ := t_neg _ (hf k (by omega))
    unfold dX dY
    rw [a, b, hg k (by omega), m1, m2]
    constructor <;> grind

/-! The plain spectrum. -/
theorem sumK_Ap {xs : List Num} {f : Nat → Nat} {X Y : Nat → Int} {n : Nat} (hn : n ≤ 16) (hf : ∀ i, f i < 16) (hg : ∀ j, j < n → G (xs.getD j (0, 0)) (X j) (Y j)) (h : Bd n X Y) : ∀ k, k ≤ n → Ap (sumK xs f k) (dX f X Y k) (dY f X Y k) (k * 1542) := by
  intro k
  induction k with
  | zero =>
    intro _
    have h0 : Ap (0, 0) 0 0 0 := ⟨by decide +kernel, by decide +kernel, by unfold Nr1; decide +kernel, by unfold Nr1; decide +kernel⟩
    show Ap (0, 0) 0 0 (0 * 1542)
    rw [Nat.zero_mul]
    exact h0
  | succ k ih =>
    intro hk
    have h0 := ih (by omega)
    obtain ⟨l1, l2⟩ := d_le (fun i _ => hf i) h k (by omega)
    obtain ⟨l3, l4⟩ := term_le (f := f) (hf k) h (show k < n by omega)
    obtain ⟨hx, hy⟩ := h k (by omega)
    have hm := mul_Ap (j := f k) (d := 0) (R := X k * tX (f k) - Y k * tY (f k)) (R' := X k * tY (f k) + Y k * tX (f k)) (G_Ap (hg k (by omega))) (hf k) (by rw [show 33554432 * (X k * tX (f k) - Y k * tY (f k)) - (X k * 33554432 * tX (f k) - Y k * 33554432 * tY (f k)) = 0 by grind]; decide)
      (by rw [show 33554432 * (X k * tY (f k) + Y k * tX (f k)) - (X k * 33554432 * tY (f k) + Y k * 33554432 * tX (f k)) = 0 by grind]; decide) (by omega) (by omega) (by omega) (by omega)
    have := add_Ap h0 hm (by omega) (by omega)
    show Ap (addN (sumK xs f k) (mulN (xs.getD k (0, 0)) (tn (f k)))) (dX f X Y k + _) (dY f X Y k + _) _
    exact this.mono (by omega)

/-! The fast spectrum. -/
def ff (m k n : Nat) : Nat := fT (16 / ((2 ^ m : Nat) : Int) * -(k : Int)) n
theorem ff_lt (m k n : Nat) : ff m k n < 16 := fT_lt _ _
theorem ff_rec : ∀ m, m < 4 → ∀ k, k < 2 ^ m → ∀ i, i < 2 ^ m → ff (m + 1) k (2 * i) = ff m k i ∧ ff (m + 1) k (2 * i + 1) = (ff m k i + tk (2 ^ (m + 1)) k) % 16 ∧
    ff (m + 1) (k + 2 ^ m) (2 * i) = ff m k i ∧ ff (m + 1) (k + 2 ^ m) (2 * i + 1) = ((ff m k i + tk (2 ^ (m + 1)) k) % 16 + 8) % 16 := by decide +kernel
def eF : Nat → Nat
  | 0 => 0
  | m + 1 => 3 * eF m + 2 ^ m * 40 + 1542
theorem eF_le : ∀ m, m ≤ 4 → eF m ≤ 64280 := by decide +kernel

theorem fa_Ap : ∀ m, m ≤ 4 → ∀ (x : Nat → Num) (X Y : Nat → Int), (∀ i, i < 2 ^ m → G (x i) (X i) (Y i)) → Bd (2 ^ m) X Y → ∀ k, k < 2 ^ m → Ap (faN m x k) (dX (ff m k) X Y (2 ^ m)) (dY (ff m k) X Y (2 ^ m)) (eF m) := by
  intro m
  induction m with
  | zero =>
    intro _ x X Y hg _ k hk
    obtain rfl : k = 0 := by simpa using hk
    have h := G_Ap (hg 0 (by decide))
    have e1 : dX (ff 0 0) X Y (2 ^ 0) = X 0 * 33554432 := by
      show 0 + (X 0 * tX (ff 0 0 0) - Y 0 * tY (ff 0 0 0)) = _
      rw [show tX (ff 0 0 0) = 33554432 by decide +kernel, show tY (ff 0 0 0) = 0 by decide +kernel]
      omega
    have e2 : dY (ff 0 0) X Y (2 ^ 0) = Y 0 * 33554432 := by
      show 0 + (X 0 * tY (ff 0 0 0) + Y 0 * tX (ff 0 0 0)) = _
      rw [show tX (ff 0 0 0) = 33554432 by decide +kernel, show tY (ff 0 0 0) = 0 by decide +kernel]
      omega
    rw [e1, e2]
    exact h
  | succ m ih =>
    intro hm x X Y hg hB k hk
    have h2 : 2 ^ (m + 1) = 2 * 2 ^ m := by rw [Nat.pow_succ, Nat.mul_comm]
    have h8 : 2 ^ m ≤ 8 := Nat.le_trans (Nat.pow_le_pow_right (n := 2) (by omega) (by omega : m ≤ 3)) (by decide)
    have eE := eF_le m (by omega)
    have eS : eF (m + 1) = 3 * eF m + 2 ^ m * 40 + 1542 := rfl
    have r := fun j hj i hi => ff_rec m (by omega) j hj i hi
    have fl := fun j => fa_low m x (k := j)
    have fh := fun j => fa_high m x j
    obtain ⟨T, hT⟩ : ∃ T : Nat → Nat, ∀ j, tk (2 ^ (m + 1)) j = T j := ⟨_, fun _ => rfl⟩
    have tl : ∀ j, T j < 16 := fun j => by rw [← hT]; exact tk_lt _ _
    simp only [hT] at r fl fh
    rw [h2] at hg hB hk ⊢
    clear hT h2
    generalize 2 ^ m = N at *
    have gE : ∀ i, i < N → G (evX x i) (evX X i) (evX Y i) := fun i hi => hg (2 * i) (by omega)
    have gO : ∀ i, i < N → G (odX x i) (odX X i) (odX Y i) := fun i hi => hg (2 * i + 1) (by omega)
    have bE : Bd N (evX X) (evX Y) := fun i hi => hB (2 * i) (by omega)
    have bO : Bd N (odX X) (odX Y) := fun i hi => hB (2 * i + 1) (by omega)
    have key : ∀ j, j < N → ∀ g : Nat → Nat, (∀ i, i < N → g i = (ff m j i + T j) % 16) →
        Ap (mulN (faN m (odX x) j) (tn (T j))) (dX g (odX X) (odX Y) N) (dY g (odX X) (odX Y) N) (2 * eF m + N * 40 + 1030) ∧
        (dX g (odX X) (odX Y) N).natAbs ≤ N * 671088640 ∧ (dY g (odX X) (odX Y) N).natAbs ≤ N * 671088640 := by
      intro j hj g hgj
      have ho := ih (by omega) (odX x) (odX X) (odX Y) gO bO j hj
      obtain ⟨t1, t2⟩ := d_turn (tl j) (fun i _ => ff_lt m j i) hgj bO N (Nat.le_refl _)
      obtain ⟨l1, l2⟩ := d_le (fun i _ => ff_lt m j i) bO N (Nat.le_refl _)
      obtain ⟨l3, l4⟩ := d_le (f := g) (fun i hi => by rw [hgj i hi]; exact Nat.mod_lt _ (by decide)) bO N (Nat.le_refl _)
      have e40 : N * 1342177280 ≤ N * 40 * 33554432 := by omega
      exact ⟨mul_Ap ho (tl j) (d := N * 40) (Nat.le_trans t1 e40) (Nat.le_trans t2 e40) (by omega) (by omega) (by omega) (by omega), l3, l4⟩
    have fin1 : ∀ j, j < N → Ap (faN m (evX x) j) (dX (ff m j) (evX X) (evX Y) N) (dY (ff m j) (evX X) (evX Y) N) (eF m) := fun j hj => ih (by omega) (evX x) (evX X) (evX Y) gE bE j hj
    by_cases hlt : k < N
    · rw [fl k hlt, (d_two _ X Y N).1, (d_two _ X Y N).2]
      have c := d_congr (f := evX (ff (m + 1) k)) (g := ff m k) (X := evX X) (Y := evX Y) (fun i hi => (r k hlt i hi).1) N (Nat.le_refl _)
      rw [c.1, c.2]
      obtain ⟨k1, k2, k3⟩ := key k hlt (odX (ff (m + 1) k)) (fun i hi => (r k hlt i hi).2.1)
      have a := fin1 k hlt
      obtain ⟨l1, l2⟩ := d_le (fun i _ => ff_lt m k i) bE N (Nat.le_refl _)
      exact (add_Ap a k1 (by omega) (by omega)).mono (by omega)
    · obtain ⟨j, rfl⟩ : ∃ j, k = j + N := ⟨k - N, by omega⟩
      have hj : j < N := by omega
      rw [fh j, (d_two _ X Y N).1, (d_two _ X Y N).2]
      have c := d_congr (f := evX (ff (m + 1) (j + N))) (g := ff m j) (X := evX X) (Y := evX Y) (fun i hi => (r j hj i hi).2.2.1) N (Nat.le_refl _)
      rw [c.1, c.2]
      obtain ⟨k1, k2, k3⟩ := key j hj (fun i => (ff m j i + T j) % 16) (fun i _ => rfl)
      have hn := d_neg (f := fun i => (ff m j i + T j) % 16) (g := odX (ff (m + 1) (j + N))) (X := odX X) (Y := odX Y) (n := N) (fun i _ => Nat.mod_lt _ (by decide)) (fun i hi => (r j hj i hi).2.2.2) N (Nat.le_refl _)
      rw [hn.1, hn.2]
      have a := fin1 j hj
      obtain ⟨l1, l2⟩ := d_le (fun i _ => ff_lt m j i) bE N (Nat.le_refl _)
      exact (sub_Ap a k1 (by omega) (by omega)).mono (by omega)

/-- Both parts of two numbers differ by at most 100000 parts of 2^-25. -/
def NearN (a b : Num) : Prop := fin single a.1 = true ∧ fin single a.2 = true ∧ fin single b.1 = true ∧ fin single b.2 = true ∧
  (iv single a.1 - iv single b.1).natAbs ≤ 100000 * p2 124 ∧ (iv single a.2 - iv single b.2).natAbs ≤ 100000 * p2 124
theorem nr_two {A B P : Int} {e d : Nat} (ha : Nr1 (p2 124) A P e) (hb : Nr1 (p2 124) B P d) (h : e + d ≤ 100000) : (A - B).natAbs ≤ 100000 * p2 124 := by
  obtain ⟨a1, a2⟩ := ha
  obtain ⟨b1, b2⟩ := hb
  have e1 : (e : Int) * (p2 124 : Int) = ((e * p2 124 : Nat) : Int) := by simp
  have e2 : (d : Int) * (p2 124 : Int) = ((d * p2 124 : Nat) : Int) := by simp
  have e3 : e * p2 124 + d * p2 124 ≤ 100000 * p2 124 := by rw [← Nat.add_mul]; exact Nat.mul_le_mul_right _ h
  rw [e1] at a1 a2
  rw [e2] at b1 b2
  generalize e * p2 124 = q1 at *
  generalize d * p2 124 = q2 at *
  generalize 100000 * p2 124 = q3 at *
  omega
theorem ap_near {a b : Num} {P Q : Int} {e d : Nat} (ha : Ap a P Q e) (hb : Ap b P Q d) (h : e + d ≤ 100000) : NearN a b :=
  ⟨ha.1, ha.2.1, hb.1, hb.2.1, nr_two ha.2.2.1 hb.2.2.1 h, nr_two ha.2.2.2 hb.2.2.2 h⟩

theorem pow_le16' {m : Nat} (h : m ≤ 4) : 2 ^ m ≤ 16 := Nat.le_trans (Nat.pow_le_pow_right (n := 2) (by omega) h) (by decide)
theorem fast_near {xs : List Num} {m : Nat} (hm : m ≤ 4) (hl : xs.length = 2 ^ m) (h : AllWhole xs 10) {k : Nat} (hk : k < 2 ^ m) : NearN (faN m (atX xs) k) (dftN xs k) := by
  have hp := whole_parts h
  rw [hl] at hp
  have hB : Bd (2 ^ m) (gX xs) (gY xs) := fun i hi => by
    obtain ⟨_, a, b, c, d⟩ := hp i hi
    exact ⟨⟨a, b⟩, ⟨c, d⟩⟩
  have h16 : 2 ^ m ≤ 16 := pow_le16' hm
  have a := fa_Ap m hm (atX xs) (gX xs) (gY xs) (fun i hi => (hp i hi).1) hB k hk
  have b := sumK_Ap (xs := xs) (f := ff m k) h16 (fun i => ff_lt m k i) (fun j hj => (hp j hj).1) hB (2 ^ m) (Nat.le_refl _)
  have e : dftN xs k = sumK xs (ff m k) (2 ^ m) := by unfold dftN; rw [hl]; rfl
  rw [e]
  have := eF_le m hm
  exact ap_near a b (by omega)

/-- The number k of the fast spectrum of whole numbers, 2^m of them, m at most 2. -/
def gf : Nat → (Nat → Int) → (Nat → Int) → Nat → Int × Int
  | 0, X, Y, _ => (X 0, Y 0)
  | m + 1, X, Y, k => if k < 2 ^ m then
      ((gf m (evX X) (evX Y) k).1 + qx (tk (2 ^ (m + 1)) k / 4) (gf m (odX X) (odX Y) k).1 (gf m (odX X) (odX Y) k).2, (gf m (evX X) (evX Y) k).2 + qy (tk (2 ^ (m + 1)) k / 4) (gf m (odX X) (odX Y) k).1 (gf m (odX X) (odX Y) k).2)
    else
      ((gf m (evX X) (evX Y) (k - 2 ^ m)).1 - qx (tk (2 ^ (m + 1)) (k - 2 ^ m) / 4) (gf m (odX X) (odX Y) (k - 2 ^ m)).1 (gf m (odX X) (odX Y) (k - 2 ^ m)).2, (gf m (evX X) (evX Y) (k - 2 ^ m)).2 - qy (tk (2 ^ (m + 1)) (k - 2 ^ m) / 4) (gf m (odX X) (odX Y) (k - 2 ^ m)).1 (gf m (odX X) (odX Y) (k - 2 ^ m)).2)
theorem tk_quarter : ∀ m, m < 2 → ∀ k, k < 2 ^ m → tk (2 ^ (m + 1)) k = 4 * (tk (2 ^ (m + 1)) k / 4) ∧ tk (2 ^ (m + 1)) k / 4 < 4 := by decide +kernel

theorem gf_fa : ∀ m, m ≤ 2 → ∀ (x : Nat → Num) (X Y : Nat → Int), (∀ i, i < 2 ^ m → G (x i) (X i) (Y i)) → (∀ i, i < 2 ^ m → (X i).natAbs ≤ 1000 ∧ (Y i).natAbs ≤ 1000) → ∀ k, k < 2 ^ m →
    G (faN m x k) (gf m X Y k).1 (gf m X Y k).2 ∧ (gf m X Y k).1.natAbs ≤ 2 ^ m * 1000 ∧ (gf m X Y k).2.natAbs ≤ 2 ^ m * 1000 := by
  intro m
  induction m with
  | zero =>
    intro _ x X Y hg hb k _
    have := hb 0 (by decide)
    exact ⟨hg 0 (by decide), by show (X 0).natAbs ≤ 1 * 1000; omega, by show (Y 0).natAbs ≤ 1 * 1000; omega⟩
  | succ m ih =>
    intro hm x X Y hg hb k hk
    have h2 : 2 ^ (m + 1) = 2 * 2 ^ m := by rw [Nat.pow_succ, Nat.mul_comm]
    have h8 : 2 ^ m ≤ 2 := Nat.le_trans (Nat.pow_le_pow_right (n := 2) (by omega) (by omega : m ≤ 1)) (by decide)
    have key : ∀ j, j < 2 ^ m → ∃ a b c d : Int, (gf m (evX X) (evX Y) j) = (a, b) ∧ (gf m (odX X) (odX Y) j) = (c, d) ∧ G (faN m (evX x) j) a b ∧ G (mulN (faN m (odX x) j) (tn (tk (2 ^ (m + 1)) j))) (qx (tk (2 ^ (m + 1)) j / 4) c d) (qy (tk (2 ^ (m + 1)) j / 4) c d) ∧
        a.natAbs ≤ 2 ^ m * 1000 ∧ b.natAbs ≤ 2 ^ m * 1000 ∧ (qx (tk (2 ^ (m + 1)) j / 4) c d).natAbs ≤ 2 ^ m * 1000 ∧ (qy (tk (2 ^ (m + 1)) j / 4) c d).natAbs ≤ 2 ^ m * 1000 := by
      intro j hj
      obtain ⟨g1, b1, b2⟩ := ih (by omega) (evX x) (evX X) (evX Y) (fun i hi => hg (2 * i) (by omega)) (fun i hi => hb (2 * i) (by omega)) j hj
      obtain ⟨g2, b3, b4⟩ := ih (by omega) (odX x) (odX X) (odX Y) (fun i hi => hg (2 * i + 1) (by omega)) (fun i hi => hb (2 * i + 1) (by omega)) j hj
      obtain ⟨q1, q2⟩ := tk_quarter m (by omega) j hj
      have gm := G_mul g2 q2 (by omega) (by omega)
      rw [← q1] at gm
      refine ⟨_, _, _, _, rfl, rfl, g1, gm, b1, b2, ?_, ?_⟩
      · unfold qx; (repeat' split) <;> omega
      · unfold qy; (repeat' split) <;> omega
    by_cases hlt : k < 2 ^ m
    · obtain ⟨a, b, c, d, e1, e2, g1, g2, l1, l2, l3, l4⟩ := key k hlt
      have e : gf (m + 1) X Y k = (a + qx (tk (2 ^ (m + 1)) k / 4) c d, b + qy (tk (2 ^ (m + 1)) k / 4) c d) := by
        show (if k < 2 ^ m then _ else _) = _
        rw [if_pos hlt, e1, e2]
      rw [fa_low m x hlt, e, h2]
      rw [h2] at g2 l3 l4
      exact ⟨G_add g1 g2 (by omega) (by omega) (by omega) (by omega), by show (a + _ : Int).natAbs ≤ _; omega, by show (b + _ : Int).natAbs ≤ _; omega⟩
    · obtain ⟨j, rfl⟩ : ∃ j, k = j + 2 ^ m := ⟨k - 2 ^ m, by omega⟩
      obtain ⟨a, b, c, d, e1, e2, g1, g2, l1, l2, l3, l4⟩ := key j (by omega)
      have e : gf (m + 1) X Y (j + 2 ^ m) = (a - qx (tk (2 ^ (m + 1)) j / 4) c d, b - qy (tk (2 ^ (m + 1)) j / 4) c d) := by
        show (if j + 2 ^ m < 2 ^ m then _ else _) = _
        rw [if_neg hlt, Nat.add_sub_cancel, e1, e2]
      rw [fa_high m x j, e, h2]
      rw [h2] at g2 l3 l4
      exact ⟨G_sub g1 g2 (by omega) (by omega) (by omega) (by omega), by show (a - _ : Int).natAbs ≤ _; omega, by show (b - _ : Int).natAbs ≤ _; omega⟩

theorem gf_eq (X Y : Nat → Int) : ∀ m, m ≤ 2 → ∀ k, k < 2 ^ m → gf m X Y k = (SX X Y (qm (2 ^ m) k) (2 ^ m), SY X Y (qm (2 ^ m) k) (2 ^ m)) := by
  intro m hm k hk
  have : m = 0 ∨ m = 1 ∨ m = 2 := by omega
  have e0 : tk 2 0 = 0 := by decide
  have e1 : tk 4 0 = 0 := by decide
  have e2 : tk 4 1 = 12 := by decide
  rcases this with rfl | rfl | rfl
  · obtain rfl : k = 0 := by simpa using hk
    simp [gf, SX, SY, qm, qx, qy]
  · have : k = 0 ∨ k = 1 := by simp at hk; omega
    rcases this with rfl | rfl <;> (simp [gf, SX, SY, qm, qx, qy, evX, odX, e0]; try omega)
  · have : k = 0 ∨ k = 1 ∨ k = 2 ∨ k = 3 := by simp at hk; omega
    rcases this with rfl | rfl | rfl | rfl <;> (simp [gf, SX, SY, qm, qx, qy, evX, odX, e0, e1, e2]; try omega)

theorem fast_small {xs : List Num} {m : Nat} (hm : m ≤ 2) (hl : xs.length = 2 ^ m) (h : AllWhole xs 1000) {k : Nat} (hk : k < 2 ^ m) : valEq (faN m (atX xs) k) (dftN xs k) := by
  have hp := whole_parts h
  rw [hl] at hp
  obtain ⟨g1, _, _⟩ := gf_fa m hm (atX xs) (gX xs) (gY xs) (fun i hi => (hp i hi).1) (fun i hi => by have := (hp i hi).2; omega) k hk
  have hn : 2 ^ m ∈ small := by
    have : m = 0 ∨ m = 1 ∨ m = 2 := by omega
    rcases this with rfl | rfl | rfl <;> decide
  have h4 : 2 ^ m ≤ 4 := Nat.le_trans (Nat.pow_le_pow_right (n := 2) (by omega) hm) (by decide)
  have g2 : G (dftN xs k) (SX (gX xs) (gY xs) (qm (2 ^ m) k) (2 ^ m)) (SY (gX xs) (gY xs) (qm (2 ^ m) k) (2 ^ m)) := by
    unfold dftN
    rw [hl]
    exact sumK_G (B := 1000) (by omega) (by omega) (fun j hj => (hp j hj).1) (fun j hj => (hp j hj).2) (fun j hj => qm_ok _ hn k hk j hj) _ (Nat.le_refl _)
  rw [gf_eq _ _ m hm k hk] at g1
  exact ⟨g1.1, g1.2.1, g2.1, g2.2.1, by rw [g1.2.2.1, g2.2.2.1], by rw [g1.2.2.2, g2.2.2.2]⟩

theorem some34 : (Try.prog.underlying 34).isSome = true := by kernel_rfl
def bnd : Nat := 4576918229304087675
theorem bnd_fin : fin double 4576918229304087675 = true := by decide +kernel
theorem bnd_iv : ((100000 * p2 1049 : Nat) : Int) ≤ iv double 4576918229304087675 := by decide +kernel

theorem negD_rung (a : Nat) : rung double (Op.negFloat .f64 a) = rung double a := by
  unfold rung Op.negFloat
  show (a ^^^ 2 ^ 63) % 2 ^ 63 = a % 2 ^ 63
  rw [Nat.xor_mod_two_pow]
  simp
theorem negD_ngt (a : Nat) : ngt double (Op.negFloat .f64 a) = !ngt double a := by
  unfold ngt Op.negFloat
  show ((a ^^^ 2 ^ 63) / 2 ^ 63 % 2 == 1) = !(a / 2 ^ 63 % 2 == 1)
  rw [← Nat.shiftRight_eq_div_pow, ← Nat.shiftRight_eq_div_pow, Nat.shiftRight_xor_distrib]
  have : 2 ^ 63 >>> 63 = 1 := by decide
  rw [this]
  rw [show (a >>> 63 ^^^ 1) % 2 = (a >>> 63 % 2 ^^^ 1 % 2) from Nat.xor_mod_two_pow (n := 1)]
  rcases Nat.mod_two_eq_zero_or_one (a >>> 63) with h | h <;> rw [h] <;> rfl
theorem negD_fin (a : Nat) : fin double (Op.negFloat .f64 a) = fin double a := by
  unfold fin; rw [negD_rung]
theorem negD_iv (a : Nat) : iv double (Op.negFloat .f64 a) = -iv double a := by
  unfold iv; rw [negD_rung, negD_ngt, sgn_not]
theorem leD {a b : Nat} (ha : fin double a = true) (hb : fin double b = true) (h : iv double a ≤ iv double b) :
    (FloatKind.f64.format.order a b == some .lt || FloatKind.f64.format.order a b == some .eq) = true := by
  show (double.order a b == some .lt || double.order a b == some .eq) = true
  rw [cmp_lt double ha hb, cmp_eq double ha hb]
  simp only [Bool.or_eq_true, decide_eq_true_eq]
  omega
theorem ltD0 {a : Nat} (ha : fin double a = true) : (FloatKind.f64.format.order a 0 == some .lt) = decide (iv double a < 0) := by
  show (double.order a 0 == some .lt) = _
  rw [cmp_lt double ha (by decide +kernel), show iv double 0 = 0 by decide +kernel]

/-- The difference of two near parts, as float64. -/
theorem near_part {a b : Nat} (fa : fin single a = true) (fb : fin single b = true) (h : (iv single a - iv single b).natAbs ≤ 100000 * p2 124) :
    ∃ x y d, floatToFloatBits .f32 a .f64 = some x ∧ floatToFloatBits .f32 b .f64 = some y ∧ floatBits .sub .f64 x y = some d ∧ fin double d = true ∧
      -iv double 4576918229304087675 ≤ iv double d ∧ iv double d ≤ iv double 4576918229304087675 := by
  obtain ⟨x, x1, x2, x3⟩ := conv_up fa
  obtain ⟨y, y1, y2, y3⟩ := conv_up fb
  obtain ⟨d, d1, d2, d3⟩ := sub_iv double x2 y2
  have hE : (iv double x - iv double y).natAbs ≤ 100000 * p2 1049 := by
    have e : p2 1049 = p2 124 * p2 925 := by rw [← p2_add]
    rw [x3, y3, ← Int.sub_mul, Int.natAbs_mul, Int.natAbs_natCast, e, ← Nat.mul_assoc]
    exact Nat.mul_le_mul_right _ h
  have hW := bnd_iv
  have hF : rF double 0 (iv double 4576918229304087675) = true := by
    have := rF_iv double 0 bnd_fin
    rwa [Nat.pow_zero, Int.natCast_one, Int.mul_one] at this
  have hFE : rF double 0 (iv double x - iv double y) = true := rF_mono double (by omega) hF
  have hFn : rF double 0 (-iv double 4576918229304087675) = true := rF_mono double (by omega) hF
  refine ⟨x, y, d, x1, y1, d1, by rw [d2, hFE], ?_, ?_⟩
  · have := rI_mono double (t := 0) (E := -iv double 4576918229304087675) (E' := iv double x - iv double y) (by omega) hFn hFE
    rw [rI_neg, rI_iv0 double bnd_fin, ← d3] at this
    exact this
  · have := rI_mono double (t := 0) (E := iv double x - iv double y) (E' := iv double 4576918229304087675) (by omega) hFE hF
    rw [rI_iv0 double bnd_fin, ← d3] at this
    exact this

set_option maxRecDepth 100000 in
set_option maxHeartbeats 4000000 in
theorem Near_yes (a b : Num) (w : World) (h : NearN a b) : Calls Try.prog 120 #[C a, C b, .float .f64 4576918229304087675] w fun e w' => e = .returned (.bool true) ∧ w = w' := by
  obtain ⟨f1, f2, f3, f4, h1, h2⟩ := h
  obtain ⟨x, y, d, x1, y1, d1, fd, l1, l2⟩ := near_part f1 f3 h1
  obtain ⟨u, v, e, u1, v1, e1, fe, l3, l4⟩ := near_part f2 f4 h2
  obtain ⟨a1, a2⟩ := a
  obtain ⟨b1, b2⟩ := b
  simp only at f1 f2 f3 f4 x1 y1 u1 v1
  have k1 := fun W : World => run_convert_complex (P := Try.prog) W 34 103 .f32 .f64 a1 a2 x u some34 Try.underlying103 (by simp [cConvBits, x1, u1])
  have k2 := fun W : World => run_convert_complex (P := Try.prog) W 34 103 .f32 .f64 b1 b2 y v some34 Try.underlying103 (by simp [cConvBits, y1, v1])
  have k3 := fun W : World => run_complex_sum (P := Try.prog) W .sub (.inr rfl) 103 .f64 x u y v d e (by simp [cSumBits, d1, e1])
  have F1 := Lib.hid f1
  have F2 := Lib.hid f2
  have F3 := Lib.hid f3
  have F4 := Lib.hid f4
  have o1 := ltD0 fd
  have o2 := ltD0 fe
  unfold C
  have p1' : (FloatKind.f64.format.order (Op.negFloat .f64 d) 4576918229304087675 == some .lt || FloatKind.f64.format.order (Op.negFloat .f64 d) 4576918229304087675 == some .eq) = true := leD (by rw [negD_fin]; exact fd) bnd_fin (by rw [negD_iv]; omega)
  have p2a : (FloatKind.f64.format.order e 4576918229304087675 == some .lt || FloatKind.f64.format.order e 4576918229304087675 == some .eq) = true := leD fe bnd_fin l4
  have p2' : (FloatKind.f64.format.order (Op.negFloat .f64 e) 4576918229304087675 == some .lt || FloatKind.f64.format.order (Op.negFloat .f64 e) 4576918229304087675 == some .eq) = true := leD (by rw [negD_fin]; exact fe) bnd_fin (by rw [negD_iv]; omega)
  have p1a := leD fd bnd_fin l2
  clear x1 y1 d1 u1 v1 e1 l1 l2 l3 l4 h1 h2 f1 f2 f3 f4
  generalize decide (iv double d < 0) = bd at *
  generalize decide (iv double e < 0) = be at *
  clear fd fe
  cases bd <;> cases be
  all_goals
    go_enter Try.func120, Try.ntmps120
    go_wp2_with fail
    refine (finite_yes _ _ _ F1.out F2.out).mono ?_
    rintro e' w' ⟨rfl, rfl⟩
    go_wp2_with fail
    refine (finite_yes _ _ _ F3.out F4.out).mono ?_
    rintro e' w' ⟨rfl, rfl⟩
    go_wp2_with fail
    go_ret
    exact ⟨rfl, rfl⟩

set_option maxHeartbeats 2000000 in
theorem nearSignal_yes (A B : Option Addr) (n c1 c2 : Nat) (xs ys : List Num) (w : World) (h : Sig w A n xs) (h' : Sig w B n ys)
    (hv : ∀ k, k < n → NearN (xs.getD k (0, 0)) (ys.getD k (0, 0))) :
    Calls Try.prog 80 #[.slice A n c1, .slice B n c2, .float .f64 4576918229304087675] w fun e w' => e = .returned (.bool true) ∧ ∃ d, w.drewN d = w' := by
  have hn := h.2.1
  have HX := Lib.hid h.2.2
  have HY := Lib.hid h'.2.2
  have HV := Lib.hid hv
  clear h h' hv
  go_enter Try.func80, Try.ntmps80
  go_wp2_with fail
  go_loopw [7] (fun i wr => ∃ k : Nat, k ≤ n ∧ i = .int .i64 k ∧ ∃ d, w.drewN d = wr) (fun i _ => n - (intOf i).toNat)
  case atStart => exact ⟨0, Nat.zero_le _, rfl, 0, rfl⟩
  case round =>
    obtain ⟨k, hk, rfl, d, rfl⟩ := hrel
    by_cases hlt : k < n
    · obtain ⟨b, o, rfl, hbs, hcell⟩ := HX.out k hlt
      obtain ⟨b', o', rfl, hbs', hcell'⟩ := HY.out k hlt
      have hvk := Lib.hid (HV.out k hlt)
      generalize xs.getD k (0, 0) = z at *
      generalize ys.getD k (0, 0) = y at *
      have HNr := Lib.hid (fun W : World => Near_yes z y W hvk.out)
      unfold C at hcell hcell' HNr
      clear hvk
      go_wp2_with fail
      go_quiet ((go_at_call 120; exact quiet_more (HNr.out _)))
      go_wp2_with fail
      go_roundw
      case rel => exact ⟨k + 1, by omega, by go_num, _, rfl⟩
      case measure => simp [intOf]; omega
    · have hkn : k = n := by omega
      subst hkn
      go_wp2_with fail
      go_ret
      exact ⟨rfl, d, rfl⟩
end Go.Proofs.Ytcnlgoghnlcndaa
