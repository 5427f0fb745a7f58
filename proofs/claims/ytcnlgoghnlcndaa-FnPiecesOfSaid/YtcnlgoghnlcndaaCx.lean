import Derived.Test.YtcnlgoghnlcndaaFl
namespace Go.Proofs.Ytcnlgoghnlcndaa
open Ieee

/-! The product of two complex64 numbers: reckoned in float64, rounded back. -/
def up (a : Nat) : Option Nat := floatToFloatBits .f32 a .f64
def down (a : Nat) : Option Nat := floatToFloatBits .f64 a .f32

def cmul32 (a b c d : Nat) : Option (Nat × Nat) :=
  (up a).bind fun a' => (up b).bind fun b' => (up c).bind fun c' => (up d).bind fun d' => (cMulBits a' b' c' d').bind fun ef =>
  (down ef.1).bind fun re => (down ef.2).bind fun im => some (re, im)

section
variable {P : Program} (w : World)
theorem run_conv {s k : FloatKind} {b r : Nat} (h : floatToFloatBits s b k = some r) : (Op.Complex.conv s b k).run P w = .ok r w := by
  unfold Op.Complex.conv
  by_cases e : s = k
  · subst e
    simp [floatToFloatBits] at h
    simp [h]
  · rw [if_neg e]
    simp [run_floatToFloat w h]

theorem run_cmul32 (t : TypeId) (a b c d re im : Nat) (h : cmul32 a b c d = some (re, im)) :
    (binOp .mul t (.complex .f32 a b) (.complex .f32 c d)).run P w = .ok (.complex .f32 re im) w := by
  unfold cmul32 at h
  obtain ⟨a', ha, h⟩ := bind_some h
  obtain ⟨b', hb, h⟩ := bind_some h
  obtain ⟨c', hc, h⟩ := bind_some h
  obtain ⟨d', hd, h⟩ := bind_some h
  obtain ⟨⟨e, f⟩, hm, h⟩ := bind_some h
  obtain ⟨re', hr, h⟩ := bind_some h
  obtain ⟨im', hi, h⟩ := bind_some h
  cases h
  unfold cMulBits at hm
  obtain ⟨ac, h1, hm⟩ := bind_some hm
  obtain ⟨bd, h2, hm⟩ := bind_some hm
  obtain ⟨x, h3, hm⟩ := bind_some hm
  obtain ⟨ad, h4, hm⟩ := bind_some hm
  obtain ⟨bc, h5, hm⟩ := bind_some hm
  obtain ⟨y, h6, hm⟩ := bind_some hm
  cases hm
  simp [binOp, Op.complexOp, run_conv w ha, run_conv w hb, run_conv w hc, run_conv w hd, Op.Complex.product, Op.Complex.mul, Op.Complex.sub, Op.Complex.add,
    run_carith w h1, run_carith w h2, run_carith w h3, run_carith w h4, run_carith w h5, run_carith w h6, run_conv w hr, run_conv w hi]
end

/-- The exact product of two finite float32 numbers, as float64. -/
theorem mul_up {a b a' b' : Nat} (ha : fin single a = true) (hb : fin single b = true) (ea : up a = some a') (eb : up b = some b') :
    ∃ r, double.mul a' b' = some r ∧ fin double r = true ∧ iv double r = iv single a * iv single b * (p2 776 : Int) := by
  obtain ⟨a1, h1, f1, v1⟩ := conv_up ha
  obtain ⟨b1, h2, f2, v2⟩ := conv_up hb
  obtain rfl : a' = a1 := Option.some.inj (ea.symm.trans h1)
  obtain rfl : b' = b1 := Option.some.inj (eb.symm.trans h2)
  obtain ⟨r, h3, h4, h5⟩ := mul_iv double (by decide) f1 f2
  obtain ⟨m, k, _, hm, hlt, hk⟩ := read_fin3 single ha
  obtain ⟨n, l, _, hn, hlt', hl⟩ := read_fin3 single hb
  have hk' : k ≤ 254 := by
    have h1 : rung single a < 255 * 2 ^ 23 := fin_lt single ha
    have h2 : k * 2 ^ 23 ≤ rung single a := hk
    omega
  have hl' : l ≤ 254 := by
    have h1 : rung single b < 255 * 2 ^ 23 := fin_lt single hb
    have h2 : l * 2 ^ 23 ≤ rung single b := hl
    omega
  have hE : iv double a' * iv double b' = sgn (ngt single a ^^ ngt single b) (m * n) * (p2 (k + l + 1850) : Int) := by
    rw [v1, v2, ← sgn_mul]
    have e1 : iv single a * (p2 925 : Int) * (iv single b * (p2 925 : Int)) = iv single a * iv single b * ((p2 925 * p2 925 : Nat) : Int) := by
      rw [Int.natCast_mul, Int.mul_assoc, Int.mul_left_comm (p2 925 : Int), ← Int.mul_assoc]
    rw [e1, iv_mul, ← sgn_mul, ← hm, ← hn]
    refine congrArg (sgn _) ?_
    rw [p2_add, p2_add, show 1850 = 925 + 925 from rfl, p2_add]
    show m * p2 k * (n * p2 l) * _ = _
    generalize p2 925 = Z
    generalize p2 k = K
    generalize p2 l = L
    rw [Nat.mul_mul_mul_comm m K n L, Nat.mul_assoc]
  obtain ⟨g1, g2⟩ := rI_exact_mul double (t := tm double) (e := k + l + 1850) (N := 3000) (m := sgn (ngt single a ^^ ngt single b) (m * n)) (by
    rw [natAbs_sgn]
    have h0 : m < 2 ^ 24 := hlt
    have h0' : n < 2 ^ 24 := hlt'
    show m * n < 2 ^ 53
    calc m * n ≤ 2 ^ 24 * 2 ^ 24 := Nat.mul_le_mul (Nat.le_of_lt h0) (Nat.le_of_lt h0')
      _ < 2 ^ 53 := by decide) (by show 1074 ≤ k + l + 1850; omega) (by decide +kernel) (by show 53 + (k + l + 1850) ≤ 3000; omega)
  rw [hE] at h4 h5
  refine ⟨r, h3, by rw [h4, g1], ?_⟩
  rw [h5, g2]
  have e3 : k + l + 1850 - tm double = k + l + 776 := by show k + l + 1850 - 1074 = _; omega
  rw [e3, iv_mul, ← hm, ← hn, ← sgn_mul, ← sgn_mul]
  refine congrArg (sgn _) ?_
  show m * n * p2 (k + l + 776) = m * p2 k * (n * p2 l) * p2 776
  rw [p2_add, p2_add]
  generalize p2 776 = Z
  generalize p2 k = K
  generalize p2 l = L
  rw [Nat.mul_mul_mul_comm m K n L, Nat.mul_assoc (m * n)]

theorem natAbs_iv_lt {a : Nat} (ha : fin single a = true) : (iv single a).natAbs < p2 277 := by
  rw [natAbs_iv]
  have hq : rung single a / single.binade ≤ 253 + 1 := by
    have : rung single a < 255 * 2 ^ 23 := fin_lt single ha
    have e : single.binade = 2 ^ 23 := rfl
    rw [e]; omega
  exact (congrArg p2 (show 277 = single.fractionBits + 1 + 253 from rfl)) ▸ magU_lt single hq

/-- The parts of the product as float64: in units of 2^-1074. -/
def cre (a b c d : Nat) : Int := rI double 0 (iv single a * iv single c * (p2 776 : Int) - iv single b * iv single d * (p2 776 : Int))
def cim (a b c d : Nat) : Int := rI double 0 (iv single a * iv single d * (p2 776 : Int) + iv single b * iv single c * (p2 776 : Int))

theorem rF_two {A B : Int} (hA : A.natAbs < p2 554 * p2 776) (hB : B.natAbs < p2 554 * p2 776) : rF double 0 (A + B) = true ∧ rF double 0 (A - B) = true := by
  have h0 : rt double 0 (p2 1400) < double.infRung := by decide +kernel
  have e : p2 554 * p2 776 * 2 ≤ p2 1400 := by decide +kernel
  have h1 : (A + B).natAbs ≤ p2 1400 := by omega
  have h2 : (A - B).natAbs ≤ p2 1400 := by omega
  exact ⟨rF_lt double h0 h1, rF_lt double h0 h2⟩

theorem prod_lt {a b : Nat} (ha : fin single a = true) (hb : fin single b = true) : (iv single a * iv single b * ((p2 776 : Int) : Int)).natAbs < p2 554 * p2 776 := by
  have h1 := natAbs_iv_lt ha
  have h2 := natAbs_iv_lt hb
  rw [Int.natAbs_mul, Int.natAbs_mul, Int.natAbs_natCast]
  refine (Nat.mul_lt_mul_right (p2_pos _)).2 ?_
  have e : p2 554 = p2 277 * p2 277 := p2_add 277 277
  rw [e]
  exact Nat.mul_lt_mul'' h1 h2

theorem cmul32_some {a b c d : Nat} (ha : fin single a = true) (hb : fin single b = true) (hc : fin single c = true) (hd : fin single d = true)
    (h1 : rF single 925 (cre a b c d) = true) (h2 : rF single 925 (cim a b c d) = true) :
    ∃ re im, cmul32 a b c d = some (re, im) ∧ fin single re = true ∧ fin single im = true ∧ iv single re = rI single 925 (cre a b c d) ∧ iv single im = rI single 925 (cim a b c d) := by
  obtain ⟨a', ea, fa, va⟩ := conv_up ha
  obtain ⟨b', eb, fb, vb⟩ := conv_up hb
  obtain ⟨c', ec, fc, vc⟩ := conv_up hc
  obtain ⟨d', ed, fd, vd⟩ := conv_up hd
  obtain ⟨ac, m1, f1, v1⟩ := mul_up ha hc ea ec
  obtain ⟨bd, m2, f2, v2⟩ := mul_up hb hd eb ed
  obtain ⟨ad, m3, f3, v3⟩ := mul_up ha hd ea ed
  obtain ⟨bc, m4, f4, v4⟩ := mul_up hb hc eb ec
  obtain ⟨x, s1, s2, s3⟩ := sub_iv double f1 f2
  obtain ⟨y, t1, t2, t3⟩ := add_iv double f3 f4
  rw [v1, v2] at s2 s3
  rw [v3, v4] at t2 t3
  have fx : fin double x = true := by rw [s2]; exact (rF_two (prod_lt ha hc) (prod_lt hb hd)).2
  have fy : fin double y = true := by rw [t2]; exact (rF_two (prod_lt ha hd) (prod_lt hb hc)).1
  obtain ⟨re, r1, r2, r3⟩ := conv_down fx (by rw [s3]; exact h1)
  obtain ⟨im, i1, i2, i3⟩ := conv_down fy (by rw [t3]; exact h2)
  refine ⟨re, im, ?_, r2, i2, by rw [r3, s3]; rfl, by rw [i3, t3]; rfl⟩
  have u1 : up a = some a' := ea
  have u2 : up b = some b' := eb
  have u3 : up c = some c' := ec
  have u4 : up d = some d' := ed
  have d1 : down x = some re := r1
  have d2 : down y = some im := i1
  have q1 : floatBits .mul .f64 a' c' = some ac := m1
  have q2 : floatBits .mul .f64 b' d' = some bd := m2
  have q3 : floatBits .sub .f64 ac bd = some x := s1
  have q4 : floatBits .mul .f64 a' d' = some ad := m3
  have q5 : floatBits .mul .f64 b' c' = some bc := m4
  have q6 : floatBits .add .f64 ad bc = some y := t1
  simp [cmul32, cMulBits, u1, u2, u3, u4, q1, q2, q3, q4, q5, q6, d1, d2]
end Go.Proofs.Ytcnlgoghnlcndaa
