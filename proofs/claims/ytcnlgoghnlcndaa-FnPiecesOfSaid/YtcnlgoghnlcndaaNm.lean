/- Plain: lengths of numbers; what a product with a turn, a sum and a difference may be at most; nothing is too great. -/
import Derived.Test.YtcnlgoghnlcndaaW9
import Derived.Test.YtcnlgoghnlcndaaT1
namespace Go.Proofs.Ytcnlgoghnlcndaa
open Ieee

theorem sq_nn (y : Int) : 0 ≤ y * y := by
  rcases Int.le_total 0 y with h | h
  · exact Int.mul_nonneg h h
  · exact Int.mul_nonneg_of_nonpos_of_nonpos h h
theorem abs_part {x y M : Int} (hM : 0 ≤ M) (h : x * x + y * y ≤ M * M) : -M ≤ x ∧ x ≤ M := by
  have b := sq_nn y
  constructor
  · false_or_by_contra
    have a : 0 < (-x - M) * (M - x) := Int.mul_pos (by omega) (by omega)
    grind
  · false_or_by_contra
    have a : 0 < (x - M) * (x + M) := Int.mul_pos (by omega) (by omega)
    grind
theorem sq_le_of {e V : Int} (h1 : -V ≤ e) (h2 : e ≤ V) : e * e ≤ V * V := by
  have a : 0 ≤ (V - e) * (V + e) := Int.mul_nonneg (by omega) (by omega)
  grind
theorem mul_le_of {x e M V : Int} (_hM : 0 ≤ M) (_hV : 0 ≤ V) (h1 : -M ≤ x ∧ x ≤ M) (h2 : -V ≤ e ∧ e ≤ V) : x * e ≤ M * V := by
  have a : 0 ≤ (M - x) * (V + e) := Int.mul_nonneg (by omega) (by omega)
  have b : 0 ≤ (M + x) * (V - e) := Int.mul_nonneg (by omega) (by omega)
  grind

/-- Both parts turned by at most V: the length grows by at most 2 V. -/
theorem mink {x y x0 y0 V M : Int} (hM : 0 ≤ M) (hV : 0 ≤ V) (hx : x - x0 ≤ V ∧ x0 - x ≤ V) (hy : y - y0 ≤ V ∧ y0 - y ≤ V) (h : x0 * x0 + y0 * y0 ≤ M * M) :
    x * x + y * y ≤ (M + 2 * V) * (M + 2 * V) := by
  obtain ⟨e, he⟩ : ∃ e, x = x0 + e := ⟨x - x0, by omega⟩
  obtain ⟨f, hf⟩ : ∃ f, y = y0 + f := ⟨y - y0, by omega⟩
  subst he hf
  have p1 := abs_part hM h
  have p2' := abs_part (x := y0) (y := x0) hM (by omega)
  have a1 := mul_le_of hM hV p1 (e := e) (by omega)
  have a2 := mul_le_of hM hV p2' (e := f) (by omega)
  have a3 := sq_le_of (e := e) (V := V) (by omega) (by omega)
  have a4 := sq_le_of (e := f) (V := V) (by omega) (by omega)
  have a5 := Int.mul_nonneg hV hV
  grind

/-- Two numbers added: the lengths add up. -/
theorem triangle {x1 y1 x2 y2 M K : Int} (hM : 0 ≤ M) (hK : 0 ≤ K) (h1 : x1 * x1 + y1 * y1 ≤ M * M) (h2 : x2 * x2 + y2 * y2 ≤ K * K) :
    (x1 + x2) * (x1 + x2) + (y1 + y2) * (y1 + y2) ≤ (M + K) * (M + K) := by
  have hc : x1 * x2 + y1 * y2 ≤ M * K := by
    have a : (x1 * x2 + y1 * y2) * (x1 * x2 + y1 * y2) + (x1 * y2 - y1 * x2) * (x1 * y2 - y1 * x2) = (x1 * x1 + y1 * y1) * (x2 * x2 + y2 * y2) := by grind
    have b : (x1 * x1 + y1 * y1) * (x2 * x2 + y2 * y2) ≤ (M * M) * (K * K) := Int.mul_le_mul h1 h2 (by have := sq_nn x2; have := sq_nn y2; omega) (sq_nn M)
    have c := abs_part (x := x1 * x2 + y1 * y2) (y := x1 * y2 - y1 * x2) (M := M * K) (Int.mul_nonneg hM hK) (by rw [a]; grind)
    exact c.2
  grind

/-! Rounding: how far. -/
theorem rI_err (f : Format) {t N : Nat} {E : Int} (hF : rF f t E = true) (hE : E.natAbs < p2 (N + 1)) :
    2 * (rI f t E * (p2 t : Int) - E) ≤ p2 (N - (f.fractionBits + t) + t) ∧ 2 * (E - rI f t E * (p2 t : Int)) ≤ p2 (N - (f.fractionBits + t) + t) := by
  by_cases h0 : E = 0
  · subst h0
    have : rI f t 0 = 0 := by simp [rI, rt_zero, magU_zero, sgn]
    rw [this]
    have := Int.natCast_nonneg (p2 (N - (f.fractionBits + t) + t))
    omega
  have hne : E.natAbs ≠ 0 := by omega
  have f1 : rt f t E.natAbs < f.infRung := of_decide_eq_true hF
  have hm := magU_rt f hne f1
  have hlog : E.natAbs.log2 ≤ N := by
    have := (Nat.log2_lt hne).2 hE
    omega
  have h1 := rhe_le E.natAbs (E.natAbs.log2 - (f.fractionBits + t) + t)
  have h2 := rhe_ge E.natAbs (E.natAbs.log2 - (f.fractionBits + t) + t)
  have hL : p2 (E.natAbs.log2 - (f.fractionBits + t) + t) ≤ p2 (N - (f.fractionBits + t) + t) := Nat.pow_le_pow_right (by omega) (by omega)
  have e : magU f (rt f t E.natAbs) * p2 t = rhe E.natAbs (E.natAbs.log2 - (f.fractionBits + t) + t) * p2 (E.natAbs.log2 - (f.fractionBits + t) + t) := by
    rw [hm, p2_add, Nat.mul_assoc]; rfl
  have e2 : rI f t E * (p2 t : Int) = sgn (decide (E < 0)) (magU f (rt f t E.natAbs) * p2 t) := by rw [sgn_mul]; rfl
  rw [e2, e]
  have h1' : 2 * (rhe E.natAbs (E.natAbs.log2 - (f.fractionBits + t) + t) * p2 (E.natAbs.log2 - (f.fractionBits + t) + t)) ≤ 2 * E.natAbs + p2 (E.natAbs.log2 - (f.fractionBits + t) + t) := h1
  have h2' : 2 * E.natAbs ≤ 2 * (rhe E.natAbs (E.natAbs.log2 - (f.fractionBits + t) + t) * p2 (E.natAbs.log2 - (f.fractionBits + t) + t)) + p2 (E.natAbs.log2 - (f.fractionBits + t) + t) := h2
  generalize rhe E.natAbs (E.natAbs.log2 - (f.fractionBits + t) + t) * p2 (E.natAbs.log2 - (f.fractionBits + t) + t) = Q at *
  generalize p2 (E.natAbs.log2 - (f.fractionBits + t) + t) = P at *
  generalize p2 (N - (f.fractionBits + t) + t) = P' at *
  unfold sgn
  by_cases hs : E < 0
  · simp only [hs, decide_true, if_true]; omega
  · simp only [hs, decide_false, Bool.false_eq_true, if_false]; omega

/-- The greatest float32 has 24 ones. -/
theorem big_rt (t : Nat) : rt single t (16777215 * p2 (253 + t)) < single.infRung := by
  have h := rt_exact single (t := t) (r := 2139095039) (by decide +kernel)
  have e : magU single 2139095039 * 2 ^ t = 16777215 * p2 (253 + t) := by
    have : magU single 2139095039 = 16777215 * p2 253 := by decide +kernel
    rw [this, p2_add, Nat.mul_assoc]; rfl
  rw [e] at h
  rw [h]
  decide +kernel

theorem rF_big {t : Nat} {E : Int} (h : E.natAbs ≤ 16777215 * p2 (253 + t)) : rF single t E = true :=
  decide_eq_true (Nat.lt_of_le_of_lt (rt_mono single h) (big_rt t))

/-- Rounding to float32: at most half of the last place of the greatest. -/
theorem rI_near {t : Nat} {E : Int} (h : E.natAbs ≤ 16777215 * p2 (253 + t)) :
    rF single t E = true ∧ 2 * (rI single t E * (p2 t : Int) - E) ≤ p2 (253 + t) ∧ 2 * (E - rI single t E * (p2 t : Int)) ≤ p2 (253 + t) := by
  have hF := rF_big h
  have hlt : E.natAbs < p2 (276 + t + 1) := by
    have e : p2 (276 + t + 1) = p2 24 * p2 (253 + t) := by rw [← p2_add]; congr 1; omega
    have e2 : p2 24 = 16777216 := by decide
    have := p2_pos (253 + t)
    rw [e, e2]
    omega
  have := rI_err single hF hlt
  have e3 : 276 + t - (single.fractionBits + t) + t = 253 + t := by show 276 + t - (23 + t) + t = _; omega
  rw [e3] at this
  exact ⟨hF, this⟩

/-! Numbers of a length. -/
def Nm (z : Num) (m : Nat) : Prop := fin single z.1 = true ∧ fin single z.2 = true ∧ iv single z.1 * iv single z.1 + iv single z.2 * iv single z.2 ≤ ((m * p2 253 : Nat) : Int) * ((m * p2 253 : Nat) : Int)

theorem Nm.parts {z : Num} {m : Nat} (h : Nm z m) : (iv single z.1).natAbs ≤ m * p2 253 ∧ (iv single z.2).natAbs ≤ m * p2 253 := by
  have a := abs_part (Int.natCast_nonneg (m * p2 253)) h.2.2
  have b := abs_part (x := iv single z.2) (y := iv single z.1) (Int.natCast_nonneg (m * p2 253)) (by have := h.2.2; omega)
  omega
theorem Nm.fin {z : Num} {m : Nat} (h : Nm z m) : finN z = true := by unfold finN finC; rw [h.1, h.2.1]; rfl
theorem Nm.mono {z : Num} {m k : Nat} (h : Nm z m) (hk : m ≤ k) : Nm z k := by
  refine ⟨h.1, h.2.1, Int.le_trans h.2.2 ?_⟩
  have : m * p2 253 ≤ k * p2 253 := Nat.mul_le_mul_right _ hk
  exact_mod_cast Nat.mul_le_mul this this

def addN (a b : Num) : Num := ((floatBits .add .f32 a.1 b.1).getD 0, (floatBits .add .f32 a.2 b.2).getD 0)
def subN (a b : Num) : Num := ((floatBits .sub .f32 a.1 b.1).getD 0, (floatBits .sub .f32 a.2 b.2).getD 0)
def mulN (a b : Num) : Num := (cmul32 a.1 a.2 b.1 b.2).getD (0, 0)

theorem part_add {x y : Nat} {M : Nat} (hx : fin single x = true) (hy : fin single y = true) (h : (iv single x + iv single y).natAbs ≤ M * p2 253) (hM : M ≤ 16777215) :
    ∃ r, floatBits .add .f32 x y = some r ∧ fin single r = true ∧ iv single r = rI single 0 (iv single x + iv single y) ∧ 2 * (iv single r - (iv single x + iv single y)) ≤ p2 253 ∧ 2 * (iv single x + iv single y - iv single r) ≤ p2 253 := by
  obtain ⟨r, h1, h2, h3⟩ := add_iv single hx hy
  have hb : (iv single x + iv single y).natAbs ≤ 16777215 * p2 (253 + 0) := Nat.le_trans h (Nat.mul_le_mul_right _ hM)
  obtain ⟨g1, g2, g3⟩ := rI_near hb
  rw [← h3] at g2 g3
  have e0 : (p2 0 : Int) = 1 := rfl
  rw [e0, Int.mul_one] at g2 g3
  exact ⟨r, h1, by rw [h2, g1], h3, g2, g3⟩
theorem part_sub {x y : Nat} {M : Nat} (hx : fin single x = true) (hy : fin single y = true) (h : (iv single x - iv single y).natAbs ≤ M * p2 253) (hM : M ≤ 16777215) :
    ∃ r, floatBits .sub .f32 x y = some r ∧ fin single r = true ∧ iv single r = rI single 0 (iv single x - iv single y) ∧ 2 * (iv single r - (iv single x - iv single y)) ≤ p2 253 ∧ 2 * (iv single x - iv single y - iv single r) ≤ p2 253 := by
  obtain ⟨r, h1, h2, h3⟩ := sub_iv single hx hy
  have hb : (iv single x - iv single y).natAbs ≤ 16777215 * p2 (253 + 0) := Nat.le_trans h (Nat.mul_le_mul_right _ hM)
  obtain ⟨g1, g2, g3⟩ := rI_near hb
  rw [← h3] at g2 g3
  have e0 : (p2 0 : Int) = 1 := rfl
  rw [e0, Int.mul_one] at g2 g3
  exact ⟨r, h1, by rw [h2, g1], h3, g2, g3⟩

theorem nm_of {a b : Nat} {x0 y0 : Int} {M m : Nat} (ha : fin single a = true) (hb : fin single b = true) (h : x0 * x0 + y0 * y0 ≤ ((M * p2 253 : Nat) : Int) * ((M * p2 253 : Nat) : Int)) (hm : M + 2 ≤ m)
    (h1 : 2 * (iv single a - x0) ≤ p2 253) (h2 : 2 * (x0 - iv single a) ≤ p2 253) (h3 : 2 * (iv single b - y0) ≤ p2 253) (h4 : 2 * (y0 - iv single b) ≤ p2 253) : Nm (a, b) m := by
  have hp : (0 : Int) ≤ p2 253 := Int.natCast_nonneg _
  have := mink (x := iv single a) (y := iv single b) (V := p2 253) (Int.natCast_nonneg (M * p2 253)) hp (by omega) (by omega) h
  refine Nm.mono (m := M + 2) ⟨ha, hb, ?_⟩ hm
  have e : (((M + 2) * p2 253 : Nat) : Int) = ((M * p2 253 : Nat) : Int) + 2 * (p2 253 : Int) := by rw [Nat.add_mul]; simp
  rw [e]
  exact this

theorem add_Nm {a b : Num} {m k : Nat} (ha : Nm a m) (hb : Nm b k) (h : m + k ≤ 16777000) :
    floatBits .add .f32 a.1 b.1 = some (addN a b).1 ∧ floatBits .add .f32 a.2 b.2 = some (addN a b).2 ∧ Nm (addN a b) (m + k + 2) ∧
      iv single (addN a b).1 = rI single 0 (iv single a.1 + iv single b.1) ∧ iv single (addN a b).2 = rI single 0 (iv single a.2 + iv single b.2) := by
  have ht := triangle (Int.natCast_nonneg (m * p2 253)) (Int.natCast_nonneg (k * p2 253)) ha.2.2 hb.2.2
  have e : ((m * p2 253 : Nat) : Int) + ((k * p2 253 : Nat) : Int) = (((m + k) * p2 253 : Nat) : Int) := by rw [Nat.add_mul]; simp
  rw [e] at ht
  have p1 := abs_part (Int.natCast_nonneg ((m + k) * p2 253)) ht
  have p2' := abs_part (x := iv single a.2 + iv single b.2) (y := iv single a.1 + iv single b.1) (Int.natCast_nonneg ((m + k) * p2 253)) (by omega)
  obtain ⟨r, r1, r2, r3, r4, r5⟩ := part_add ha.1 hb.1 (M := m + k) (by omega) (by omega)
  obtain ⟨s, s1, s2, s3, s4, s5⟩ := part_add ha.2.1 hb.2.1 (M := m + k) (by omega) (by omega)
  have e1 : addN a b = (r, s) := by unfold addN; rw [r1, s1]; rfl
  rw [e1]
  exact ⟨r1, s1, nm_of r2 s2 ht (Nat.le_refl _) r4 r5 s4 s5, r3, s3⟩

theorem sub_Nm {a b : Num} {m k : Nat} (ha : Nm a m) (hb : Nm b k) (h : m + k ≤ 16777000) :
    floatBits .sub .f32 a.1 b.1 = some (subN a b).1 ∧ floatBits .sub .f32 a.2 b.2 = some (subN a b).2 ∧ Nm (subN a b) (m + k + 2) ∧
      iv single (subN a b).1 = rI single 0 (iv single a.1 - iv single b.1) ∧ iv single (subN a b).2 = rI single 0 (iv single a.2 - iv single b.2) := by
  have hb2 : (-iv single b.1) * (-iv single b.1) + (-iv single b.2) * (-iv single b.2) ≤ ((k * p2 253 : Nat) : Int) * ((k * p2 253 : Nat) : Int) := by
    rw [Int.neg_mul_neg, Int.neg_mul_neg]; exact hb.2.2
  have ht := triangle (Int.natCast_nonneg (m * p2 253)) (Int.natCast_nonneg (k * p2 253)) ha.2.2 hb2
  have e : ((m * p2 253 : Nat) : Int) + ((k * p2 253 : Nat) : Int) = (((m + k) * p2 253 : Nat) : Int) := by rw [Nat.add_mul]; simp
  rw [e, ← Int.sub_eq_add_neg, ← Int.sub_eq_add_neg] at ht
  have p1 := abs_part (Int.natCast_nonneg ((m + k) * p2 253)) ht
  have p2' := abs_part (x := iv single a.2 - iv single b.2) (y := iv single a.1 - iv single b.1) (Int.natCast_nonneg ((m + k) * p2 253)) (by omega)
  obtain ⟨r, r1, r2, r3, r4, r5⟩ := part_sub ha.1 hb.1 (M := m + k) (by omega) (by omega)
  obtain ⟨s, s1, s2, s3, s4, s5⟩ := part_sub ha.2.1 hb.2.1 (M := m + k) (by omega) (by omega)
  have e1 : subN a b = (r, s) := by unfold subN; rw [r1, s1]; rfl
  rw [e1]
  exact ⟨r1, s1, nm_of r2 s2 ht (Nat.le_refl _) r4 r5 s4 s5, r3, s3⟩
end Go.Proofs.Ytcnlgoghnlcndaa
