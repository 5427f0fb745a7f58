/- Plain theory of IEEE words: rungs, exact values (iv), rounding (rt, rI), order, sums, products, conversions between float32 and float64. No program in sight. -/
import Derived.WalkLawsBesides
namespace Go.Proofs.Ytcnlgoghnlcndaa
open Ieee

/-! Words of a format: rungs, magnitudes, exact values. -/
section
variable (f : Format)

def rung (w : Nat) : Nat := w % f.signWeight
def ngt (w : Nat) : Bool := w / f.signWeight % 2 == 1
def fin (w : Nat) : Bool := decide (rung f w < f.infRung)
def magU (r : Nat) : Nat := if r < f.binade then r else (f.binade + r % f.binade) * 2 ^ (r / f.binade - 1)
def sgn (s : Bool) (n : Nat) : Int := if s then -(n : Int) else n
/-- The exact value of a finite word, in units of the format's least place. -/
def iv (w : Nat) : Int := sgn (ngt f w) (magU f (rung f w))

theorem binade_pos : 0 < f.binade := Nat.two_pow_pos _
theorem sw_pos : 0 < f.signWeight := Nat.two_pow_pos _

/-- round half even of n / 2^d -/
def rhe (n d : Nat) : Nat := n / 2 ^ d + (decide (2 ^ d < 2 * (n % 2 ^ d)) || (2 ^ d == 2 * (n % 2 ^ d) && n / 2 ^ d % 2 == 1)).toNat

theorem cut_even (s : Bool) (n d : Nat) : Toward.even.cut s n d = rhe n d := by
  unfold Toward.cut rhe
  simp only [Nat.one_shiftLeft]
  by_cases h : d ≤ n.log2 + 2
  · rw [Nat.min_eq_left h]
  · have h' : n.log2 + 2 ≤ d := by omega
    rw [Nat.min_eq_right h']
    have hn : n < 2 ^ (n.log2 + 1) := Nat.lt_log2_self
    have e : 2 ^ (n.log2 + 2) = 2 * 2 ^ (n.log2 + 1) := by rw [Nat.pow_succ, Nat.mul_comm]
    have hd : 2 ^ (n.log2 + 2) ≤ 2 ^ d := Nat.pow_le_pow_right (by omega) h'
    generalize 2 ^ (n.log2 + 2) = G at *
    generalize 2 ^ d = D at *
    generalize 2 ^ (n.log2 + 1) = H at *
    have h1 : n / G = 0 := Nat.div_eq_of_lt (by omega)
    have h2 : n / D = 0 := Nat.div_eq_of_lt (by omega)
    have h3 : n % G = n := Nat.mod_eq_of_lt (by omega)
    have h4 : n % D = n := Nat.mod_eq_of_lt (by omega)
    rw [h1, h2, h3, h4]
    have a1 : ¬ (G < 2 * n) := by omega
    have a2 : ¬ (D < 2 * n) := by omega
    simp [a1, a2]

theorem rhe_zero_d (n : Nat) : rhe n 0 = n := by
  unfold rhe
  simp [Nat.mod_one]

theorem rhe_mul (n d k : Nat) : rhe (n * 2 ^ k) (d + k) = rhe n d := by
  unfold rhe
  have hk : 0 < 2 ^ k := Nat.two_pow_pos _
  rw [Nat.pow_add, Nat.mul_div_mul_right _ _ hk, Nat.mul_mod_mul_right]
  have e1 : decide (2 ^ d * 2 ^ k < 2 * (n % 2 ^ d * 2 ^ k)) = decide (2 ^ d < 2 * (n % 2 ^ d)) := by
    rw [← Nat.mul_assoc]
    simp only [decide_eq_decide]
    exact Nat.mul_lt_mul_right hk
  have e2 : (2 ^ d * 2 ^ k == 2 * (n % 2 ^ d * 2 ^ k)) = (2 ^ d == 2 * (n % 2 ^ d)) := by
    rw [← Nat.mul_assoc, Bool.eq_iff_iff, beq_iff_eq, beq_iff_eq]
    exact Nat.mul_right_cancel_iff hk
  rw [e1, e2]

theorem rhe_le (n d : Nat) : 2 * (rhe n d * 2 ^ d) ≤ 2 * n + 2 ^ d := by
  unfold rhe
  have h := Nat.div_add_mod n (2 ^ d)
  have hp : 0 < 2 ^ d := Nat.two_pow_pos _
  generalize 2 ^ d = D at *
  have hm := Nat.mod_lt n hp
  generalize n / D = q at *
  generalize n % D = r at *
  rw [Nat.add_mul, Nat.mul_comm q D]
  by_cases c : (decide (D < 2 * r) || D == 2 * r && q % 2 == 1) = true
  · rw [c]
    have : D ≤ 2 * r := by
      simp only [Bool.or_eq_true, decide_eq_true_eq, Bool.and_eq_true, beq_iff_eq] at c
      omega
    simp only [Bool.toNat_true, Nat.one_mul]
    omega
  · rw [Bool.not_eq_true] at c
    rw [c]
    simp only [Bool.toNat_false, Nat.zero_mul]
    omega

theorem rhe_ge (n d : Nat) : 2 * n ≤ 2 * (rhe n d * 2 ^ d) + 2 ^ d := by
  unfold rhe
  have h := Nat.div_add_mod n (2 ^ d)
  have hp : 0 < 2 ^ d := Nat.two_pow_pos _
  generalize 2 ^ d = D at *
  have hm := Nat.mod_lt n hp
  generalize n / D = q at *
  generalize n % D = r at *
  rw [Nat.add_mul, Nat.mul_comm q D]
  by_cases c : (decide (D < 2 * r) || D == 2 * r && q % 2 == 1) = true
  · rw [c]
    simp only [Bool.toNat_true, Nat.one_mul]
    omega
  · rw [Bool.not_eq_true] at c
    have : ¬ (D < 2 * r) := by
      intro hh
      simp [hh] at c
    rw [c]
    simp only [Bool.toNat_false, Nat.zero_mul]
    omega

theorem rhe_mono {n n' : Nat} (h : n ≤ n') (d : Nat) : rhe n d ≤ rhe n' d := by
  unfold rhe
  have hp : 0 < 2 ^ d := Nat.two_pow_pos _
  have h1 := Nat.div_add_mod n (2 ^ d)
  have h2 := Nat.div_add_mod n' (2 ^ d)
  have hq : n / 2 ^ d ≤ n' / 2 ^ d := Nat.div_le_div_right h
  generalize 2 ^ d = D at *
  generalize n / D = q at *
  generalize n' / D = q' at *
  generalize n % D = r at *
  generalize n' % D = r' at *
  rcases Nat.lt_or_ge q q' with hlt | hge
  · have := Bool.toNat_le (decide (D < 2 * r) || D == 2 * r && q % 2 == 1)
    omega
  · obtain rfl : q = q' := by omega
    have hr : r ≤ r' := by omega
    by_cases c : (decide (D < 2 * r) || D == 2 * r && q % 2 == 1) = true
    · have c' : (decide (D < 2 * r') || D == 2 * r' && q % 2 == 1) = true := by
        simp only [Bool.or_eq_true, decide_eq_true_eq, Bool.and_eq_true, beq_iff_eq] at c ⊢
        omega
      rw [c, c']
      exact Nat.le_refl _
    · rw [Bool.not_eq_true] at c
      rw [c]
      simp

/-- The rung that 'M' units of 2^(least place - t) are rounded to. -/
def rt (t M : Nat) : Nat :=
  if M = 0 then 0 else min ((M.log2 - (f.fractionBits + t)) * f.binade + rhe M (M.log2 - (f.fractionBits + t) + t)) f.infRung

theorem log2_mul_two_pow {M : Nat} (h : M ≠ 0) (k : Nat) : (M * 2 ^ k).log2 = M.log2 + k := by
  have h1 : 2 ^ M.log2 ≤ M := Nat.log2_self_le h
  have h2 : M < 2 ^ (M.log2 + 1) := Nat.lt_log2_self
  have hk : 0 < 2 ^ k := Nat.two_pow_pos _
  have hne : M * 2 ^ k ≠ 0 := Nat.mul_ne_zero h (by omega)
  refine Nat.le_antisymm ?_ ?_
  · refine Nat.le_of_lt_succ ((Nat.log2_lt hne).2 ?_)
    have := (Nat.mul_lt_mul_right hk).2 h2
    rw [← Nat.pow_add] at this
    have e : M.log2 + 1 + k = (M.log2 + k).succ := by omega
    rw [e] at this
    exact this
  · refine (Nat.le_log2 hne).2 ?_
    rw [Nat.pow_add]
    exact Nat.mul_le_mul_right _ h1

theorem nearest_eq (s : Bool) (M t : Nat) : f.nearest s M (f.leastPlace - t) = f.word s (rt f t M) := by
  unfold Format.nearest rt
  by_cases h : M = 0
  · simp [h]
  · rw [if_neg h, if_neg h]
    simp only [cut_even]
    have e1 : (max (f.leastPlace - (t : Int) + (M.log2 : Int) - (f.fractionBits : Int)) f.leastPlace - f.leastPlace).toNat = M.log2 - (f.fractionBits + t) := by omega
    have e2 : (f.leastPlace - (t : Int) - max (f.leastPlace - (t : Int) + (M.log2 : Int) - (f.fractionBits : Int)) f.leastPlace).toNat = 0 := by omega
    have e3 : (max (f.leastPlace - (t : Int) + (M.log2 : Int) - (f.fractionBits : Int)) f.leastPlace - (f.leastPlace - (t : Int))).toNat = M.log2 - (f.fractionBits + t) + t := by omega
    rw [e1, e2, e3, Nat.shiftLeft_zero]

theorem nearest_shift (s : Bool) (M k : Nat) (p : Int) : f.nearest s M (p + k) = f.nearest s (M * 2 ^ k) p := by
  by_cases h : M = 0
  · subst h
    simp [Format.nearest]
  · have hk : 0 < 2 ^ k := Nat.two_pow_pos _
    have hne : M * 2 ^ k ≠ 0 := Nat.mul_ne_zero h (by omega)
    unfold Format.nearest
    rw [if_neg h, if_neg hne]
    simp only [cut_even]
    have el : ((M * 2 ^ k).log2 : Int) = (M.log2 : Int) + (k : Int) := by rw [log2_mul_two_pow h]; omega
    have e0 : p + (k : Int) + (M.log2 : Int) - (f.fractionBits : Int) = p + ((M * 2 ^ k).log2 : Int) - (f.fractionBits : Int) := by rw [el]; omega
    rw [e0]
    generalize max (p + ((M * 2 ^ k).log2 : Int) - (f.fractionBits : Int)) f.leastPlace = last
    congr 2
    congr 1
    simp only [Nat.shiftLeft_eq]
    rcases Int.le_total last p with h1 | h1
    · have a1 : (last - (p + k)).toNat = 0 := by omega
      have a2 : (last - p).toNat = 0 := by omega
      have a3 : (p + k - last).toNat = k + (p - last).toNat := by omega
      rw [a1, a2, a3, Nat.pow_add, Nat.mul_assoc]
    · rcases Int.le_total last (p + k) with h2 | h2
      · have a1 : (last - (p + k)).toNat = 0 := by omega
        have a2 : (p - last).toNat = 0 := by omega
        have a4 : k = (p + k - last).toNat + (last - p).toNat := by omega
        rw [a1, a2, Nat.pow_zero, Nat.mul_one, rhe_zero_d]
        have a5 : M * 2 ^ k = M * 2 ^ (p + k - last).toNat * 2 ^ (last - p).toNat := by
          rw [Nat.mul_assoc, ← Nat.pow_add, ← a4]
        rw [a5]
        have := rhe_mul (M * 2 ^ (p + k - last).toNat) 0 (last - p).toNat
        rw [Nat.zero_add, rhe_zero_d] at this
        exact this.symm
      · have a1 : (p + k - last).toNat = 0 := by omega
        have a2 : (p - last).toNat = 0 := by omega
        have a3 : (last - p).toNat = (last - (p + k)).toNat + k := by omega
        rw [a1, a2, a3, Nat.pow_zero, Nat.mul_one, Nat.mul_one, rhe_mul]

theorem rhe_exact (n d : Nat) : rhe (n * 2 ^ d) d = n := by
  have := rhe_mul n 0 d
  rw [Nat.zero_add, rhe_zero_d] at this
  exact this

theorem binade_eq : f.binade = 2 ^ f.fractionBits := rfl

theorem rhe_hi {t M : Nat} : rhe M (M.log2 - (f.fractionBits + t) + t) ≤ 2 * f.binade := by
  have h2 : M ≤ 2 ^ (f.fractionBits + 1) * 2 ^ (M.log2 - (f.fractionBits + t) + t) := by
    rw [← Nat.pow_add]
    exact Nat.le_of_lt (Nat.lt_of_lt_of_le Nat.lt_log2_self (Nat.pow_le_pow_right (by omega) (by omega)))
  have := rhe_mono h2 (M.log2 - (f.fractionBits + t) + t)
  rw [rhe_exact, Nat.pow_succ, Nat.mul_comm] at this
  exact this

theorem rhe_lo {t M : Nat} (h : M ≠ 0) (hL : 0 < M.log2 - (f.fractionBits + t)) : f.binade ≤ rhe M (M.log2 - (f.fractionBits + t) + t) := by
  have h1 : 2 ^ f.fractionBits * 2 ^ (M.log2 - (f.fractionBits + t) + t) ≤ M := by
    rw [← Nat.pow_add]
    exact Nat.le_trans (Nat.pow_le_pow_right (by omega) (by omega)) (Nat.log2_self_le h)
  have := rhe_mono h1 (M.log2 - (f.fractionBits + t) + t)
  rw [rhe_exact] at this
  exact this

theorem log2_mono {M M' : Nat} (h0 : M ≠ 0) (h : M ≤ M') : M.log2 ≤ M'.log2 :=
  (Nat.le_log2 (by omega)).2 (Nat.le_trans (Nat.log2_self_le h0) h)

theorem rt_mono {t M M' : Nat} (h : M ≤ M') : rt f t M ≤ rt f t M' := by
  unfold rt
  by_cases h0 : M = 0
  · simp [h0]
  · have h0' : M' ≠ 0 := by omega
    rw [if_neg h0, if_neg h0']
    have hl := log2_mono h0 h
    have hh := rhe_hi f (t := t) (M := M)
    have hlo := rhe_lo f (t := t) (M := M') h0'
    have hm := rhe_mono h (M.log2 - (f.fractionBits + t) + t)
    have hL : M.log2 - (f.fractionBits + t) ≤ M'.log2 - (f.fractionBits + t) := by omega
    generalize M.log2 - (f.fractionBits + t) = L at *
    generalize M'.log2 - (f.fractionBits + t) = L' at *
    rcases Nat.lt_or_ge L L' with hlt | hge
    · have hlo' := hlo (by omega)
      have e : (L + 1) * f.binade ≤ L' * f.binade := Nat.mul_le_mul_right _ hlt
      rw [Nat.add_mul, Nat.one_mul] at e
      omega
    · obtain rfl : L = L' := by omega
      omega

theorem rt_exact {t r : Nat} (h : r < f.infRung) : rt f t (magU f r * 2 ^ t) = r := by
  unfold rt
  have hb := binade_pos f
  have ht : 0 < 2 ^ t := Nat.two_pow_pos _
  by_cases hr : r < f.binade
  · have e : magU f r = r := by simp [magU, hr]
    rw [e]
    by_cases h0 : r = 0
    · simp [h0]
    · have hne : r * 2 ^ t ≠ 0 := Nat.mul_ne_zero h0 (by omega)
      rw [if_neg hne, log2_mul_two_pow h0]
      have hlog : r.log2 < f.fractionBits := (Nat.log2_lt h0).2 hr
      have e1 : r.log2 + t - (f.fractionBits + t) = 0 := by omega
      rw [e1, Nat.zero_mul, Nat.zero_add, Nat.zero_add, rhe_exact]
      omega
  · have e : magU f r = (f.binade + r % f.binade) * 2 ^ (r / f.binade - 1) := by simp [magU, hr]
    rw [e]
    have hmod := Nat.mod_lt r hb
    have hq : 1 ≤ r / f.binade := (Nat.le_div_iff_mul_le hb).2 (by omega)
    have hne0 : f.binade + r % f.binade ≠ 0 := by omega
    have hlog : (f.binade + r % f.binade).log2 = f.fractionBits := by
      refine Nat.le_antisymm ?_ ?_
      · refine Nat.le_of_lt_succ ((Nat.log2_lt hne0).2 ?_)
        rw [Nat.pow_succ, ← binade_eq]
        omega
      · exact (Nat.le_log2 hne0).2 (by rw [← binade_eq]; omega)
    rw [Nat.mul_assoc, ← Nat.pow_add]
    have hne : (f.binade + r % f.binade) * 2 ^ (r / f.binade - 1 + t) ≠ 0 := Nat.mul_ne_zero hne0 (by have := Nat.two_pow_pos (r / f.binade - 1 + t); omega)
    rw [if_neg hne, log2_mul_two_pow hne0, hlog]
    have e1 : f.fractionBits + (r / f.binade - 1 + t) - (f.fractionBits + t) = r / f.binade - 1 := by omega
    rw [e1, rhe_exact]
    have hd := Nat.div_add_mod r f.binade
    have e2 : (r / f.binade - 1) * f.binade + f.binade = f.binade * (r / f.binade) := by
      rw [Nat.mul_comm f.binade, ← Nat.succ_mul]
      congr 1
      omega
    omega

/-- The value of the rung that a number is rounded to. -/
theorem magU_rt {t M : Nat} (h : M ≠ 0) (hr : rt f t M < f.infRung) :
    magU f (rt f t M) = rhe M (M.log2 - (f.fractionBits + t) + t) * 2 ^ (M.log2 - (f.fractionBits + t)) := by
  have hb := binade_pos f
  have hh := rhe_hi f (t := t) (M := M)
  have hlo := rhe_lo f (t := t) h
  unfold rt at hr ⊢
  rw [if_neg h] at hr ⊢
  generalize hK : rhe M (M.log2 - (f.fractionBits + t) + t) = K at *
  generalize M.log2 - (f.fractionBits + t) = L at *
  have e : min (L * f.binade + K) f.infRung = L * f.binade + K := by omega
  rw [e]
  unfold magU
  rcases Nat.lt_or_ge K f.binade with hlt | hge
  · have hL : L = 0 := by
      rcases Nat.eq_zero_or_pos L with h0 | h0
      · exact h0
      · have := hlo h0; omega
    subst hL
    simp [hlt]
  · have hn : ¬ (L * f.binade + K < f.binade) := by
      have := Nat.zero_le (L * f.binade); omega
    rw [if_neg hn]
    rcases Nat.lt_or_ge K (2 * f.binade) with h2 | h2
    · have e1 : (L * f.binade + K) % f.binade = K - f.binade := by
        have : L * f.binade + K = (K - f.binade) + (L + 1) * f.binade := by rw [Nat.add_mul, Nat.one_mul]; omega
        rw [this, Nat.add_mul_mod_self_right]
        exact Nat.mod_eq_of_lt (by omega)
      have e2 : (L * f.binade + K) / f.binade = L + 1 := by
        have : L * f.binade + K = (K - f.binade) + (L + 1) * f.binade := by rw [Nat.add_mul, Nat.one_mul]; omega
        rw [this, Nat.add_mul_div_right _ _ hb, Nat.div_eq_of_lt (by omega), Nat.zero_add]
      rw [e1, e2]
      congr 1
      omega
    · obtain rfl : K = 2 * f.binade := by omega
      have e0 : L * f.binade + 2 * f.binade = 0 + (L + 2) * f.binade := by rw [Nat.add_mul]; omega
      rw [e0, Nat.add_mul_mod_self_right, Nat.add_mul_div_right _ _ hb]
      simp only [Nat.zero_mod, Nat.zero_div, Nat.zero_add, Nat.add_zero]
      have : L + 2 - 1 = L + 1 := by omega
      rw [this, Nat.pow_succ]
      rw [Nat.mul_comm 2 f.binade, Nat.mul_assoc, Nat.mul_comm 2]

theorem rt_err_hi {t M : Nat} (h : M ≠ 0) (hr : rt f t M < f.infRung) : 2 * (magU f (rt f t M) * 2 ^ t) ≤ 2 * M + 2 ^ (M.log2 - (f.fractionBits + t) + t) := by
  rw [magU_rt f h hr, Nat.mul_assoc, ← Nat.pow_add]
  exact rhe_le _ _
theorem rt_err_lo {t M : Nat} (h : M ≠ 0) (hr : rt f t M < f.infRung) : 2 * M ≤ 2 * (magU f (rt f t M) * 2 ^ t) + 2 ^ (M.log2 - (f.fractionBits + t) + t) := by
  rw [magU_rt f h hr, Nat.mul_assoc, ← Nat.pow_add]
  exact rhe_ge _ _
end


/-! Reading, order, sums, products. -/
section
variable (f : Format)

theorem infRung_lt_sw : f.infRung < f.signWeight := Format.infRung_lt f
theorem rt_le {t M : Nat} : rt f t M ≤ f.infRung := by
  unfold rt
  split
  · exact Nat.zero_le _
  · exact Nat.min_le_right _ _

theorem rung_word {s : Bool} {r : Nat} (h : r < f.signWeight) : rung f (f.word s r) = r := by
  unfold rung Format.word
  cases s
  · simp [Nat.mod_eq_of_lt h]
  · simp [Nat.mod_eq_of_lt h]
theorem ngt_word {s : Bool} {r : Nat} (h : r < f.signWeight) : ngt f (f.word s r) = s := by
  unfold ngt Format.word
  have hp := sw_pos f
  cases s
  · simp [Nat.div_eq_of_lt h]
  · simp only [if_true]
    rw [Nat.add_comm, Nat.add_div_right _ hp, Nat.div_eq_of_lt h]
    rfl
theorem iv_word {s : Bool} {r : Nat} (h : r < f.signWeight) : iv f (f.word s r) = sgn s (magU f r) := by
  unfold iv; rw [rung_word f h, ngt_word f h]
theorem fin_word {s : Bool} {r : Nat} (h : r < f.signWeight) : fin f (f.word s r) = decide (r < f.infRung) := by
  unfold fin; rw [rung_word f h]

theorem read_fin3 {w : Nat} (h : fin f w = true) :
    ∃ m k, f.read w = .number (ngt f w) m (f.leastPlace + (k : Nat)) ∧ m * 2 ^ k = magU f (rung f w) ∧ m < 2 ^ (f.fractionBits + 1) ∧ k * f.binade ≤ rung f w := by
  have h' : rung f w < f.infRung := of_decide_eq_true h
  have hb := binade_pos f
  have h2 : 2 ^ (f.fractionBits + 1) = 2 * f.binade := by rw [Nat.pow_succ, Nat.mul_comm]; rfl
  unfold Format.read
  unfold rung at h'
  by_cases h1 : w % f.signWeight < f.binade
  · refine ⟨w % f.signWeight, 0, ?_, ?_, ?_, ?_⟩
    · simp [h1, ngt]
    · simp [magU, rung, h1]
    · omega
    · omega
  · refine ⟨f.binade + w % f.signWeight % f.binade, w % f.signWeight / f.binade - 1, ?_, ?_, ?_, ?_⟩
    · simp [h1, h', ngt]
    · simp [magU, rung, h1]
    · have := Nat.mod_lt (w % f.signWeight) hb
      omega
    · unfold rung
      exact Nat.le_trans (Nat.mul_le_mul_right _ (Nat.sub_le _ _)) (Nat.div_mul_le_self _ _)
theorem read_fin {w : Nat} (h : fin f w = true) : ∃ m k, f.read w = .number (ngt f w) m (f.leastPlace + (k : Nat)) ∧ m * 2 ^ k = magU f (rung f w) := by
  obtain ⟨m, k, a, b, _, _⟩ := read_fin3 f h
  exact ⟨m, k, a, b⟩

theorem read_nonfin {w : Nat} (hb : f.binade ≤ f.infRung) (h : fin f w = false) : (∃ s, f.read w = .infinity s) ∨ ∃ s t, f.read w = .nan s t := by
  have h' : ¬ rung f w < f.infRung := of_decide_eq_false h
  unfold rung at h'
  unfold Format.read
  have h1 : ¬ (w % f.signWeight < f.binade) := by omega
  simp only [h1, h', if_false]
  split
  · exact .inl ⟨_, rfl⟩
  · exact .inr ⟨_, _, rfl⟩

theorem sub_self_nonfin {w : Nat} (hb : f.binade ≤ f.infRung) (h : fin f w = false) : f.sub w w = none := by
  unfold Format.sub
  rcases read_nonfin f hb h with ⟨s, e⟩ | ⟨s, t, e⟩
  · rw [e]; cases s <;> rfl
  · rw [e]; rfl

theorem sgn_mul (s : Bool) (a b : Nat) : sgn s (a * b) = sgn s a * (b : Int) := by
  unfold sgn; cases s <;> simp [Int.neg_mul]
theorem signed_eq (s : Bool) (m k : Nat) : signed s m k = sgn s (m * 2 ^ k) := by
  unfold signed sgn; cases s <;> simp [Nat.shiftLeft_eq]

theorem compare_mul {a b c : Int} (h : 0 < c) : compare (a * c) (b * c) = compare a b := by
  have h1 : (a * c < b * c) = (a < b) := propext (Int.mul_lt_mul_right h)
  have h2 : (a * c = b * c) = (a = b) := propext ⟨fun e => Int.eq_of_mul_eq_mul_right (by omega) e, fun e => by rw [e]⟩
  simp only [compare, compareOfLessAndEq, h1, h2]

/-- How two finite words stand to each other. -/
theorem order_fin {x y : Nat} (hx : fin f x = true) (hy : fin f y = true) : f.order x y = some (compare (iv f x) (iv f y)) := by
  obtain ⟨m, k, ex, hm⟩ := read_fin f hx
  obtain ⟨n, l, ey, hn⟩ := read_fin f hy
  unfold Format.order
  rw [ex, ey]
  simp only [Datum.order, signed_eq]
  congr 1
  have e1 : iv f x = sgn (ngt f x) (m * 2 ^ (f.leastPlace + (k : Int) - min (f.leastPlace + (k : Int)) (f.leastPlace + (l : Int))).toNat) * ((2 ^ (min k l) : Nat) : Int) := by
    rw [← sgn_mul, Nat.mul_assoc, ← Nat.pow_add]
    unfold iv
    rw [← hm]
    congr 3
    omega
  have e2 : iv f y = sgn (ngt f y) (n * 2 ^ (f.leastPlace + (l : Int) - min (f.leastPlace + (k : Int)) (f.leastPlace + (l : Int))).toNat) * ((2 ^ (min k l) : Nat) : Int) := by
    rw [← sgn_mul, Nat.mul_assoc, ← Nat.pow_add]
    unfold iv
    rw [← hn]
    congr 3
    omega
  rw [e1, e2]
  exact (compare_mul (by have := Nat.two_pow_pos (min k l); omega)).symm

theorem sgn_natAbs (E : Int) : sgn (decide (E < 0)) E.natAbs = E := by
  unfold sgn
  by_cases h : E < 0
  · simp [h]; omega
  · simp [h]; omega

theorem sgn_not (s : Bool) (n : Nat) : sgn (!s) n = -sgn s n := by
  unfold sgn; cases s <;> simp

theorem sum_lem (s t : Bool) (m n k l : Nat) {A B : Int} (hA : sgn s (m * 2 ^ k) = A) (hB : sgn t (n * 2 ^ l) = B) :
    ((Datum.number s m (f.leastPlace + (k : Nat))).sum (.number t n (f.leastPlace + (l : Nat)))).map f.write =
      some (f.word (if A + B = 0 then s && t else decide (A + B < 0)) (rt f 0 (A + B).natAbs)) := by
  simp only [Datum.sum, signed_eq, Option.map_some, Format.write]
  congr 1
  have e1 : A = sgn s (m * 2 ^ (f.leastPlace + (k : Int) - min (f.leastPlace + (k : Int)) (f.leastPlace + (l : Int))).toNat) * ((2 ^ (min k l) : Nat) : Int) := by
    rw [← sgn_mul, Nat.mul_assoc, ← Nat.pow_add, ← hA]
    congr 3
    omega
  have e2 : B = sgn t (n * 2 ^ (f.leastPlace + (l : Int) - min (f.leastPlace + (k : Int)) (f.leastPlace + (l : Int))).toNat) * ((2 ^ (min k l) : Nat) : Int) := by
    rw [← sgn_mul, Nat.mul_assoc, ← Nat.pow_add, ← hB]
    congr 3
    omega
  have e3 : min (f.leastPlace + (k : Int)) (f.leastPlace + (l : Int)) = f.leastPlace + ((min k l : Nat) : Int) := by omega
  rw [e1, e2, ← Int.add_mul]
  generalize sgn s _ + sgn t _ = T
  rw [e3]
  have hp : 0 < ((2 ^ (min k l) : Nat) : Int) := by have := Nat.two_pow_pos (min k l); omega
  have c1 : (T * ((2 ^ (min k l) : Nat) : Int) = 0) = (T = 0) := propext ⟨fun h => by rcases Int.mul_eq_zero.1 h with h | h <;> omega, fun h => by rw [h, Int.zero_mul]⟩
  have c2 : (T * ((2 ^ (min k l) : Nat) : Int) < 0) = (T < 0) := propext ⟨fun h => by
      rcases Int.lt_or_le T 0 with h' | h'
      · exact h'
      · have := Int.mul_nonneg h' (Int.le_of_lt hp); omega, fun h => Int.mul_neg_of_neg_of_pos h hp⟩
  simp only [c1, c2]
  rw [nearest_shift, Int.natAbs_mul, Int.natAbs_natCast]
  have := nearest_eq f (if T = 0 then s && t else decide (T < 0)) (T.natAbs * 2 ^ min k l) 0
  simp only [Int.natCast_zero, Int.sub_zero] at this
  exact this

/-- The sum of two finite words. -/
theorem add_fin {x y : Nat} (hx : fin f x = true) (hy : fin f y = true) :
    f.add x y = some (f.word (if iv f x + iv f y = 0 then ngt f x && ngt f y else decide (iv f x + iv f y < 0)) (rt f 0 (iv f x + iv f y).natAbs)) := by
  obtain ⟨m, k, ex, hm⟩ := read_fin f hx
  obtain ⟨n, l, ey, hn⟩ := read_fin f hy
  unfold Format.add
  rw [ex, ey]
  exact sum_lem f _ _ m n k l (by rw [hm]; rfl) (by rw [hn]; rfl)

/-- The difference. -/
theorem sub_fin {x y : Nat} (hx : fin f x = true) (hy : fin f y = true) :
    f.sub x y = some (f.word (if iv f x - iv f y = 0 then ngt f x && !ngt f y else decide (iv f x - iv f y < 0)) (rt f 0 (iv f x - iv f y).natAbs)) := by
  obtain ⟨m, k, ex, hm⟩ := read_fin f hx
  obtain ⟨n, l, ey, hn⟩ := read_fin f hy
  unfold Format.sub
  rw [ex, ey]
  exact sum_lem f _ (!ngt f y) m n k l (by rw [hm]; rfl) (B := -iv f y) (by rw [hn, sgn_not]; rfl)

/-- The places of a format below 1. -/
def tm : Nat := (-f.leastPlace).toNat

/-- The product. -/
theorem mul_fin {x y : Nat} (hl : f.leastPlace ≤ 0) (hx : fin f x = true) (hy : fin f y = true) :
    f.mul x y = some (f.word (ngt f x ^^ ngt f y) (rt f (tm f) (magU f (rung f x) * magU f (rung f y)))) := by
  obtain ⟨m, k, ex, hm⟩ := read_fin f hx
  obtain ⟨n, l, ey, hn⟩ := read_fin f hy
  unfold Format.mul
  rw [ex, ey]
  simp only [Datum.product, Option.map_some, Format.write]
  congr 1
  have e : f.leastPlace + (k : Int) + (f.leastPlace + (l : Int)) = f.leastPlace - (tm f : Nat) + ((k + l : Nat) : Int) := by unfold tm; omega
  rw [e, nearest_shift, nearest_eq, ← hm, ← hn, Nat.pow_add]
  congr 2
  rw [Nat.mul_assoc, Nat.mul_assoc]
  congr 1
  rw [Nat.mul_left_comm]

end

/-! The value of a rounded number. -/
section
variable (f : Format)

/-- 'E' units of 2^(least place - t), rounded: in units of the least place. -/
def rI (t : Nat) (E : Int) : Int := sgn (decide (E < 0)) (magU f (rt f t E.natAbs))
/-- .. and it is finite. -/
def rF (t : Nat) (E : Int) : Bool := decide (rt f t E.natAbs < f.infRung)

theorem rt_zero (t : Nat) : rt f t 0 = 0 := by simp [rt]
theorem magU_zero : magU f 0 = 0 := by simp [magU, binade_pos f]

theorem sgn_rt (s : Bool) (t : Nat) (E : Int) (hs : E ≠ 0 → s = decide (E < 0)) : sgn s (magU f (rt f t E.natAbs)) = rI f t E := by
  by_cases h : E = 0
  · subst h
    unfold rI
    simp [rt_zero, magU_zero, sgn]
  · rw [hs h]; rfl

theorem rt_lt_sw {t M : Nat} : rt f t M < f.signWeight := Nat.lt_of_le_of_lt (rt_le f) (infRung_lt_sw f)

theorem add_iv {x y : Nat} (hx : fin f x = true) (hy : fin f y = true) :
    ∃ r, f.add x y = some r ∧ fin f r = rF f 0 (iv f x + iv f y) ∧ iv f r = rI f 0 (iv f x + iv f y) := by
  refine ⟨_, add_fin f hx hy, ?_, ?_⟩
  · rw [fin_word f (rt_lt_sw f)]; rfl
  · rw [iv_word f (rt_lt_sw f)]
    exact sgn_rt f _ _ _ (fun h => by rw [if_neg h])

theorem sub_iv {x y : Nat} (hx : fin f x = true) (hy : fin f y = true) :
    ∃ r, f.sub x y = some r ∧ fin f r = rF f 0 (iv f x - iv f y) ∧ iv f r = rI f 0 (iv f x - iv f y) := by
  refine ⟨_, sub_fin f hx hy, ?_, ?_⟩
  · rw [fin_word f (rt_lt_sw f)]; rfl
  · rw [iv_word f (rt_lt_sw f)]
    exact sgn_rt f _ _ _ (fun h => by rw [if_neg h])

theorem iv_mul (x y : Nat) : iv f x * iv f y = sgn (ngt f x ^^ ngt f y) (magU f (rung f x) * magU f (rung f y)) := by
  unfold iv sgn
  cases ngt f x <;> cases ngt f y <;> simp [Int.neg_mul, Int.mul_neg]
theorem natAbs_sgn (s : Bool) (n : Nat) : (sgn s n).natAbs = n := by
  unfold sgn; cases s <;> simp
theorem sgn_lt {s : Bool} {n : Nat} (h : sgn s n ≠ 0) : s = decide (sgn s n < 0) := by
  unfold sgn at *
  cases s
  · simp
  · simp at h ⊢; omega

theorem mul_iv {x y : Nat} (hl : f.leastPlace ≤ 0) (hx : fin f x = true) (hy : fin f y = true) :
    ∃ r, f.mul x y = some r ∧ fin f r = rF f (tm f) (iv f x * iv f y) ∧ iv f r = rI f (tm f) (iv f x * iv f y) := by
  refine ⟨_, mul_fin f hl hx hy, ?_, ?_⟩
  · rw [fin_word f (rt_lt_sw f), iv_mul, rF, natAbs_sgn]
  · rw [iv_word f (rt_lt_sw f), iv_mul, ← sgn_rt f (ngt f x ^^ ngt f y) _ _ (fun h => sgn_lt h), natAbs_sgn]

theorem fin_lt {w : Nat} (h : fin f w = true) : rung f w < f.infRung := of_decide_eq_true h

theorem natAbs_iv (w : Nat) : (iv f w).natAbs = magU f (rung f w) := natAbs_sgn _ _

/-- A finite word rounds to itself. -/
theorem rI_iv {w : Nat} (t : Nat) (h : fin f w = true) : rI f t (iv f w * (2 ^ t : Nat)) = iv f w := by
  have e : iv f w * (2 ^ t : Nat) = sgn (ngt f w) (magU f (rung f w) * 2 ^ t) := by rw [sgn_mul]; rfl
  rw [e, ← sgn_rt f (ngt f w) _ _ (fun h => sgn_lt h), natAbs_sgn, rt_exact f (fin_lt f h)]
  rfl
theorem rI_iv0 {w : Nat} (h : fin f w = true) : rI f 0 (iv f w) = iv f w := by
  have := rI_iv f 0 h
  simpa using this
theorem rF_iv {w : Nat} (t : Nat) (h : fin f w = true) : rF f t (iv f w * (2 ^ t : Nat)) = true := by
  unfold rF
  rw [Int.natAbs_mul, Int.natAbs_natCast, natAbs_iv, rt_exact f (fin_lt f h)]
  exact h

theorem magU_mono {r r' : Nat} (h : r ≤ r') (h' : r' < f.infRung) : magU f r ≤ magU f r' := by
  rcases Nat.lt_or_ge (magU f r') (magU f r) with hlt | hge
  · have := rt_mono f (t := 0) (Nat.le_of_lt hlt)
    have e1 := rt_exact f (t := 0) (r := r) (by omega)
    have e2 := rt_exact f (t := 0) h'
    simp only [Nat.pow_zero, Nat.mul_one] at e1 e2
    rw [e1, e2] at this
    obtain rfl : r = r' := by omega
    omega
  · exact hge

theorem rF_mono {t : Nat} {E E' : Int} (h : E.natAbs ≤ E'.natAbs) (h' : rF f t E' = true) : rF f t E = true :=
  decide_eq_true (Nat.lt_of_le_of_lt (rt_mono f h) (of_decide_eq_true h'))

theorem rI_neg (t : Nat) (E : Int) : rI f t (-E) = -rI f t E := by
  by_cases h : E = 0
  · subst h; simp [rI, rt_zero, magU_zero, sgn]
  · unfold rI
    rw [Int.natAbs_neg]
    have e : decide (-E < 0) = !decide (E < 0) := by
      by_cases hh : E < 0
      · simp [hh]; omega
      · simp [hh]; omega
    rw [e, sgn_not]

theorem rI_nonneg {t : Nat} {E : Int} (h : 0 ≤ E) : rI f t E = (magU f (rt f t E.natAbs) : Int) := by
  unfold rI
  have e : decide (E < 0) = false := by simp; omega
  rw [e]; rfl

theorem rI_mono {t : Nat} {E E' : Int} (h : E ≤ E') (h1 : rF f t E = true) (h2 : rF f t E' = true) : rI f t E ≤ rI f t E' := by
  have f1 : rt f t E.natAbs < f.infRung := of_decide_eq_true h1
  have f2 : rt f t E'.natAbs < f.infRung := of_decide_eq_true h2
  rcases Int.lt_or_le E 0 with hE | hE
  · rcases Int.lt_or_le E' 0 with hE' | hE'
    · have := magU_mono f (rt_mono f (t := t) (show E'.natAbs ≤ E.natAbs by omega)) f1
      unfold rI sgn
      simp [hE, hE']
      omega
    · rw [rI_nonneg f hE']
      unfold rI sgn
      simp only [hE, decide_true, if_true]
      omega
  · have hE' : 0 ≤ E' := by omega
    rw [rI_nonneg f hE, rI_nonneg f hE']
    have := magU_mono f (rt_mono f (t := t) (show E.natAbs ≤ E'.natAbs by omega)) f2
    omega

/-- What is a multiple of the last digit's place is exact. -/
theorem rI_exact {t : Nat} {E : Int} (h : rF f t E = true) (hd : 2 ^ (E.natAbs.log2 - (f.fractionBits + t) + t) ∣ E.natAbs) : rI f t E * (2 ^ t : Nat) = E := by
  by_cases h0 : E = 0
  · subst h0; simp [rI, rt_zero, magU_zero, sgn]
  · have hne : E.natAbs ≠ 0 := by omega
    have f1 : rt f t E.natAbs < f.infRung := of_decide_eq_true h
    unfold rI
    rw [← sgn_mul, magU_rt f hne f1]
    obtain ⟨q, hq⟩ := hd
    rw [Nat.mul_assoc, ← Nat.pow_add]
    have e : rhe E.natAbs (E.natAbs.log2 - (f.fractionBits + t) + t) = q := by
      conv => lhs; arg 1; rw [hq, Nat.mul_comm]
      exact rhe_exact q _
    rw [e, Nat.mul_comm, ← hq, sgn_natAbs]
end

/-! Exact numbers: 'm * 2^e' units. -/
/-- A power of two that nobody reckons. -/
def p2 (n : Nat) : Nat := 2 ^ n
theorem p2_add (a b : Nat) : p2 (a + b) = p2 a * p2 b := Nat.pow_add 2 a b
theorem p2_pos (a : Nat) : 0 < p2 a := Nat.two_pow_pos a

section
variable (f : Format)
theorem nearest_shift_p2 (s : Bool) (M k : Nat) (p : Int) : f.nearest s M (p + k) = f.nearest s (M * p2 k) p := nearest_shift f s M k p
theorem dvd_of {m e t : Nat} (hm : m < 2 ^ (f.fractionBits + 1)) (ht : t ≤ e) : 2 ^ ((m * 2 ^ e).log2 - (f.fractionBits + t) + t) ∣ m * 2 ^ e := by
  by_cases h0 : m = 0
  · simp [h0]
  · have h1 : m.log2 < f.fractionBits + 1 := (Nat.log2_lt h0).2 hm
    rw [log2_mul_two_pow h0]
    exact Nat.dvd_trans (Nat.pow_dvd_pow 2 (by omega)) (Nat.dvd_mul_left _ _)

def isV (w : Nat) (m : Int) (e : Nat) : Prop := fin f w = true ∧ iv f w = m * (p2 e : Int)

/-- No number below '2^N' units is too great. -/
theorem rF_lt {t N : Nat} {E : Int} (hN : rt f t (p2 N) < f.infRung) (h : E.natAbs ≤ p2 N) : rF f t E = true :=
  decide_eq_true (Nat.lt_of_le_of_lt (rt_mono f h) hN)

theorem rI_exact_mul {t e N : Nat} {m : Int} (hm : m.natAbs < 2 ^ (f.fractionBits + 1)) (ht : t ≤ e) (hN : rt f t (p2 N) < f.infRung) (he : f.fractionBits + 1 + e ≤ N) :
    rF f t (m * (p2 e : Int)) = true ∧ rI f t (m * (p2 e : Int)) = m * (p2 (e - t) : Int) := by
  unfold p2
  have hF : rF f t (m * (2 ^ e : Nat)) = true := by
    refine rF_lt f hN ?_
    unfold p2
    rw [Int.natAbs_mul, Int.natAbs_natCast]
    calc m.natAbs * 2 ^ e ≤ 2 ^ (f.fractionBits + 1) * 2 ^ e := Nat.mul_le_mul_right _ (Nat.le_of_lt hm)
      _ = 2 ^ (f.fractionBits + 1 + e) := by rw [← Nat.pow_add]
      _ ≤ 2 ^ N := Nat.pow_le_pow_right (by omega) he
  refine ⟨hF, ?_⟩
  have hx := rI_exact f hF (by rw [Int.natAbs_mul, Int.natAbs_natCast]; exact dvd_of f hm ht)
  have e1 : (2 ^ e : Nat) = 2 ^ (e - t) * 2 ^ t := by rw [← Nat.pow_add]; congr 1; omega
  have e2 : m * ((2 ^ e : Nat) : Int) = m * ((2 ^ (e - t) : Nat) : Int) * ((2 ^ t : Nat) : Int) := by
    rw [e1, Int.natCast_mul, Int.mul_assoc]
  have hp : ((2 ^ t : Nat) : Int) ≠ 0 := by have := Nat.two_pow_pos t; omega
  conv at hx => rhs; rw [e2]
  exact Int.eq_of_mul_eq_mul_right hp hx

theorem isV_add {x y e N : Nat} {m n : Int} (hx : isV f x m e) (hy : isV f y n e) (hb : (m + n).natAbs < 2 ^ (f.fractionBits + 1)) (hN : rt f 0 (p2 N) < f.infRung) (he : f.fractionBits + 1 + e ≤ N) :
    ∃ r, f.add x y = some r ∧ isV f r (m + n) e := by
  obtain ⟨r, h1, h2, h3⟩ := add_iv f hx.1 hy.1
  rw [hx.2, hy.2, ← Int.add_mul] at h2 h3
  obtain ⟨g1, g2⟩ := rI_exact_mul f hb (Nat.zero_le e) hN he
  exact ⟨r, h1, by rw [h2, g1], by rw [h3, g2, Nat.sub_zero]⟩
theorem isV_sub {x y e N : Nat} {m n : Int} (hx : isV f x m e) (hy : isV f y n e) (hb : (m - n).natAbs < 2 ^ (f.fractionBits + 1)) (hN : rt f 0 (p2 N) < f.infRung) (he : f.fractionBits + 1 + e ≤ N) :
    ∃ r, f.sub x y = some r ∧ isV f r (m - n) e := by
  obtain ⟨r, h1, h2, h3⟩ := sub_iv f hx.1 hy.1
  rw [hx.2, hy.2, ← Int.sub_mul] at h2 h3
  obtain ⟨g1, g2⟩ := rI_exact_mul f hb (Nat.zero_le e) hN he
  exact ⟨r, h1, by rw [h2, g1], by rw [h3, g2, Nat.sub_zero]⟩
theorem isV_mul {x y e e' N : Nat} {m n : Int} (hl : f.leastPlace ≤ 0) (hx : isV f x m e) (hy : isV f y n e') (hb : (m * n).natAbs < 2 ^ (f.fractionBits + 1)) (ht : tm f ≤ e + e')
    (hN : rt f (tm f) (p2 N) < f.infRung) (he : f.fractionBits + 1 + (e + e') ≤ N) :
    ∃ r, f.mul x y = some r ∧ isV f r (m * n) (e + e' - tm f) := by
  obtain ⟨r, h1, h2, h3⟩ := mul_iv f hl hx.1 hy.1
  have eq : m * (p2 e : Int) * (n * (p2 e' : Int)) = m * n * (p2 (e + e') : Int) := by
    rw [p2_add, Int.natCast_mul]
    rw [Int.mul_assoc, Int.mul_assoc, Int.mul_left_comm (p2 e : Int)]
  rw [hx.2, hy.2, eq] at h2 h3
  obtain ⟨g1, g2⟩ := rI_exact_mul f hb ht hN he
  exact ⟨r, h1, by rw [h2, g1], by rw [h3, g2]⟩

theorem magU_lt {r : Nat} {q : Nat} (h : r / f.binade ≤ q + 1) : magU f r < p2 (f.fractionBits + 1 + q) := by
  unfold p2
  have hb := binade_pos f
  unfold magU
  split
  · rename_i h1
    exact Nat.lt_of_lt_of_le h1 (by rw [binade_eq]; exact Nat.pow_le_pow_right (by omega) (by omega))
  · have hm := Nat.mod_lt r hb
    have hp : 0 < 2 ^ (r / f.binade - 1) := Nat.two_pow_pos _
    calc (f.binade + r % f.binade) * 2 ^ (r / f.binade - 1) < 2 ^ (f.fractionBits + 1) * 2 ^ (r / f.binade - 1) := by
          refine (Nat.mul_lt_mul_right hp).2 ?_
          rw [Nat.pow_succ, ← binade_eq]; omega
      _ = 2 ^ (f.fractionBits + 1 + (r / f.binade - 1)) := by rw [← Nat.pow_add]
      _ ≤ 2 ^ (f.fractionBits + 1 + q) := Nat.pow_le_pow_right (by omega) (by omega)
end


theorem read_word_fin (f : Format) {s : Bool} {r : Nat} (h : r < f.infRung) : (f.read (f.word s r)).isInfinity = false := by
  have hf : fin f (f.word s r) = true := by rw [fin_word f (Nat.lt_trans h (infRung_lt_sw f))]; exact decide_eq_true h
  obtain ⟨m, k, e, _⟩ := read_fin f hf
  rw [e]; rfl

/-- float64(x) of a finite float32: the same number. -/
theorem conv_up {a : Nat} (h : fin single a = true) : ∃ r, floatToFloatBits .f32 a .f64 = some r ∧ fin double r = true ∧ iv double r = iv single a * (p2 925 : Int) := by
  obtain ⟨m, k, e, hm, hlt, hk⟩ := read_fin3 single h
  have hr : rung single a < single.infRung := fin_lt single h
  have hk' : k ≤ 254 := by
    have h1 : rung single a < 255 * 2 ^ 23 := hr
    have h2 : k * 2 ^ 23 ≤ rung single a := hk
    omega
  have hw : FloatKind.f64.encode (.number (ngt single a) m (single.leastPlace + (k : Nat))) = double.word (ngt single a) (rt double 0 (m * p2 (k + 925))) := by
    show double.nearest (ngt single a) m (single.leastPlace + (k : Nat)) = _
    have e1 : single.leastPlace + (k : Nat) = double.leastPlace - ((0 : Nat) : Int) + ((k + 925 : Nat) : Int) := by
      show (-149 : Int) + (k : Nat) = -1074 - ((0 : Nat) : Int) + ((k + 925 : Nat) : Int)
      omega
    rw [e1, nearest_shift, nearest_eq]
    rfl
  obtain ⟨g1, g2⟩ := rI_exact_mul double (t := 0) (e := k + 925) (N := 2000) (m := (m : Int)) (by
    have h0 : m < 2 ^ 24 := hlt
    simp only [Int.natAbs_natCast]
    show m < 2 ^ 53
    omega) (Nat.zero_le _) (by decide +kernel) (by
      show 53 + (k + 925) ≤ 2000
      omega)
  have g1' : rt double 0 (m * p2 (k + 925)) < double.infRung := by
    have := of_decide_eq_true g1
    rw [Int.natAbs_mul, Int.natAbs_natCast, Int.natAbs_natCast] at this
    exact this
  refine ⟨double.word (ngt single a) (rt double 0 (m * p2 (k + 925))), ?_, ?_, ?_⟩
  · unfold floatToFloatBits
    rw [if_neg (by decide)]
    have hd : FloatKind.f32.decode a = .number (ngt single a) m (single.leastPlace + (k : Nat)) := e
    rw [hd]
    simp only [hw]
    have : (FloatKind.f64.decode (double.word (ngt single a) (rt double 0 (m * p2 (k + 925))))).isInfinity = false := read_word_fin double g1'
    rw [this]; rfl
  · rw [fin_word double (rt_lt_sw double)]; exact decide_eq_true g1'
  · rw [iv_word double (rt_lt_sw double)]
    have hE : rI double 0 ((m : Int) * (p2 (k + 925) : Int)) = (magU double (rt double 0 (m * p2 (k + 925))) : Int) := by
      rw [rI_nonneg double (Int.mul_nonneg (Int.natCast_nonneg _) (Int.natCast_nonneg _)), Int.natAbs_mul, Int.natAbs_natCast, Int.natAbs_natCast]
    rw [hE, Nat.sub_zero, ← Int.natCast_mul] at g2
    have hiv : iv single a = sgn (ngt single a) (m * 2 ^ k) := by rw [hm]; rfl
    rw [hiv, Int.ofNat.inj g2, p2_add, ← Nat.mul_assoc, sgn_mul]
    rfl

/-- float32(x) of a finite float64 that is not too great. -/
theorem conv_down {b : Nat} (h : fin double b = true) (hF : rF single 925 (iv double b) = true) :
    ∃ r, floatToFloatBits .f64 b .f32 = some r ∧ fin single r = true ∧ iv single r = rI single 925 (iv double b) := by
  obtain ⟨m, k, e, hm, hlt, hk⟩ := read_fin3 double h
  have hw : FloatKind.f32.encode (.number (ngt double b) m (double.leastPlace + (k : Nat))) = single.word (ngt double b) (rt single 925 (iv double b).natAbs) := by
    show single.nearest (ngt double b) m (double.leastPlace + (k : Nat)) = _
    have e1 : double.leastPlace + (k : Nat) = single.leastPlace - ((925 : Nat) : Int) + ((k : Nat) : Int) := by
      show (-1074 : Int) + (k : Nat) = -149 - ((925 : Nat) : Int) + ((k : Nat) : Int)
      omega
    rw [e1, nearest_shift, nearest_eq, hm, natAbs_iv]
  have g1' : rt single 925 (iv double b).natAbs < single.infRung := of_decide_eq_true hF
  refine ⟨single.word (ngt double b) (rt single 925 (iv double b).natAbs), ?_, ?_, ?_⟩
  · unfold floatToFloatBits
    rw [if_neg (by decide)]
    have hd : FloatKind.f64.decode b = .number (ngt double b) m (double.leastPlace + (k : Nat)) := e
    rw [hd]
    simp only [hw]
    have : (FloatKind.f32.decode (single.word (ngt double b) (rt single 925 (iv double b).natAbs))).isInfinity = false := read_word_fin single g1'
    rw [this]; rfl
  · rw [fin_word single (rt_lt_sw single)]; exact decide_eq_true g1'
  · rw [iv_word single (rt_lt_sw single)]
    exact sgn_rt single _ _ _ (fun hne => by unfold iv at hne ⊢; exact sgn_lt hne)
end Go.Proofs.Ytcnlgoghnlcndaa
