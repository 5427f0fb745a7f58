import Derived.Test.YtcnlgoghnlcndaaFl
namespace Go.Proofs.Ytcnlgoghnlcndaa
open Ieee

/-! Quotients of float64. -/
theorem nearest_T (f : Format) (s : Bool) (M T : Nat) (p : Int) (h : f.leastPlace - T ≤ p) :
    f.nearest s M p = f.word s (rt f T (M * 2 ^ (p - (f.leastPlace - T)).toNat)) := by
  have e : p = f.leastPlace - (T : Nat) + (((p - (f.leastPlace - T)).toNat : Nat) : Int) := by omega
  conv => lhs; rw [e]
  rw [nearest_shift, nearest_eq]

theorem log2_eq_mul {m k A : Nat} (h : m * 2 ^ k = A) (h0 : m ≠ 0) : A.log2 = m.log2 + k := by
  rw [← h, log2_mul_two_pow h0]

/-- The quotient of two finite float64 numbers: what is rounded is 'Q' units of 2^(-1074-3000), near A/B. -/
theorem div_T {x y : Nat} (hx : fin double x = true) (hy : fin double y = true) (h0 : iv double y ≠ 0) :
    ∃ Q u : Nat, double.div x y = some (double.word (ngt double x ^^ ngt double y) (rt double 3000 Q)) ∧
      Q * (iv double y).natAbs ≤ (iv double x).natAbs * p2 4074 + (iv double y).natAbs * 2 ^ u ∧
      (iv double x).natAbs * p2 4074 ≤ Q * (iv double y).natAbs + (iv double y).natAbs * 2 ^ u ∧
      (iv double x ≠ 0 → 2 ^ 54 * 2 ^ u ≤ Q) ∧ (iv double x = 0 → Q = 0) ∧
      (∀ c : Nat, (iv double x).natAbs = c * (iv double y).natAbs → c ≤ 2 ^ 54 → Q = c * p2 4074) := by
  obtain ⟨m, k, ex, hm, hmlt, hk⟩ := read_fin3 double hx
  obtain ⟨n, l, ey, hn, hnlt, hl⟩ := read_fin3 double hy
  have hrx : rung double x < 2047 * 2 ^ 52 := fin_lt double hx
  have hry : rung double y < 2047 * 2 ^ 52 := fin_lt double hy
  have hk' : k ≤ 2046 := by
    have h2 : k * 2 ^ 52 ≤ rung double x := hk
    omega
  have hl' : l ≤ 2046 := by
    have h2 : l * 2 ^ 52 ≤ rung double y := hl
    omega
  have hn0 : n ≠ 0 := by
    rintro rfl
    apply h0
    unfold iv
    rw [← hn]
    simp [sgn]
  have hlogn : n.log2 < 53 := (Nat.log2_lt hn0).2 hnlt
  have hmore : 54 + n.log2 - m.log2 ≤ 107 := by omega
  have hmore1 : 1 ≤ 54 + n.log2 - m.log2 := by
    have : m.log2 < 54 := by
      by_cases hm0 : m = 0
      · subst hm0; decide
      · exact Nat.lt_of_lt_of_le ((Nat.log2_lt hm0).2 hmlt) (by decide)
    omega
  rw [natAbs_iv, natAbs_iv, ← hm, ← hn]
  have hu : ∃ u : Nat, u = 1074 + 3000 + k - l - (54 + n.log2 - m.log2) - 1 := ⟨_, rfl⟩
  obtain ⟨u, hu⟩ := hu
  have hu' : u + l + (54 + n.log2 - m.log2) + 1 = 4074 + k := by omega
  have hdiv : double.div x y = some (double.word (ngt double x ^^ ngt double y)
      (rt double 3000 ((2 * ((m <<< (54 + n.log2 - m.log2)) / n) + ((m <<< (54 + n.log2 - m.log2)) % n != 0).toNat) * 2 ^ u))) := by
    unfold Format.div
    rw [ex, ey]
    simp only [Datum.quotient, hn0, if_false, Option.map_some, Format.write]
    congr 1
    have e2 : double.fractionBits + 2 = 54 := rfl
    rw [e2]
    rw [nearest_T double _ _ 3000 _ (by show (-1074 : Int) - (3000 : Nat) ≤ _; omega)]
    congr 3
    show 2 ^ _ = 2 ^ _
    congr 1
    have : double.leastPlace = -1074 := rfl
    rw [this]
    omega
  generalize hM : 54 + n.log2 - m.log2 = more at *
  rw [Nat.shiftLeft_eq] at hdiv
  generalize hD : m * 2 ^ more = D at *
  have hdm := Nat.div_add_mod D n
  have hmod := Nat.mod_lt D (Nat.pos_of_ne_zero hn0)
  have hp : 0 < 2 ^ (u + l) := Nat.two_pow_pos _
  have e4 : m * 2 ^ k * p2 4074 = 2 * D * 2 ^ (u + l) := by
    have : m * 2 ^ k * p2 4074 = m * p2 (4074 + k) := by
      rw [p2_add]
      show m * p2 k * p2 4074 = _
      rw [Nat.mul_assoc, Nat.mul_comm (p2 k)]
    rw [this, ← hu', ← hD]
    have e5 : u + l + more + 1 = more + (u + l) + 1 := by omega
    rw [e5]
    unfold p2
    rw [Nat.pow_succ, Nat.pow_add]
    generalize 2 ^ more = X
    generalize 2 ^ (u + l) = Y
    simp only [Nat.mul_assoc, Nat.mul_left_comm, Nat.mul_comm]
  have e6 : n * 2 ^ l * 2 ^ u = n * 2 ^ (u + l) := by
    rw [Nat.mul_assoc, ← Nat.pow_add, Nat.add_comm l u]
  have e7 : ∀ M, M * 2 ^ u * (n * 2 ^ l) = M * n * 2 ^ (u + l) := by
    intro M
    rw [Nat.mul_mul_mul_comm, ← Nat.pow_add]
  have hb1 : (2 * (D / n) + (D % n != 0).toNat) * n ≤ 2 * D + n := by
    rw [Nat.add_mul]
    have : (D % n != 0).toNat * n ≤ n := by
      rcases Bool.eq_false_or_eq_true (D % n != 0) with h | h <;> rw [h] <;> simp
    have h3 : 2 * (D / n) * n = 2 * (n * (D / n)) := by rw [Nat.mul_assoc, Nat.mul_comm (D / n)]
    omega
  have hb2 : 2 * D ≤ (2 * (D / n) + (D % n != 0).toNat) * n + n := by
    rw [Nat.add_mul]
    have h3 : 2 * (D / n) * n = 2 * (n * (D / n)) := by rw [Nat.mul_assoc, Nat.mul_comm (D / n)]
    by_cases h : D % n = 0
    · simp [h]; omega
    · have : (D % n != 0) = true := by simp [h]
      rw [this]
      simp only [Bool.toNat_true, Nat.one_mul]
      omega
  refine ⟨_, u, hdiv, ?_, ?_, ?_, ?_, ?_⟩
  · rw [e7, e4, e6, ← Nat.add_mul]
    exact Nat.mul_le_mul_right _ hb1
  · rw [e7, e4, e6, ← Nat.add_mul]
    exact Nat.mul_le_mul_right _ hb2
  · intro hne
    have hm0 : m ≠ 0 := by
      rintro rfl
      apply hne
      unfold iv
      rw [← hm]
      simp [sgn]
    refine Nat.mul_le_mul_right _ ?_
    have h1 : 2 ^ 53 * n ≤ D := by
      have a1 : n < 2 ^ (n.log2 + 1) := Nat.lt_log2_self
      have a2 : 2 ^ m.log2 ≤ m := Nat.log2_self_le hm0
      have a3 : 2 ^ (m.log2 + more) ≤ D := by rw [← hD, Nat.pow_add]; exact Nat.mul_le_mul_right _ a2
      have a4 : 53 + (n.log2 + 1) ≤ m.log2 + more := by omega
      calc 2 ^ 53 * n ≤ 2 ^ 53 * 2 ^ (n.log2 + 1) := Nat.mul_le_mul_left _ (Nat.le_of_lt a1)
        _ = 2 ^ (53 + (n.log2 + 1)) := by rw [← Nat.pow_add]
        _ ≤ 2 ^ (m.log2 + more) := Nat.pow_le_pow_right (by omega) a4
        _ ≤ D := a3
    have h2 : 2 ^ 53 ≤ D / n := (Nat.le_div_iff_mul_le (Nat.pos_of_ne_zero hn0)).2 h1
    omega
  · intro hz
    have hm0 : m = 0 := by
      have : magU double (rung double x) = 0 := by rw [← natAbs_iv, hz]; rfl
      rw [← hm] at this
      rcases Nat.mul_eq_zero.1 this with h | h
      · exact h
      · exact absurd h (by have := Nat.two_pow_pos k; omega)
    subst hm0
    rw [Nat.zero_mul] at hD
    subst hD
    simp
  · intro c hc hcb
    have hnD : n ∣ D ∧ 2 * (D / n) * 2 ^ u = c * p2 4074 := by
      by_cases hm0 : m = 0
      · subst hm0
        rw [Nat.zero_mul] at hD hc
        subst hD
        have : c = 0 := by
          rcases Nat.mul_eq_zero.1 hc.symm with h | h
          · exact h
          · exfalso
            rcases Nat.mul_eq_zero.1 h with h | h
            · exact hn0 h
            · have := Nat.two_pow_pos l; omega
        subst this
        simp
      · have hc0 : c ≠ 0 := by
          rintro rfl
          rw [Nat.zero_mul] at hc
          rcases Nat.mul_eq_zero.1 hc with h | h
          · exact hm0 h
          · have := Nat.two_pow_pos k; omega
        -- more + l ≥ k
        have hlogA : (m * 2 ^ k).log2 = m.log2 + k := log2_mul_two_pow hm0 k
        have hge : k ≤ more + l := by
          have h1 : m * 2 ^ k < 2 ^ (54 + (n.log2 + 1) + l) := by
            rw [hc]
            calc c * (n * 2 ^ l) ≤ 2 ^ 54 * (n * 2 ^ l) := Nat.mul_le_mul_right _ hcb
              _ < 2 ^ 54 * (2 ^ (n.log2 + 1) * 2 ^ l) := by
                refine (Nat.mul_lt_mul_left (Nat.two_pow_pos _)).2 ((Nat.mul_lt_mul_right (Nat.two_pow_pos _)).2 Nat.lt_log2_self)
              _ = 2 ^ (54 + (n.log2 + 1) + l) := by rw [← Nat.pow_add, ← Nat.pow_add, Nat.add_assoc 54]
          have hA0 : m * 2 ^ k ≠ 0 := Nat.mul_ne_zero hm0 (by have := Nat.two_pow_pos k; omega)
          have h2 := (Nat.log2_lt hA0).2 h1
          rw [hlogA] at h2
          omega
        have hDn : D = c * 2 ^ (more + l - k) * n := by
          have h1 : D * 2 ^ k = c * 2 ^ (more + l - k) * n * 2 ^ k := by
            rw [← hD]
            calc m * 2 ^ more * 2 ^ k = m * 2 ^ k * 2 ^ more := by rw [Nat.mul_right_comm]
              _ = c * (n * 2 ^ l) * 2 ^ more := by rw [hc]
              _ = c * n * 2 ^ (more + l) := by rw [Nat.mul_assoc, Nat.mul_assoc, ← Nat.pow_add, Nat.add_comm l more, Nat.mul_assoc]
              _ = c * n * (2 ^ (more + l - k) * 2 ^ k) := by rw [← Nat.pow_add, Nat.sub_add_cancel hge]
              _ = c * 2 ^ (more + l - k) * n * 2 ^ k := by
                generalize 2 ^ (more + l - k) = X
                generalize 2 ^ k = Y
                simp only [Nat.mul_left_comm, Nat.mul_comm]
          exact Nat.eq_of_mul_eq_mul_right (Nat.two_pow_pos k) h1
        have hq : D / n = c * 2 ^ (more + l - k) := by rw [hDn, Nat.mul_div_cancel _ (Nat.pos_of_ne_zero hn0)]
        refine ⟨⟨_, by rw [hDn, Nat.mul_comm]⟩, ?_⟩
        rw [hq]
        have e9 : p2 4074 = 2 * 2 ^ (more + l - k) * 2 ^ u := by
          have e10 : 4074 = 1 + (more + l - k) + u := by omega
          have e11 : p2 4074 = p2 (1 + (more + l - k) + u) := congrArg p2 e10
          rw [e11, p2_add, p2_add]
          rfl
        rw [e9]
        generalize 2 ^ (more + l - k) = X
        generalize 2 ^ u = Y
        simp only [Nat.mul_assoc, Nat.mul_left_comm]
    obtain ⟨h1, h2⟩ := hnD
    have h3 : D % n = 0 := Nat.mod_eq_zero_of_dvd h1
    rw [h3]
    simpa using h2
end Go.Proofs.Ytcnlgoghnlcndaa
