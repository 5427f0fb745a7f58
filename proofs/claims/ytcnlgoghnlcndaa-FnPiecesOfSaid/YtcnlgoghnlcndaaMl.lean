/- Plain: thousandths. float64(n) / 1000 as float32. -/
import Derived.Test.YtcnlgoghnlcndaaDv
import Derived.Test.YtcnlgoghnlcndaaCm
namespace Go.Proofs.Ytcnlgoghnlcndaa
open Ieee

theorem rt_double_big : rt double 0 (p2 2000) < double.infRung := by decide +kernel
theorem rt_double_big3 : rt double 3000 (p2 5000) < double.infRung := by decide +kernel
theorem rt_single_big : rt single 925 (p2 1200) < single.infRung := by decide +kernel
theorem rt_single_big0 : rt single 0 (p2 270) < single.infRung := by decide +kernel
theorem rt_single_bigt : rt single (tm single) (p2 420) < single.infRung := by decide +kernel
theorem rt_double_bigt : rt double (tm double) (p2 3000) < double.infRung := by decide +kernel

/-- float64(n): exact. -/
theorem ofInt_isV {n : Int} (h : n.natAbs < 2 ^ 53) : isV double (floatOfInt .f64 n) n 1074 ∧ (n ≠ 0 → ngt double (floatOfInt .f64 n) = decide (n < 0)) := by
  have e : floatOfInt .f64 n = double.word (decide (n < 0)) (rt double 0 (n.natAbs * p2 1074)) := by
    show double.nearest (decide (n < 0)) n.natAbs 0 = _
    have e1 : (0 : Int) = double.leastPlace - ((0 : Nat) : Int) + ((1074 : Nat) : Int) := by decide
    rw [e1, nearest_shift_p2, nearest_eq]
  obtain ⟨g1, g2⟩ := rI_exact_mul double (t := 0) (e := 1074) (N := 2000) (m := n) h (Nat.zero_le _) rt_double_big (by decide)
  have hE : (n * (p2 1074 : Int)).natAbs = n.natAbs * p2 1074 := by rw [Int.natAbs_mul, Int.natAbs_natCast]
  have hp := p2_pos 1074
  have hs : n * (p2 1074 : Int) ≠ 0 → decide (n < 0) = decide (n * (p2 1074 : Int) < 0) := by
    intro _
    rw [decide_eq_decide]
    constructor
    · intro hn; exact Int.mul_neg_of_neg_of_pos hn (by omega)
    · intro hn
      rcases Int.lt_or_le n 0 with h1 | h1
      · exact h1
      · have := Int.mul_nonneg h1 (Int.natCast_nonneg (p2 1074)); omega
  refine ⟨⟨?_, ?_⟩, ?_⟩
  · rw [e, fin_word double (rt_lt_sw double), ← hE]; exact g1
  · rw [e, iv_word double (rt_lt_sw double), ← hE, sgn_rt double _ _ _ hs, g2]
  · intro _
    rw [e, ngt_word double (rt_lt_sw double)]

def c1000 : Nat := 4652007308841189376
theorem c1000_isV : isV double c1000 1000 1074 := by
  have := (ofInt_isV (n := 1000) (by decide)).1
  have e : floatOfInt .f64 1000 = c1000 := by decide +kernel
  rwa [e] at this
theorem c1000_pos : ngt double c1000 = false := by decide +kernel

theorem natAbs_isV {f : Format} {w : Nat} {m : Int} {e : Nat} (h : isV f w m e) : (iv f w).natAbs = m.natAbs * p2 e := by
  rw [h.2, Int.natAbs_mul, Int.natAbs_natCast]

/-- n thousandths as float64: near n/1000. -/
theorem thou {n : Int} {k : Nat} (hn : n.natAbs ≤ 1000 * k) (hk : k ≤ 10000) :
    ∃ q, floatBits .quo .f64 (floatOfInt .f64 n) c1000 = some q ∧ fin double q = true ∧ (iv double q).natAbs ≤ (k + 1) * p2 1074 ∧
      (∀ m : Int, n = 1000 * m → iv double q = m * p2 1074) := by
  obtain ⟨hx, hsx⟩ := ofInt_isV (n := n) (by omega)
  have hy := c1000_isV
  have hA := natAbs_isV hx
  have hB := natAbs_isV hy
  have hp := p2_pos 1074
  have hy0 : iv double c1000 ≠ 0 := by rw [hy.2]; intro h; rcases Int.mul_eq_zero.1 h with h | h <;> omega
  obtain ⟨Q, u, h1, h2, h3, h4, h5, h6⟩ := div_T hx.1 hy.1 hy0
  rw [hA, hB] at h2 h3
  have hp4 := p2_pos 4074
  have ep : p2 4074 = p2 1074 * p2 3000 := p2_add 1074 3000
  have hb : (1000 : Int).natAbs * p2 1074 = 1000 * p2 1074 := by rw [show (1000 : Int).natAbs = 1000 from rfl]
  have hxz : n = 0 ↔ iv double (floatOfInt .f64 n) = 0 := by
    rw [hx.2]
    constructor
    · intro h; rw [h, Int.zero_mul]
    · intro h; rcases Int.mul_eq_zero.1 h with h | h <;> omega
  -- Q is at most (k+1) ones
  have hQ : Q ≤ (k + 1) * p2 4074 := by
    by_cases hz : n = 0
    · rw [h5 (hxz.1 hz)]; exact Nat.zero_le _
    · have h4' := h4 (fun h => hz (hxz.2 h))
      have hu : 2 ^ u ≤ Q := Nat.le_trans (Nat.le_mul_of_pos_left _ (by decide)) h4'
      -- Q * B ≤ A * P + B * 2^u, A ≤ k * B
      have hAB : n.natAbs * p2 1074 ≤ k * (1000 * p2 1074) := by
        rw [← Nat.mul_assoc, Nat.mul_comm k 1000]
        exact Nat.mul_le_mul_right _ hn
      rw [hb] at h2
      have h7 : Q * (1000 * p2 1074) ≤ (k * p2 4074 + 2 ^ u) * (1000 * p2 1074) := by
        refine Nat.le_trans h2 ?_
        rw [Nat.add_mul]
        refine Nat.add_le_add ?_ (Nat.le_of_eq (Nat.mul_comm _ _))
        calc n.natAbs * p2 1074 * p2 4074 ≤ k * (1000 * p2 1074) * p2 4074 := Nat.mul_le_mul_right _ hAB
          _ = k * p2 4074 * (1000 * p2 1074) := by rw [Nat.mul_right_comm]
      have h8 : Q ≤ k * p2 4074 + 2 ^ u := Nat.le_of_mul_le_mul_right h7 (by omega)
      -- 2^54 * 2^u ≤ Q
      have h9 : 2 ^ u ≤ p2 4074 := by
        have : 2 ^ 54 * 2 ^ u ≤ k * p2 4074 + 2 ^ u := Nat.le_trans h4' h8
        have h10 : k * p2 4074 ≤ 10000 * p2 4074 := Nat.mul_le_mul_right _ hk
        generalize 2 ^ u = U at *
        generalize p2 4074 = P at *
        omega
      rw [Nat.add_mul, Nat.one_mul]
      omega
  have hbig : (k + 1) * p2 4074 ≤ p2 5000 := by
    have e5 : p2 5000 = p2 926 * p2 4074 := p2_add 926 4074
    rw [e5]
    refine Nat.mul_le_mul_right _ ?_
    refine Nat.le_trans (by omega : k + 1 ≤ 10001) ?_
    decide +kernel
  have hF : rt double 3000 Q < double.infRung := Nat.lt_of_le_of_lt (rt_mono double (Nat.le_trans hQ hbig)) rt_double_big3
  have hval : ∀ s : Bool, iv double (double.word s (rt double 3000 Q)) = sgn s (magU double (rt double 3000 Q)) := fun s => iv_word double (rt_lt_sw double)
  have hfin : ∀ s : Bool, fin double (double.word s (rt double 3000 Q)) = true := fun s => by rw [fin_word double (rt_lt_sw double)]; exact decide_eq_true hF
  refine ⟨_, h1, hfin _, ?_, ?_⟩
  · rw [hval, natAbs_sgn]
    have h11 := rt_mono double (t := 3000) hQ
    -- (k+1) is exact
    obtain ⟨g1, g2⟩ := rI_exact_mul double (t := 3000) (e := 4074) (N := 5000) (m := ((k + 1 : Nat) : Int)) (by
      rw [Int.natAbs_natCast]; show k + 1 < 2 ^ 53; omega) (by decide) rt_double_big3 (by decide)
    have hE : (((k + 1 : Nat) : Int) * (p2 4074 : Int)).natAbs = (k + 1) * p2 4074 := by rw [Int.natAbs_mul, Int.natAbs_natCast, Int.natAbs_natCast]
    have g3 : magU double (rt double 3000 ((k + 1) * p2 4074)) = (k + 1) * p2 1074 := by
      have h12 : rI double 3000 (((k + 1 : Nat) : Int) * (p2 4074 : Int)) = (magU double (rt double 3000 ((k + 1) * p2 4074)) : Int) := by
        rw [rI_nonneg double (Int.mul_nonneg (Int.natCast_nonneg _) (Int.natCast_nonneg _)), hE]
      rw [h12, ← Int.natCast_mul] at g2
      exact Int.ofNat.inj g2
    rw [← g3]
    have g1' : rt double 3000 ((k + 1) * p2 4074) < double.infRung := by
      have := of_decide_eq_true g1
      rwa [hE] at this
    exact magU_mono double h11 g1'
  · intro m hm
    have hc : (iv double (floatOfInt .f64 n)).natAbs = m.natAbs * (iv double c1000).natAbs := by
      rw [hA, hB, hm, Int.natAbs_mul, Nat.mul_comm (1000 : Int).natAbs, Nat.mul_assoc]
    have hQm := h6 m.natAbs hc (by omega)
    rw [hval]
    obtain ⟨g1, g2⟩ := rI_exact_mul double (t := 3000) (e := 4074) (N := 5000) (m := m) (by show m.natAbs < 2 ^ 53; omega) (by decide) rt_double_big3 (by decide)
    have hE : (m * (p2 4074 : Int)).natAbs = Q := by rw [Int.natAbs_mul, Int.natAbs_natCast, hQm]
    have g4 : (ngt double (floatOfInt .f64 n) ^^ ngt double c1000) = ngt double (floatOfInt .f64 n) := by rw [c1000_pos]; simp
    rw [g4, ← hE, sgn_rt double _ _ _ ?_, g2]
    intro hne
    have hm0 : n ≠ 0 := by
      rintro rfl
      have : m = 0 := by omega
      exact hne (by rw [this, Int.zero_mul])
    rw [hsx hm0, decide_eq_decide]
    constructor
    · intro h; exact Int.mul_neg_of_neg_of_pos (by omega) (by omega)
    · intro h
      rcases Int.lt_or_le n 0 with h1 | h1
      · exact h1
      · have := Int.mul_nonneg (show 0 ≤ m by omega) (Int.natCast_nonneg (p2 4074)); omega

def milliW (n : Int) : Nat := ((floatBits .quo .f64 (floatOfInt .f64 n) c1000).bind (floatToFloatBits .f64 · .f32)).getD 0

/-- .. and as float32. -/
theorem milli_some {n : Int} {k : Nat} (hn : n.natAbs ≤ 1000 * k) (hk : k ≤ 10000) :
    ∃ q, floatBits .quo .f64 (floatOfInt .f64 n) c1000 = some q ∧ floatToFloatBits .f64 q .f32 = some (milliW n) ∧ fin single (milliW n) = true ∧
      (iv single (milliW n)).natAbs ≤ (k + 1) * p2 149 ∧ (∀ m : Int, n = 1000 * m → iv single (milliW n) = m * p2 149) := by
  obtain ⟨q, h1, h2, h3, h4⟩ := thou hn hk
  have e : p2 1074 = p2 149 * p2 925 := p2_add 149 925
  obtain ⟨g1, g2⟩ := rI_exact_mul single (t := 925) (e := 1074) (N := 1200) (m := ((k + 1 : Nat) : Int)) (by
    rw [Int.natAbs_natCast]; show k + 1 < 2 ^ 24; omega) (by decide) rt_single_big (by decide)
  have hE : (((k + 1 : Nat) : Int) * (p2 1074 : Int)).natAbs = (k + 1) * p2 1074 := by rw [Int.natAbs_mul, Int.natAbs_natCast, Int.natAbs_natCast]
  have hF : rF single 925 (iv double q) = true := rF_mono single (by rw [hE]; exact h3) g1
  obtain ⟨r, r1, r2, r3⟩ := conv_down h2 hF
  have hr : milliW n = r := by unfold milliW; rw [h1]; simp [r1]
  rw [hr]
  refine ⟨q, h1, r1, r2, ?_, ?_⟩
  · rw [r3]
    unfold rI
    rw [natAbs_sgn]
    have h5 := rt_mono single (t := 925) (show (iv double q).natAbs ≤ (((k + 1 : Nat) : Int) * (p2 1074 : Int)).natAbs by rw [hE]; exact h3)
    have h6 := magU_mono single h5 (of_decide_eq_true g1)
    have h7 : magU single (rt single 925 (((k + 1 : Nat) : Int) * (p2 1074 : Int)).natAbs) = (k + 1) * p2 149 := by
      rw [rI_nonneg single (Int.mul_nonneg (Int.natCast_nonneg _) (Int.natCast_nonneg _)), ← Int.natCast_mul] at g2
      exact Int.ofNat.inj g2
    rw [h7] at h6
    exact h6
  · intro m hm
    rw [r3, h4 m hm]
    exact (rI_exact_mul single (t := 925) (e := 1074) (N := 1200) (m := m) (by show m.natAbs < 2 ^ 24; omega) (by decide) rt_single_big (by decide)).2
end Go.Proofs.Ytcnlgoghnlcndaa
