/- Plain: sums of powers, and shares. -/
import Derived.Test.YtcnlgoghnlcndaaGr
import Derived.Test.YtcnlgoghnlcndaaPx
import Derived.Test.YtcnlgoghnlcndaaDv
namespace Go.Proofs.Ytcnlgoghnlcndaa
open Ieee

theorem pv_rng {xs : List Num} (h : Calm xs) (k : Nat) : 0 ≤ pv xs k ∧ pv xs k ≤ (p2 1331 : Int) := by
  have hf := dftN_fin h k
  obtain ⟨_, _, _, _, s, _, _, _, _, _, _, e, _, hv⟩ := pow_vars hf
  have ep : pv xs k = rI double 0 (sqI (dftN xs k).1 + sqI (dftN xs k).2) := by
    unfold pv powF
    rw [e]; exact hv
  obtain ⟨f1, f2⟩ := finC_parts hf
  have h1 := sq_lt f1
  have h2 := sq_lt f2
  have n1 := sq_nonneg (dftN xs k).1
  have n2 := sq_nonneg (dftN xs k).2
  have h3 : p2 1331 = 2 * p2 1330 := p2_succ _
  obtain ⟨g1, g2⟩ := rI_le (e := 1331) (E := sqI (dftN xs k).1 + sqI (dftN xs k).2) (by omega) (by omega)
  have z := rI_mono double (t := 0) (E := 0) (E' := sqI (dftN xs k).1 + sqI (dftN xs k).2) (by omega) (by decide +kernel) g1
  have z0 : rI double 0 0 = 0 := by decide +kernel
  rw [z0] at z
  rw [ep]
  omega

def sm (xs : List Num) : Nat → Int
  | 0 => 0
  | k + 1 => rI double 0 (sm xs k + pv xs k)
def smW (xs : List Num) : Nat → Nat
  | 0 => 0
  | k + 1 => (floatBits .add .f64 (smW xs k) (powF xs k)).getD 0
def SmOk (xs : List Num) (k s : Nat) : Prop := fin double s = true ∧ iv double s = sm xs k ∧ 0 ≤ sm xs k ∧ sm xs k ≤ (p2 (1331 + k) : Int) ∧ s = smW xs k
theorem SmOk.zero (xs : List Num) : SmOk xs 0 0 := ⟨by decide +kernel, by show iv double 0 = 0; decide +kernel, Int.le_refl _, Int.natCast_nonneg _, rfl⟩
theorem sm_add {xs : List Num} (h : Calm xs) {k : Nat} (hk : k ≤ 100) (h0 : 0 ≤ sm xs k ∧ sm xs k ≤ (p2 (1331 + k) : Int)) : rF double 0 (sm xs k + pv xs k) = true ∧ 0 ≤ sm xs (k + 1) ∧ sm xs (k + 1) ≤ (p2 (1331 + (k + 1)) : Int) := by
  have hp := pv_rng h k
  have h3 : p2 (1331 + (k + 1)) = 2 * p2 (1331 + k) := p2_succ _
  have h4 : p2 1331 ≤ p2 (1331 + k) := p2_mono (by omega)
  obtain ⟨g1, g2⟩ := rI_le (e := 1331 + (k + 1)) (E := sm xs k + pv xs k) (by omega) (by omega)
  have z := rI_mono double (t := 0) (E := 0) (E' := sm xs k + pv xs k) (by omega) (by decide +kernel) g1
  have z0 : rI double 0 0 = 0 := by decide +kernel
  rw [z0] at z
  have e : sm xs (k + 1) = rI double 0 (sm xs k + pv xs k) := rfl
  rw [e]
  exact ⟨g1, z, by omega⟩
theorem SmOk.step {xs : List Num} (h : Calm xs) {k s : Nat} (hk : k ≤ 100) (hs : SmOk xs k s) : ∃ r, floatBits .add .f64 s (powF xs k) = some r ∧ SmOk xs (k + 1) r := by
  obtain ⟨h1, h2, h3, h4, h5⟩ := hs
  obtain ⟨r, r1, r2, r3⟩ := add_iv double h1 (powF_fin h k)
  have e : iv double (powF xs k) = pv xs k := rfl
  rw [h2, e] at r2 r3
  obtain ⟨g1, g2, g3⟩ := sm_add h hk ⟨h3, h4⟩
  have e5 : r = smW xs (k + 1) := by
    show r = (floatBits .add .f64 (smW xs k) (powF xs k)).getD 0
    rw [← h5]
    show r = (double.add s (powF xs k)).getD 0
    rw [r1]
    rfl
  exact ⟨r, r1, by rw [r2, g1], by rw [r3]; rfl, g2, g3, e5⟩
theorem SmOk.exists {xs : List Num} (h : Calm xs) : ∀ k, k ≤ 100 → ∃ s, SmOk xs k s := by
  intro k
  induction k with
  | zero => intro _; exact ⟨0, SmOk.zero xs⟩
  | succ k ih =>
    intro hk
    obtain ⟨s, hs⟩ := ih (by omega)
    obtain ⟨r, _, hr⟩ := SmOk.step h (by omega) hs
    exact ⟨r, hr⟩
theorem sm_up {xs : List Num} (h : Calm xs) {k : Nat} (hk : k ≤ 100) : sm xs k ≤ sm xs (k + 1) ∧ pv xs k ≤ sm xs (k + 1) := by
  obtain ⟨s, h1, h2, h3⟩ := SmOk.exists h k hk
  obtain ⟨g1, _⟩ := sm_add h hk ⟨h3.1, h3.2.1⟩
  have hp := pv_rng h k
  have e : sm xs (k + 1) = rI double 0 (sm xs k + pv xs k) := rfl
  have a := rI_mono double (t := 0) (E := sm xs k) (E' := sm xs k + pv xs k) (by omega) (by have := rF_iv double 0 h1; simpa [h2] using this) g1
  have b := rI_mono double (t := 0) (E := pv xs k) (E' := sm xs k + pv xs k) (by omega) (by have := rF_iv double 0 (powF_fin h k); simpa [pv] using this) g1
  rw [← h2, rI_iv0 double h1] at a
  have b' : rI double 0 (pv xs k) = pv xs k := rI_iv0 double (powF_fin h k)
  rw [b'] at b
  rw [e]
  rw [h2] at a
  exact ⟨a, b⟩
theorem sm_ge {xs : List Num} (h : Calm xs) {j : Nat} : ∀ k, k ≤ 100 → j < k → pv xs j ≤ sm xs k := by
  intro k
  induction k with
  | zero => intro _ hj; omega
  | succ k ih =>
    intro hk hj
    have hu := sm_up h (k := k) (by omega)
    by_cases hjk : j = k
    · subst hjk; exact hu.2
    · have := ih (by omega) (by omega)
      omega

theorem ru_low {P E q r : Nat} (hd : E * q + r = P) (hm : r < E) (hl : E * 70368744177664 ≤ P) : P ≤ (q + 1) * E ∧ (q + 1) * E * 70368744177664 ≤ P * (70368744177664 + 1) := by
  have e : (q + 1) * E = E * q + E := by rw [Nat.add_mul, Nat.mul_comm, Nat.one_mul]
  rw [e]
  generalize E * q = X at *
  omega
theorem round_up {P : Nat} (hP : P ≤ p2 1331) : ∃ m e : Nat, m ≤ 2 ^ 47 ∧ e ≤ 1331 ∧ P ≤ m * p2 e ∧ m * p2 e * 2 ^ 46 ≤ P * (2 ^ 46 + 1) := by
  by_cases h : P < 2 ^ 47
  · exact ⟨P, 0, by omega, by omega, by unfold p2; omega, by unfold p2; omega⟩
  · have h0 : P ≠ 0 := by omega
    have hl := Nat.log2_self_le h0
    have hu : P < 2 ^ (P.log2 + 1) := Nat.lt_log2_self
    have h47 : 47 ≤ P.log2 := (Nat.le_log2 h0).2 (by omega)
    have hle : P.log2 ≤ 1331 := by
      rcases Nat.lt_or_ge 1331 P.log2 with hlt | hge
      · exfalso
        have h5 : p2 1332 ≤ p2 P.log2 := p2_mono hlt
        have h6 : p2 1332 = 2 * p2 1331 := p2_succ 1331
        have h7 : p2 P.log2 ≤ P := hl
        have h8 := p2_pos 1331
        omega
      · exact hge
    obtain ⟨e, he⟩ : ∃ e, P.log2 = e + 46 := ⟨P.log2 - 46, by omega⟩
    rw [he] at hl hu hle
    have e1 : 2 ^ (e + 46) = 2 ^ e * 2 ^ 46 := Nat.pow_add ..
    have e2 : 2 ^ (e + 46 + 1) = 2 ^ e * 2 ^ 47 := by rw [Nat.add_assoc, Nat.pow_add]
    rw [e1] at hl
    rw [e2] at hu
    have hp : 0 < 2 ^ e := Nat.two_pow_pos e
    have hd := Nat.div_add_mod P (2 ^ e)
    have hm := Nat.mod_lt P hp
    have hq : P / 2 ^ e < 2 ^ 47 := (Nat.div_lt_iff_lt_mul hp).2 (by rw [Nat.mul_comm]; exact hu)
    refine ⟨P / 2 ^ e + 1, e, by omega, by omega, ?_, ?_⟩
    · exact (ru_low hd hm hl).1
    · exact (ru_low hd hm hl).2

theorem sm_top {xs : List Num} (h : Calm xs) {n : Nat} (hn : n ≤ 16) {P : Nat} (hP : P ≤ p2 1331) (hle : ∀ j, j < n → pv xs j ≤ (P : Int)) : sm xs n * 2 ^ 46 ≤ (n * P : Nat) * (2 ^ 46 + 1) := by
  obtain ⟨m, e, hm, he, h1, h2⟩ := round_up hP
  have key : ∀ k, k ≤ n → sm xs k ≤ ((k * m : Nat) : Int) * (p2 e : Int) := by
    intro k
    induction k with
    | zero => intro _; simp [sm]
    | succ k ih =>
      intro hk
      have h0 := ih (by omega)
      have hp := hle k (by omega)
      obtain ⟨s, _, _, h3⟩ := SmOk.exists h k (by omega)
      obtain ⟨g1, _⟩ := sm_add h (by omega) ⟨h3.1, h3.2.1⟩
      have hkm : (k + 1) * m < 2 ^ 53 := by
        have := Nat.mul_le_mul (show k + 1 ≤ 16 by omega) hm
        omega
      obtain ⟨r1, r2⟩ := rI_exact_mul double (t := 0) (e := e) (N := 2000) (m := (((k + 1) * m : Nat) : Int)) (by rw [Int.natAbs_natCast]; exact hkm) (Nat.zero_le _) rt_double_big (by show 52 + 1 + e ≤ 2000; omega)
      have hle2 : sm xs k + pv xs k ≤ (((k + 1) * m : Nat) : Int) * (p2 e : Int) := by
        have e3 : (((k + 1) * m : Nat) : Int) * (p2 e : Int) = ((k * m : Nat) : Int) * (p2 e : Int) + ((m * p2 e : Nat) : Int) := by
          rw [Nat.add_mul, Nat.one_mul, Int.natCast_add, Int.add_mul, Int.natCast_mul m]
        rw [e3]
        omega
      have := rI_mono double (t := 0) hle2 g1 r1
      rw [r2] at this
      exact this
  have h4 := key n (Nat.le_refl _)
  have h5 : n * (m * p2 e * 2 ^ 46) ≤ n * (P * (2 ^ 46 + 1)) := Nat.mul_le_mul_left _ h2
  have h6 : ((n * m : Nat) : Int) * (p2 e : Int) = ((n * (m * p2 e) : Nat) : Int) := by
    rw [← Int.natCast_mul, Nat.mul_assoc]
  rw [h6] at h4
  generalize m * p2 e = M at *
  have h7 : n * (M * 2 ^ 46) = n * M * 2 ^ 46 := by rw [Nat.mul_assoc]
  have h8 : n * (P * (2 ^ 46 + 1)) = n * P * (2 ^ 46 + 1) := by rw [Nat.mul_assoc]
  rw [h7, h8] at h5
  omega
end Go.Proofs.Ytcnlgoghnlcndaa
