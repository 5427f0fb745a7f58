/- Plain: how long a filter rings. -/
import Derived.Test.YtcnlgoghnlcndaaW4
namespace Go.Proofs.Ytcnlgoghnlcndaa
open Ieee

/-- A number of length at most 1 on the first axis. -/
def Unit1 (z : (Nat × Nat)) : Prop := fin single z.1 = true ∧ fin single z.2 = true ∧ (iv single z.1).natAbs ≤ p2 149 ∧ iv single z.2 = 0
theorem one_le : (1 : Int).natAbs < 2 ^ (double.fractionBits + 1) ∧ (1 : Int).natAbs < 2 ^ (single.fractionBits + 1) := by decide +kernel

theorem prod_unit {x y : Int} (hx : x.natAbs ≤ p2 149) (hy : y.natAbs ≤ p2 149) : (x * y * (p2 776 : Int)).natAbs ≤ p2 1074 := by
  rw [Int.natAbs_mul, Int.natAbs_mul, Int.natAbs_natCast]
  have e : p2 1074 = p2 149 * p2 149 * p2 776 := by rw [← p2_add, ← p2_add]
  rw [e]
  exact Nat.mul_le_mul_right _ (Nat.mul_le_mul hx hy)

theorem rI_unit {f : Format} {t e N : Nat} {E : Int} (h1 : (1 : Int).natAbs < 2 ^ (f.fractionBits + 1)) (ht : t ≤ e) (hN : rt f t (p2 N) < f.infRung) (he : f.fractionBits + 1 + e ≤ N)
    (hE : E.natAbs ≤ p2 e) : rF f t E = true ∧ (rI f t E).natAbs ≤ p2 (e - t) := by
  obtain ⟨g1, g2⟩ := rI_exact_mul f (m := 1) h1 ht hN he
  have hE1 : ((1 : Int) * (p2 e : Int)).natAbs = p2 e := by simp
  have hF : rF f t E = true := rF_mono f (by rw [hE1]; exact hE) g1
  refine ⟨hF, ?_⟩
  unfold rI
  rw [natAbs_sgn]
  have h5 := rt_mono f (t := t) (show E.natAbs ≤ ((1 : Int) * (p2 e : Int)).natAbs by rw [hE1]; exact hE)
  have h6 := magU_mono f h5 (of_decide_eq_true g1)
  have h7 : magU f (rt f t ((1 : Int) * (p2 e : Int)).natAbs) = p2 (e - t) := by
    rw [rI_nonneg f (by simp), Int.one_mul, Int.one_mul] at g2
    rw [Int.one_mul]
    exact Int.ofNat.inj g2
  rw [h7] at h6
  exact h6

/-- The product of two such numbers is one, and its first part hangs on theirs alone. -/
theorem unit_mul {a y : (Nat × Nat)} (ha : Unit1 a) (hy : Unit1 y) :
    ∃ z, cmul32 a.1 a.2 y.1 y.2 = some z ∧ Unit1 z ∧ iv single z.1 = rI single 925 (rI double 0 (iv single a.1 * iv single y.1 * (p2 776 : Int))) := by
  obtain ⟨a1, a2, a3, a4⟩ := ha
  obtain ⟨y1, y2, y3, y4⟩ := hy
  have hp := prod_unit a3 y3
  obtain ⟨d1, d2⟩ := rI_unit (f := double) (t := 0) (e := 1074) (N := 2000) one_le.1 (Nat.zero_le _) rt_double_big (by decide) hp
  obtain ⟨s1, s2⟩ := rI_unit (f := single) (t := 925) (e := 1074) (N := 1200) one_le.2 (by decide) rt_single_big (by decide) d2
  have ec : cre a.1 a.2 y.1 y.2 = rI double 0 (iv single a.1 * iv single y.1 * (p2 776 : Int)) := by
    unfold cre; rw [a4, y4, Int.mul_zero, Int.zero_mul, Int.sub_zero]
  have ei : cim a.1 a.2 y.1 y.2 = 0 := by
    unfold cim; rw [a4, y4, Int.mul_zero, Int.zero_mul, Int.zero_mul, Int.zero_mul, Int.add_zero]
    simp [rI, rt_zero, magU_zero, sgn]
  have f0 : rF single 925 0 = true := by unfold rF; simp only [Int.natAbs_zero, rt_zero]; decide +kernel
  obtain ⟨re, im, h1, h2, h3, h4, h5⟩ := cmul32_some a1 a2 y1 y2 (by rw [ec]; exact s1) (by rw [ei]; exact f0)
  refine ⟨(re, im), h1, ⟨h2, h3, ?_, ?_⟩, ?_⟩
  · rw [h4, ec]; exact s2
  · rw [h5, ei]; simp [rI, rt_zero, magU_zero, sgn]
  · rw [h4, ec]

theorem milli_unit_all : ∀ k : Nat, k < 1999 → (iv single (milliW ((k : Int) - 999))).natAbs ≤ p2 149 := by decide +kernel
theorem milli_unit {m : Int} (h1 : -999 ≤ m) (h2 : m ≤ 999) : Unit1 (milliW m, milliW 0) := by
  obtain ⟨_, _, _, f1, _⟩ := milli_some (n := m) (k := 1) (by omega) (by omega)
  have z0 : fin single (milliW 0) = true ∧ iv single (milliW 0) = 0 := by decide +kernel
  refine ⟨f1, z0.1, ?_, z0.2⟩
  have := milli_unit_all (m + 999).toNat (by omega)
  have e : (((m + 999).toNat : Nat) : Int) - 999 = m := by omega
  rw [e] at this
  exact this

/-- One step of the ringing. -/
def rstep (a : (Nat × Nat)) (fl : Bool) (y : (Nat × Nat)) : (Nat × Nat) :=
  let z := (cmul32 a.1 a.2 y.1 y.2).getD (0, 0)
  if fl = true then flC z.1 z.2 else z
/-- How many numbers follow y: at most 'n'. -/
def rc (a : (Nat × Nat)) (fl : Bool) : Nat → (Nat × Nat) → Nat
  | 0, _ => 0
  | n + 1, y => if (isZ (rstep a fl y).1 && isZ (rstep a fl y).2) = true then 1 else 1 + rc a fl n (rstep a fl y)

theorem flP_unit {a : Nat} (_h : fin single a = true) (h2 : (iv single a).natAbs ≤ p2 149) : (iv single (flP a)).natAbs ≤ p2 149 := by
  unfold flP; split
  · rw [iv_zero]; simp
  · exact h2
theorem unit_fl {z : (Nat × Nat)} (h : Unit1 z) : Unit1 (flC z.1 z.2) := by
  obtain ⟨h1, h2, h3, h4⟩ := h
  have hf : finC z.1 z.2 = true := by unfold finC; rw [h1, h2]; rfl
  unfold flC
  rw [if_pos hf]
  refine ⟨flP_fin h1, flP_fin h2, flP_unit h1 h3, ?_⟩
  show iv single (flP z.2) = 0
  unfold flP; split
  · exact iv_zero
  · exact h4
theorem unit_step {a y : (Nat × Nat)} (fl : Bool) (ha : Unit1 a) (hy : Unit1 y) : Unit1 (rstep a fl y) := by
  obtain ⟨z, h1, h2, _⟩ := unit_mul ha hy
  unfold rstep
  rw [h1]
  cases fl
  · exact h2
  · exact unit_fl h2

theorem rc_pos (a : (Nat × Nat)) (fl : Bool) (n : Nat) (y : (Nat × Nat)) : 1 ≤ rc a fl (n + 1) y := by
  unfold rc; split <;> omega

/-- Flushed it rings no longer. -/
theorem rc_le {a : (Nat × Nat)} (ha : Unit1 a) : ∀ n (y y' : (Nat × Nat)), Unit1 y → Unit1 y' → iv single y.1 = iv single y'.1 → rc a true n y ≤ rc a false n y' := by
  intro n
  induction n with
  | zero => intro y y' _ _ _; exact Nat.le_refl _
  | succ n ih =>
    intro y y' hy hy' he
    obtain ⟨z, h1, h2, h3⟩ := unit_mul ha hy
    obtain ⟨z', h1', h2', h3'⟩ := unit_mul ha hy'
    have hz : iv single z.1 = iv single z'.1 := by rw [h3, h3', he]
    have s1 : rstep a true y = flC z.1 z.2 := by unfold rstep; rw [h1]; rfl
    have s2 : rstep a false y' = z' := by unfold rstep; rw [h1']; rfl
    have u1 := unit_step true ha hy
    have u2 := unit_step false ha hy'
    unfold rc
    by_cases c1 : (isZ (rstep a true y).1 && isZ (rstep a true y).2) = true
    · rw [if_pos c1]
      split <;> omega
    · rw [if_neg c1]
      -- the first part is not flushed
      have hf : finC z.1 z.2 = true := by unfold finC; rw [h2.1, h2.2.1]; rfl
      have e1 : (rstep a true y).1 = flP z.1 := by rw [s1]; unfold flC; rw [if_pos hf]
      have z2 : isZ (rstep a true y).2 = true := decide_eq_true u1.2.2.2
      have nz : isZ (rstep a true y).1 = false := by
        rcases Bool.eq_false_or_eq_true (isZ (rstep a true y).1) with h | h
        · rw [h, z2] at c1; exact absurd rfl c1
        · exact h
      have hlow : lowB z.1 = false := by
        rcases Bool.eq_false_or_eq_true (lowB z.1) with h | h
        · rw [e1, flP_yes h] at nz
          have : isZ 0 = true := by decide +kernel
          rw [this] at nz; cases nz
        · exact h
      have e2 : (rstep a true y).1 = z.1 := by rw [e1, flP_no hlow]
      have hiv : iv single (rstep a true y).1 = iv single (rstep a false y').1 := by rw [e2, s2, hz]
      have c2 : ¬ (isZ (rstep a false y').1 && isZ (rstep a false y').2) = true := by
        have : isZ (rstep a false y').1 = false := by
          unfold isZ at nz ⊢
          rw [← hiv]; exact nz
        rw [this]; simp
      rw [if_neg c2]
      have := ih _ _ u1 u2 hiv
      omega

def one0 : (Nat × Nat) := (1065353216, 0)
theorem one_unit : Unit1 one0 := by unfold Unit1 one0; decide +kernel
/-- How long it rings. -/
def rings (m : Int) (fl : Bool) : Int := if m < -999 ∨ 999 < m then -1 else rc (milliW m, milliW 0) fl 2000 one0
theorem rings_le (m : Int) : rings m true ≤ rings m false := by
  unfold rings
  split
  · exact Int.le_refl _
  · have := rc_le (milli_unit (m := m) (by omega) (by omega)) 2000 one0 one0 one_unit one_unit rfl
    omega
theorem rings_500 : rings 500 true = 127 := by decide +kernel
theorem rings_m500 : rings (-500) false = 150 := by decide +kernel
theorem rings_0 : rings 0 false = 1 := by decide +kernel
end Go.Proofs.Ytcnlgoghnlcndaa
