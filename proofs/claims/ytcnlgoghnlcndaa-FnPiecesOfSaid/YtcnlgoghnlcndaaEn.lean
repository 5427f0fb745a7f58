/- Plain: the energy of a signal, as float64. -/
import Derived.Test.YtcnlgoghnlcndaaW9
import Derived.Test.YtcnlgoghnlcndaaRg
namespace Go.Proofs.Ytcnlgoghnlcndaa
open Ieee

/-- The square of a part, in units of 2^-1074: exact. -/
def sqI (a : Nat) : Int := iv single a * iv single a * (p2 776 : Int)
def enStep (s : Int) (z : Num) : Int := rI double 0 (rI double 0 (s + sqI z.1) + sqI z.2)
def enI (xs : List Num) : Int := xs.foldl enStep 0

theorem rI_le {e : Nat} {E : Int} (he : 53 + e ≤ 2000) (hE : E.natAbs ≤ p2 e) : rF double 0 E = true ∧ (rI double 0 E).natAbs ≤ p2 e := by
  have h := rI_unit (f := double) (t := 0) (e := e) (N := 2000) (E := E) one_le.1 (Nat.zero_le _) rt_double_big he hE
  rw [Nat.sub_zero] at h
  exact h

theorem sq_lt {a : Nat} (h : fin single a = true) : (sqI a).natAbs ≤ p2 1330 := by
  have := prod_lt h h
  have e : p2 1330 = p2 554 * p2 776 := p2_add 554 776
  rw [e]
  exact Nat.le_of_lt this
theorem sq_nonneg (a : Nat) : 0 ≤ sqI a := Int.mul_nonneg (by rw [← Int.natAbs_mul_self']; exact Int.natCast_nonneg _) (Int.natCast_nonneg _)

theorem p2_mono {a b : Nat} (h : a ≤ b) : p2 a ≤ p2 b := Nat.pow_le_pow_right (by omega) h
theorem p2_succ (a : Nat) : p2 (a + 1) = 2 * p2 a := by unfold p2; rw [Nat.pow_succ, Nat.mul_comm]

theorem en_add {s : Int} {a k : Nat} (hs : s.natAbs ≤ p2 (1330 + k)) (ha : fin single a = true) (hk : k ≤ 200) :
    rF double 0 (s + sqI a) = true ∧ (rI double 0 (s + sqI a)).natAbs ≤ p2 (1330 + (k + 1)) := by
  refine rI_le (e := 1330 + (k + 1)) (by omega) ?_
  have h1 := sq_lt ha
  have h2 : p2 1330 ≤ p2 (1330 + k) := p2_mono (by omega)
  have h3 : p2 (1330 + (k + 1)) = 2 * p2 (1330 + k) := p2_succ _
  omega

theorem en_bound {xs : List Num} (h : xs.all finN = true) : ∀ k, k ≤ xs.length → k ≤ 50 → (enI (xs.take k)).natAbs ≤ p2 (1330 + 2 * k) := by
  intro k
  induction k with
  | zero => intro _ _; simp [enI]
  | succ k ih =>
    intro hk hk5
    have hk' : k < xs.length := by omega
    have h0 := ih (by omega) (by omega)
    have hx : finN xs[k] = true := List.all_eq_true.1 h _ (List.getElem_mem hk')
    obtain ⟨f1, f2⟩ := finC_parts hx
    unfold enI at *
    rw [List.take_succ_eq_append_getElem hk', List.foldl_append]
    simp only [List.foldl_cons, List.foldl_nil]
    unfold enStep
    have h1 := (en_add h0 f1 (by omega)).2
    exact (en_add h1 f2 (by omega)).2

/-- Noughts have no energy. -/
theorem enStep_zero {s : Int} (h : ∃ w, fin double w = true ∧ iv double w = s) : enStep s (0, 0) = s := by
  obtain ⟨w, h1, rfl⟩ := h
  have e : sqI 0 = 0 := by unfold sqI; rw [iv_zero]; simp
  unfold enStep
  simp only [e, Int.add_zero]
  rw [rI_iv0 double h1, rI_iv0 double h1]
theorem en_noughts {xs : List Num} (h : ∃ w, fin double w = true ∧ iv double w = enI xs) : ∀ n, enI (xs ++ List.replicate n (0, 0)) = enI xs := by
  intro n
  induction n with
  | zero => simp
  | succ n ih =>
    rw [List.replicate_succ', ← List.append_assoc]
    unfold enI at *
    rw [List.foldl_append]
    simp only [List.foldl_cons, List.foldl_nil]
    rw [ih]
    exact enStep_zero h
end Go.Proofs.Ytcnlgoghnlcndaa
