/- Plain: the sums of a transform; walks: plusProduct, turnedSum, l2Sum. -/
import Derived.Test.YtcnlgoghnlcndaaNq
import Derived.Test.YtcnlgoghnlcndaaRo
namespace Go.Proofs.Ytcnlgoghnlcndaa
open Go.RowKit Ieee

/-- Signals of which no sum is too great. -/
def Calm (xs : List Num) : Prop := xs.length ≤ 16 ∧ ∃ ms : List Nat, ms.length = xs.length ∧ (∀ i, i < xs.length → Nm (xs.getD i (0, 0)) (ms.getD i 0)) ∧ ms.sum ≤ 16000000

/-- The sum of the first k products, with turns by 'f n'. -/
def sumK (xs : List Num) (f : Nat → Nat) : Nat → Num
  | 0 => (0, 0)
  | k + 1 => addN (sumK xs f k) (mulN (xs.getD k (0, 0)) (tn (f k)))

theorem Nm_zero : Nm (0, 0) 0 := by unfold Nm; decide +kernel
theorem sum_take_succ (ms : List Nat) (k : Nat) (hk : k < ms.length) : (ms.take (k + 1)).sum = (ms.take k).sum + ms.getD k 0 := by
  rw [List.take_succ_eq_append_getElem hk, List.sum_append]
  simp [List.getD, hk]
theorem sum_take_le (ms : List Nat) (k : Nat) : (ms.take k).sum ≤ ms.sum := by
  have := List.take_append_drop k ms
  have h2 : (ms.take k ++ ms.drop k).sum = ms.sum := by rw [this]
  rw [List.sum_append] at h2
  omega

/-- What one step of the sum makes. -/
structure StepOk (s z t : Num) : Prop where
  mul : cmul32 z.1 z.2 t.1 t.2 = some (mulN z t)
  fmul : finN (mulN z t) = true
  add1 : floatBits .add .f32 s.1 (mulN z t).1 = some (addN s (mulN z t)).1
  add2 : floatBits .add .f32 s.2 (mulN z t).2 = some (addN s (mulN z t)).2
  fadd : finN (addN s (mulN z t)) = true

theorem sumK_ok {xs : List Num} (f : Nat → Nat) (hf : ∀ n, f n < 16) (ms : List Nat) (hl : ms.length = xs.length) (hn : xs.length ≤ 16) (hm : ∀ i, i < xs.length → Nm (xs.getD i (0, 0)) (ms.getD i 0)) (hs : ms.sum ≤ 16000000) :
    ∀ k, k ≤ xs.length → Nm (sumK xs f k) ((ms.take k).sum + 10 * k) := by
  intro k
  induction k with
  | zero => intro _; exact Nm_zero.mono (by omega)
  | succ k ih =>
    intro hk
    have h0 := ih (by omega)
    have h1 := hm k (by omega)
    have h2 := sum_take_le ms (k + 1)
    have h3 := sum_take_succ ms k (by omega)
    have hp := (mul_Nm h1 (hf k) (by omega)).2.1
    have ha := (add_Nm h0 hp (by omega)).2.2.1
    exact ha.mono (by omega)

theorem sumK_step {xs : List Num} (h : Calm xs) (f : Nat → Nat) (hf : ∀ n, f n < 16) {k : Nat} (hk : k < xs.length) : StepOk (sumK xs f k) (xs.getD k (0, 0)) (tn (f k)) := by
  obtain ⟨hn, ms, hl, hm, hs⟩ := h
  have h0 := sumK_ok f hf ms hl hn hm hs k (by omega)
  have h1 := hm k hk
  have h2 := sum_take_le ms (k + 1)
  have h3 := sum_take_succ ms k (by omega)
  have hp := mul_Nm h1 (hf k) (by omega)
  have ha := add_Nm h0 hp.2.1 (by omega)
  exact ⟨hp.1, hp.2.1.fin, ha.1, ha.2.1, ha.2.2.1.fin⟩

theorem sumK_fin {xs : List Num} (h : Calm xs) (f : Nat → Nat) (hf : ∀ n, f n < 16) {k : Nat} (hk : k ≤ xs.length) : finN (sumK xs f k) = true := by
  obtain ⟨hn, ms, hl, hm, hs⟩ := h
  exact (sumK_ok f hf ms hl hn hm hs k hk).fin

theorem cadd_run (w : World) (t : TypeId) {a b p : Num} (h1 : floatBits .add .f32 a.1 b.1 = some p.1) (h2 : floatBits .add .f32 a.2 b.2 = some p.2) :
    (binOp .add t (.complex .f32 a.1 a.2) (.complex .f32 b.1 b.2)).run Try.prog w = .ok (.complex .f32 p.1 p.2) w :=
  run_complex_sum w .add (.inl rfl) t .f32 a.1 a.2 b.1 b.2 p.1 p.2 (by simp [cSumBits, h1, h2])
theorem csub_run (w : World) (t : TypeId) {a b p : Num} (h1 : floatBits .sub .f32 a.1 b.1 = some p.1) (h2 : floatBits .sub .f32 a.2 b.2 = some p.2) :
    (binOp .sub t (.complex .f32 a.1 a.2) (.complex .f32 b.1 b.2)).run Try.prog w = .ok (.complex .f32 p.1 p.2) w :=
  run_complex_sum w .sub (.inr rfl) t .f32 a.1 a.2 b.1 b.2 p.1 p.2 (by simp [cSumBits, h1, h2])

set_option maxHeartbeats 1000000 in
theorem plus_any (s z t : Num) (w : World) (h : StepOk s z t) :
    Calls Try.prog 131 #[C s, C z, C t] w fun e w' => e = .returned (.tuple #[C (addN s (mulN z t)), .bool true]) ∧ w = w' := by
  have g1 := fun W : World => run_cmul32 (P := Try.prog) W 34 z.1 z.2 t.1 t.2 (mulN z t).1 (mulN z t).2 h.mul
  have g2 := fun W : World => cadd_run W 34 h.add1 h.add2
  have F1 := Lib.hid (finC_parts h.fmul)
  have F2 := Lib.hid (finC_parts h.fadd)
  clear h
  unfold C
  obtain ⟨s1, s2⟩ := s
  obtain ⟨z1, z2⟩ := z
  obtain ⟨t1, t2⟩ := t
  simp only at g1 g2
  generalize mulN (z1, z2) (t1, t2) = p at *
  generalize addN (s1, s2) p = q at *
  go_enter Try.func131, Try.ntmps131
  go_wp2_with fail
  refine (finite_yes _ _ _ F1.out.1 F1.out.2).mono ?_
  rintro e w' ⟨rfl, rfl⟩
  go_wp2_with fail
  refine (finite_yes _ _ _ F2.out.1 F2.out.2).mono ?_
  rintro e w' ⟨rfl, rfl⟩
  go_wp2_with fail
  go_ret2
  exact ⟨rfl, rfl⟩
end Go.Proofs.Ytcnlgoghnlcndaa
