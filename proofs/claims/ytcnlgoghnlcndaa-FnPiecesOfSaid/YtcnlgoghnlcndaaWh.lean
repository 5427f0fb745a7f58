/- Walks: whole numbers (l1Round, MilliOf, whole, wholeSignal): what they answer is quiet, and 'true' means whole. -/
import Derived.Test.YtcnlgoghnlcndaaT1
import Derived.Test.YtcnlgoghnlcndaaRg
namespace Go.Proofs.Ytcnlgoghnlcndaa
open Go.RowKit Ieee

/-- int(x) of any float64: some number. -/
theorem conv_any (w : World) (b : Nat) : ∃ (n : Int) (w' : World), (convert 42 3 (.float .f64 b)).run Try.prog w = .ok (.int .i64 n) w' ∧ ∃ d, w.drewN d = w' := by
  by_cases h : ∃ n, floatToIntVal .f64 b .i64 = some n
  · obtain ⟨n, hn⟩ := h
    exact ⟨n, w, run_convert_float_int w 42 3 .f64 .i64 b n (by kernel_rfl) Try.underlying3 hn, 0, rfl⟩
  · have hnone : floatToIntVal .f64 b .i64 = none := by
      cases hh : floatToIntVal .f64 b .i64 with
      | none => rfl
      | some n => exact absurd ⟨n, hh⟩ h
    unfold floatToIntVal at hnone
    rcases Bool.eq_false_or_eq_true (Question.floatToInt .f64 b .i64).forced with hf | hf
    · refine ⟨IntKind.i64.wrap 0, w, ?_, 0, rfl⟩
      split at hnone
      · rename_i m he
        split at hnone
        · cases hnone
        · rename_i hb
          have hb' : ¬ (IntKind.i64.min ≤ m ∧ m ≤ 9223372036854775807) := hb
          simp [convert, run_underlying Try.underlying42, run_underlying Try.underlying3, Conv.floatToInt, he, hb', hf]
      · rename_i he
        simp [convert, run_underlying Try.underlying42, run_underlying Try.underlying3, Conv.floatToInt, he, hf]
    · refine ⟨IntKind.i64.wrap ((Question.floatToInt .f64 b .i64).cut (w.tape w.drawn (.floatToInt .f64 b .i64))), w.drew, ?_, 1, rfl⟩
      split at hnone
      · rename_i m he
        split at hnone
        · cases hnone
        · rename_i hb
          have hb' : ¬ (IntKind.i64.min ≤ m ∧ m ≤ 9223372036854775807) := hb
          simp [convert, run_underlying Try.underlying42, run_underlying Try.underlying3, Conv.floatToInt, he, hb', hf]
      · rename_i he
        simp [convert, run_underlying Try.underlying42, run_underlying Try.underlying3, Conv.floatToInt, he, hf]

theorem p2_le {a b : Nat} (h : a ≤ b) : p2 a ≤ p2 b := Nat.pow_le_pow_right (by omega) h
theorem fin_half : fin double 4602678819172646912 = true := by decide +kernel
theorem neg_fin64 (a : Nat) : fin double (Op.negFloat .f64 a) = fin double a := by
  have e : rung double (Op.negFloat .f64 a) = rung double a := by
    unfold rung Op.negFloat
    show (a ^^^ 2 ^ 63) % 2 ^ 63 = a % 2 ^ 63
    rw [Nat.xor_mod_two_pow]; simp
  unfold fin; rw [e]

/-- x * 1000, and half more. -/
theorem round_vars {a : Nat} (h : fin single a = true) : ∃ x y s t : Nat, floatToFloatBits .f32 a .f64 = some x ∧ floatBits .mul .f64 x c1000 = some y ∧ floatBits .add .f64 (Op.negFloat .f64 y) 4602678819172646912 = some s ∧ floatBits .add .f64 y 4602678819172646912 = some t := by
  obtain ⟨x, ex, gx, vx⟩ := conv_up h
  obtain ⟨y, y1, y2, y3⟩ := mul_iv double (by decide) gx c1000_isV.1
  have hb := natAbs_iv_lt h
  have hE : (iv double x * iv double c1000).natAbs ≤ p2 3000 := by
    rw [vx, c1000_isV.2, Int.natAbs_mul, Int.natAbs_mul, Int.natAbs_mul, Int.natAbs_natCast, Int.natAbs_natCast]
    have e1 : (1000 : Int).natAbs ≤ p2 10 := by decide
    have h1 : (iv single a).natAbs * p2 925 * ((1000 : Int).natAbs * p2 1074) ≤ p2 277 * p2 925 * (p2 10 * p2 1074) := Nat.mul_le_mul (Nat.mul_le_mul_right _ (Nat.le_of_lt hb)) (Nat.mul_le_mul_right _ e1)
    have e3 : p2 277 * p2 925 * (p2 10 * p2 1074) = p2 2286 := by rw [← p2_add, ← p2_add, ← p2_add]
    rw [e3] at h1
    exact Nat.le_trans h1 (p2_le (by decide))
  have hy : fin double y = true := by rw [y2]; exact rF_lt double rt_double_bigt hE
  obtain ⟨s, s1, _, _⟩ := add_iv double (by rw [neg_fin64, hy] : fin double (Op.negFloat .f64 y) = true) fin_half
  obtain ⟨t, t1, _, _⟩ := add_iv double hy fin_half
  exact ⟨x, y, s, t, ex, y1, s1, t1⟩

def SomeInt (w : World) (e : Ending) (w' : World) : Prop := ∃ n : Int, e = .returned (.int .i64 n) ∧ ∃ d, w.drewN d = w'

set_option maxHeartbeats 1000000 in
theorem l1Round_any (a : Nat) (w : World) (h : fin single a = true) : Calls Try.prog 134 #[.float .f32 a] w (SomeInt w) := by
  obtain ⟨x, y, s, t, c1, c2, c3, c4⟩ := round_vars h
  have k1 := fun W : World => run_convert_float_float (P := Try.prog) W 43 42 .f32 .f64 a x some43 Try.underlying42 c1
  have k2 := fun W : World => run_float_arith (P := Try.prog) W .mul 42 .f64 x c1000 y c2
  have k3 := fun W : World => run_float_arith (P := Try.prog) W .add 42 .f64 _ _ s c3
  have k4 := fun W : World => run_float_arith (P := Try.prog) W .add 42 .f64 _ _ t c4
  unfold c1000 at k2
  obtain ⟨n, w1, hn, d, hd⟩ := conv_any w s
  obtain ⟨m, w2, hm, d2, hd2⟩ := conv_any w t
  have HD := Lib.hid hd
  have HD2 := Lib.hid hd2
  clear h c1 c2 c3 c4 hd hd2
  rcases Bool.eq_false_or_eq_true (FloatKind.f64.format.order y 0 == some .lt) with hl | hl
  · go_enter Try.func134, Try.ntmps134
    go_wp2_with fail
    go_ret
    exact ⟨_, rfl, d, HD.out⟩
  · go_enter Try.func134, Try.ntmps134
    go_wp2_with fail
    go_ret
    exact ⟨_, rfl, d2, HD2.out⟩

def SomeBool (w : World) (e : Ending) (w' : World) : Prop := ∃ c : Bool, e = .returned (.bool c) ∧ w = w'
set_option maxHeartbeats 1000000 in
theorem l1Small_any (a : Nat) (w : World) : Calls Try.prog 133 #[.float .f32 a] w (SomeBool w) := by
  rcases Bool.eq_false_or_eq_true (FloatKind.f32.format.order a 3332128768 == some .gt) with hl | hl
  · go_enter Try.func133, Try.ntmps133
    go_wp2_with fail
    go_ret
    exact ⟨_, rfl, rfl⟩
  · go_enter Try.func133, Try.ntmps133
    go_wp2_with fail
    go_ret
    exact ⟨_, rfl, rfl⟩
end Go.Proofs.Ytcnlgoghnlcndaa
