/- Walks: Milli (impl and spec), alive, sameBits, samePart. -/
import Derived.Test.YtcnlgoghnlcndaaW3
import Derived.Test.YtcnlgoghnlcndaaMl
namespace Go.Proofs.Ytcnlgoghnlcndaa
open Go.RowKit Ieee

/-- What Milli gives. -/
def inMilli (n m : Int) : Bool := decide (-9999999 ≤ n) && decide (n ≤ 9999999) && decide (-9999999 ≤ m) && decide (m ≤ 9999999)

theorem some103 : (Try.prog.underlying 103).isSome = true := by kernel_rfl

set_option maxHeartbeats 1000000 in
theorem Milli_in (n m : Int) (w : World) (h1 : -9999999 ≤ n) (h2 : n ≤ 9999999) (h3 : -9999999 ≤ m) (h4 : m ≤ 9999999) :
    Calls Try.prog 87 #[.int .i64 n, .int .i64 m] w fun e w' => e = .returned (.complex .f32 (milliW n) (milliW m)) ∧ w = w' := by
  obtain ⟨q, q1, q2, _⟩ := milli_some (n := n) (k := 10000) (by omega) (by omega)
  obtain ⟨r, r1, r2, _⟩ := milli_some (n := m) (k := 10000) (by omega) (by omega)
  have g1 := fun W : World => run_float_arith (P := Try.prog) W .quo 42 .f64 (floatOfInt .f64 n) c1000 q q1
  have g2 := fun W : World => run_float_arith (P := Try.prog) W .quo 42 .f64 (floatOfInt .f64 m) c1000 r r1
  have g3 := fun W : World => run_convert_complex (P := Try.prog) W 103 34 .f64 .f32 q r (milliW n) (milliW m) some103 Try.underlying34 (by simp [cConvBits, q2, r2])
  clear q1 q2 r1 r2
  unfold c1000 at g1 g2
  go_enter Try.func87, Try.ntmps87
  go_wp2_with fail
  go_ret
  exact ⟨rfl, rfl⟩

theorem milliW_1500 : milliW 1500 = 1069547520 := by decide +kernel
theorem milliW_0 : milliW 0 = 0 := by decide +kernel

set_option maxHeartbeats 400000 in
theorem alive_any (w : World) : Calls Try.prog 23 #[] w fun e w' => e = .returned (.bool true) ∧ w = w' := by
  have h1 : (FloatKind.f32.format.order (milliW 1500) 1069547520 == some .eq) = true := by rw [milliW_1500]; decide +kernel
  have h2 : (FloatKind.f32.format.order (milliW 0) 0 == some .eq) = true := by rw [milliW_0]; decide +kernel
  go_enter Try.func23, Try.ntmps23
  go_wp2_with (go_at_call 87; refine (Milli_in _ _ _ (by omega) (by omega) (by omega) (by omega)).mono ?_; rintro e w' ⟨rfl, rfl⟩)
  go_ret
  exact ⟨rfl, rfl⟩

/-! spec.l1In, spec.Milli -/
set_option maxHeartbeats 400000 in
theorem l1In_any (n a b : Int) (w : World) : Calls Try.prog 85 #[.int .i64 n, .int .i64 a, .int .i64 b] w fun e w' => e = .returned (.bool (decide (a ≤ n) && decide (n ≤ b))) ∧ w = w' := by
  by_cases h1 : a ≤ n
  · by_cases h2 : n ≤ b
    · have e : (decide (a ≤ n) && decide (n ≤ b)) = true := by simp [h1, h2]
      rw [e]
      go_enter Try.func85, Try.ntmps85
      go_wp2_with fail
      go_ret
      exact ⟨rfl, rfl⟩
    · have e : (decide (a ≤ n) && decide (n ≤ b)) = false := by simp [h2]
      rw [e]
      go_enter Try.func85, Try.ntmps85
      go_wp2_with fail
      go_ret
      exact ⟨rfl, rfl⟩
  · have e : (decide (a ≤ n) && decide (n ≤ b)) = false := by simp [h1]
    rw [e]
    have d1 : decide (a ≤ n) = false := by simp [h1]
    go_enter Try.func85, Try.ntmps85
    go_wp2_with fail
    go_ret
    exact ⟨rfl, rfl⟩

theorem l1In_yes (n a b : Int) (w : World) (h1 : a ≤ n) (h2 : n ≤ b) : Calls Try.prog 85 #[.int .i64 n, .int .i64 a, .int .i64 b] w fun e w' => e = .returned (.bool true) ∧ w = w' :=
  (l1In_any n a b w).mono fun e w' ⟨he, hw⟩ => ⟨by rw [he]; simp [h1, h2], hw⟩
theorem l1In_no (n a b : Int) (w : World) (h : ¬ (a ≤ n ∧ n ≤ b)) : Calls Try.prog 85 #[.int .i64 n, .int .i64 a, .int .i64 b] w fun e w' => e = .returned (.bool false) ∧ w = w' :=
  (l1In_any n a b w).mono fun e w' ⟨he, hw⟩ => ⟨by
    rw [he]
    have : (decide (a ≤ n) && decide (n ≤ b)) = false := by
      rw [← Bool.not_eq_true, Bool.and_eq_true, decide_eq_true_eq, decide_eq_true_eq]; exact h
    rw [this], hw⟩

set_option maxHeartbeats 1000000 in
theorem sMilli_in (n m : Int) (w : World) (h1 : -9999999 ≤ n) (h2 : n ≤ 9999999) (h3 : -9999999 ≤ m) (h4 : m ≤ 9999999) :
    Calls Try.prog 86 #[.int .i64 n, .int .i64 m] w fun e w' => e = .returned (.complex .f32 (milliW n) (milliW m)) ∧ w = w' := by
  obtain ⟨q, q1, q2, _⟩ := milli_some (n := n) (k := 10000) (by omega) (by omega)
  obtain ⟨r, r1, r2, _⟩ := milli_some (n := m) (k := 10000) (by omega) (by omega)
  have g1 := fun W : World => run_float_arith (P := Try.prog) W .quo 42 .f64 (floatOfInt .f64 n) c1000 q q1
  have g2 := fun W : World => run_float_arith (P := Try.prog) W .quo 42 .f64 (floatOfInt .f64 m) c1000 r r1
  have g3 := fun W : World => run_convert_complex (P := Try.prog) W 103 34 .f64 .f32 q r (milliW n) (milliW m) some103 Try.underlying34 (by simp [cConvBits, q2, r2])
  clear q1 q2 r1 r2
  unfold c1000 at g1 g2
  go_enter Try.func86, Try.ntmps86
  go_wp2_with (go_at_call 85; refine (l1In_yes _ _ _ _ (by omega) (by omega)).mono ?_; rintro e w' ⟨rfl, rfl⟩)
  go_ret
  exact ⟨rfl, rfl⟩

/-! samePart, sameBits -/
set_option maxHeartbeats 400000 in
theorem samePart_eq (x y : Nat) (w : World) (h : (double.order x y == some .eq) = true) :
    Calls Try.prog 70 #[.float .f64 x, .float .f64 y] w fun e w' => e = .returned (.bool true) ∧ w = w' := by
  have h1 : (FloatKind.f64.format.order x y == some .eq) = true := h
  clear h
  go_enter Try.func70, Try.ntmps70
  go_wp2_with fail
  go_ret
  exact ⟨rfl, rfl⟩

theorem some43 : (Try.prog.underlying 43).isSome = true := by kernel_rfl

theorem up_eq {a b : Nat} (ha : fin single a = true) (hb : fin single b = true) (h : iv single a = iv single b) :
    ∃ x y, floatToFloatBits .f32 a .f64 = some x ∧ floatToFloatBits .f32 b .f64 = some y ∧ (double.order x y == some .eq) = true := by
  obtain ⟨x, h1, h2, h3⟩ := conv_up ha
  obtain ⟨y, h4, h5, h6⟩ := conv_up hb
  exact ⟨x, y, h1, h4, by rw [cmp_eq double h2 h5, h3, h6, h]; simp⟩

set_option maxHeartbeats 1000000 in
theorem sameBits_eq (a b c d : Nat) (w : World) (ha : fin single a = true) (hb : fin single b = true) (hc : fin single c = true) (hd : fin single d = true)
    (h1 : iv single a = iv single c) (h2 : iv single b = iv single d) :
    Calls Try.prog 39 #[.complex .f32 a b, .complex .f32 c d] w fun e w' => e = .returned (.bool true) ∧ w = w' := by
  obtain ⟨x, y, x1, y1, e1⟩ := up_eq ha hc h1
  obtain ⟨u, v, u1, v1, e2⟩ := up_eq hb hd h2
  have k1 := fun W : World => run_convert_float_float (P := Try.prog) W 43 42 .f32 .f64 a x some43 Try.underlying42 x1
  have k2 := fun W : World => run_convert_float_float (P := Try.prog) W 43 42 .f32 .f64 c y some43 Try.underlying42 y1
  have k3 := fun W : World => run_convert_float_float (P := Try.prog) W 43 42 .f32 .f64 b u some43 Try.underlying42 u1
  have k4 := fun W : World => run_convert_float_float (P := Try.prog) W 43 42 .f32 .f64 d v some43 Try.underlying42 v1
  have E1 := Lib.hid e1
  have E2 := Lib.hid e2
  clear ha hb hc hd h1 h2 x1 y1 u1 v1 e1 e2
  go_enter Try.func39, Try.ntmps39
  go_wp2_with (first | (go_at_call_of 70 x; refine (samePart_eq _ _ _ E1.out).mono ?_; rintro e w' ⟨rfl, rfl⟩) | (go_at_call_of 70 u; refine (samePart_eq _ _ _ E2.out).mono ?_; rintro e w' ⟨rfl, rfl⟩))
  go_ret
  exact ⟨rfl, rfl⟩
end Go.Proofs.Ytcnlgoghnlcndaa
