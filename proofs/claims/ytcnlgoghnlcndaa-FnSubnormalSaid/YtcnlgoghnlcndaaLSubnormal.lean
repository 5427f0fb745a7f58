/- The walk of the law FnSubnormal: true at every code. -/
import Derived.Test.YtcnlgoghnlcndaaW7
namespace Go.Proofs.Ytcnlgoghnlcndaa
open Go.RowKit Ieee

/-! A complex64 number divided by 2. -/
def quoGe (a b c d : Nat) : Option (Nat × Nat) :=
  (floatBits .quo .f64 d c).bind fun ratio => (floatBits .mul .f64 ratio d).bind fun rd => (floatBits .add .f64 c rd).bind fun denom =>
  (floatBits .mul .f64 b ratio).bind fun br => (floatBits .add .f64 a br).bind fun n1 => (floatBits .quo .f64 n1 denom).bind fun e =>
  (floatBits .mul .f64 a ratio).bind fun ar => (floatBits .sub .f64 b ar).bind fun n2 => (floatBits .quo .f64 n2 denom).bind fun f =>
  if (!(Op.Complex.isNaN e && Op.Complex.isNaN f)) = true then (floatToFloatBits .f64 e .f32).bind fun re => (floatToFloatBits .f64 f .f32).bind fun im => some (re, im) else none

theorem run_quo_ge {P : Program} (w : World) (t : TypeId) {a b c d a' b' c' d' re im : Nat} (ha : floatToFloatBits .f32 a .f64 = some a') (hb : floatToFloatBits .f32 b .f64 = some b')
    (hc : floatToFloatBits .f32 c .f64 = some c') (hd : floatToFloatBits .f32 d .f64 = some d') (hge : absGe c' d' = true) (h : quoGe a' b' c' d' = some (re, im)) :
    (binOp .quo t (.complex .f32 a b) (.complex .f32 c d)).run P w = .ok (.complex .f32 re im) w := by
  unfold quoGe at h
  obtain ⟨ratio, h1, h⟩ := bind_some h
  obtain ⟨rd, h2, h⟩ := bind_some h
  obtain ⟨denom, h3, h⟩ := bind_some h
  obtain ⟨br, h4, h⟩ := bind_some h
  obtain ⟨n1, h5, h⟩ := bind_some h
  obtain ⟨e, h6, h⟩ := bind_some h
  obtain ⟨ar, h7, h⟩ := bind_some h
  obtain ⟨n2, h8, h⟩ := bind_some h
  obtain ⟨f, h9, h⟩ := bind_some h
  split at h
  · rename_i hnn
    obtain ⟨re', hr, h⟩ := bind_some h
    obtain ⟨im', hi, h⟩ := bind_some h
    cases h
    have hq := run_quotient_ge (P := P) w hge h1 h2 h3 h4 h5 h6 h7 h8 h9 hnn
    simp [binOp, Op.complexOp, run_conv w ha, run_conv w hb, run_conv w hc, run_conv w hd, hq, run_conv w hr, run_conv w hi]
  · cases h

def half32 (a b : Nat) : Option (Nat × Nat) :=
  (floatToFloatBits .f32 a .f64).bind fun a => (floatToFloatBits .f32 b .f64).bind fun b => quoGe a b 4611686018427387904 0
theorem up_two : floatToFloatBits .f32 1073741824 .f64 = some 4611686018427387904 := by decide +kernel
theorem up_zero : floatToFloatBits .f32 0 .f64 = some 0 := by decide +kernel
theorem abs_two : absGe 4611686018427387904 0 = true := by decide +kernel
theorem run_half {P : Program} (w : World) (t : TypeId) (a b re im : Nat) (h : half32 a b = some (re, im)) :
    (binOp .quo t (.complex .f32 a b) (.complex .f32 1073741824 0)).run P w = .ok (.complex .f32 re im) w := by
  unfold half32 at h
  obtain ⟨a', ha, h⟩ := bind_some h
  obtain ⟨b', hb, h⟩ := bind_some h
  exact run_quo_ge w t ha hb up_two up_zero abs_two h

theorem half_step2 : ∀ k, k < 126 → half32 (halfW k) 0 = some (halfW (k + 1), 0) := by decide +kernel
theorem half_last : half32 8388608 0 = some (4194304, 0) := by decide +kernel

theorem neg_isZ (a : Nat) : isZ (Op.negFloat .f32 a) = isZ a := by
  unfold isZ; rw [neg_iv, decide_eq_decide]; omega
theorem subC_neg (a b : Nat) : subC (Op.negFloat .f32 a) (Op.negFloat .f32 b) = subC a b := by
  unfold subC finC; rw [neg_fin, neg_fin, neg_isZ, neg_isZ, neg_lowB, neg_lowB]
theorem sub_no : subC 8388608 0 = false := by decide +kernel
theorem sub_yes : subC 4194304 0 = true := by decide +kernel

set_option maxHeartbeats 400000 in
theorem Subnormal_long (A : Option Addr) (n cap : Nat) (w : World) (hn : 1048576 < n) (hm : n ≤ maxLen) :
    Calls Try.prog 6 #[.slice A n cap] w fun e w' => e = .returned (.bool true) ∧ Below w.heap.size w w' := by
  unfold maxLen at hm
  go_enter Try.func6, Try.ntmps6
  go_wp2_with fail
  go_ret
  exact ⟨rfl, Below.refl _ _⟩

set_option maxRecDepth 100000 in
set_option maxHeartbeats 2000000 in
theorem FnSubnormal_walk (A : Option Addr) (n cap : Nat) (w : World) (h : Code w A n cap) :
    Calls Try.prog 6 #[.slice A n cap] w fun e w' => e = .returned (.bool true) ∧ Below w.heap.size w w' := by
  rcases Nat.lt_or_ge 1048576 n with hn | hn
  · exact Subnormal_long A n cap w hn h.2.1
  have hm := h.2.1
  unfold maxLen at hm
  go_enter Try.func6, Try.ntmps6
  go_wp2_with fail
  refine (DrawSubnormal_any _ _ _ _ h).mono ?_
  rintro e w1 ⟨a, b, hd, rfl, hb⟩
  clear hd h
  go_wp2_with fail
  refine (Subnormal_any _ _ _).mono ?_
  rintro e w' ⟨rfl, d1, rfl⟩
  go_wp2_with fail
  refine (sSubnormal_any _ _ _).mono ?_
  rintro e w' ⟨rfl, d2, rfl⟩
  go_wp2_with fail
  go_loop [5, 6] (fun o i => ∃ k : Nat, k ≤ 126 ∧ i = .int .i64 k ∧ o = .complex .f32 (halfW k) 0) (fun _ i => 126 - (intOf i).toNat)
  case atStart => exact ⟨0, Nat.zero_le _, rfl, rfl⟩
  case round =>
    obtain ⟨k, hk, rfl, rfl⟩ := hrel
    by_cases hlt : k < 126
    · have h1 := fun W : World => run_half (P := Try.prog) W 34 (halfW k) 0 _ _ (half_step2 k hlt)
      go_wp2_with fail
      go_round
      case rel => exact ⟨k + 1, by omega, by go_num, rfl⟩
      case measure => simp [intOf]; omega
    · have HK : Hid (halfW k = 8388608) := by
        show halfW k = 8388608
        rw [show k = 126 by omega]; decide
      have h1 : ∀ W : World, (binOp .quo 34 (.complex .f32 (halfW k) 0) (.complex .f32 1073741824 0)).run Try.prog W = .ok (.complex .f32 4194304 0) W := fun W => run_half (P := Try.prog) W 34 (halfW k) 0 _ _ (by rw [HK.out]; exact half_last)
      have h2 : ∀ W : World, (binOp .quo 34 (.complex .f32 8388608 0) (.complex .f32 1073741824 0)).run Try.prog W = .ok (.complex .f32 4194304 0) W := fun W => run_half (P := Try.prog) W 34 8388608 0 _ _ half_last
      go_wp2_with fail
      refine (Subnormal_any _ _ _).mono ?_
      rw [subC_neg]
      rintro e w' ⟨rfl, d3, rfl⟩
      go_wp2_with fail
      refine (Subnormal_any _ _ _).mono ?_
      rw [HK.out, sub_no]
      rintro e w' ⟨rfl, d4, rfl⟩
      go_wp2_with fail
      refine (Subnormal_any _ _ _).mono ?_
      rw [sub_yes]
      rintro e w' ⟨rfl, d5, rfl⟩
      go_wp2_with fail
      refine (alive_any _).mono ?_
      rintro e w' ⟨rfl, rfl⟩
      go_wp2_with fail
      go_ret
      exact ⟨rfl, hb.os, hb.tape, hb.output, hb.size, hb.block⟩
end Go.Proofs.Ytcnlgoghnlcndaa
