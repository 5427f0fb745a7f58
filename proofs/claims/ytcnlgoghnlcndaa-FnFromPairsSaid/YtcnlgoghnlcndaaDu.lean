/- Digits turned (spec). -/
import Derived.Test.YtcnlgoghnlcndaaDt
import Derived.Test.YtcnlgoghnlcndaaPc
namespace Go.Proofs.Ytcnlgoghnlcndaa
open Go.RowKit Ieee

set_option maxRecDepth 100000 in
set_option maxHeartbeats 2000000 in
theorem sDigitsTurned_yes (m n a : Nat) (hn : 2 ^ m = n) (hm : m ≤ 4) (ha : a < n) (w : World) : Calls Try.prog 129 #[.int .i64 n, .int .i64 a] w fun e w' => e = .returned (.int .i64 (tuN m a)) ∧ w = w' := by
  have hn16 : n ≤ 16 := by rw [← hn]; exact pow_le16 hm
  go_enter Try.func129, Try.ntmps129
  go_wp2_with fail
  refine (sProductsOf_yes m n hn hm _).mono ?_
  rintro e w' ⟨p, q, h0, rfl, rfl⟩
  go_wp2_with fail
  refine (l1In_yes _ _ _ _ (by omega) (by omega)).mono ?_
  rintro e w' ⟨rfl, rfl⟩
  go_wp2_with fail
  go_loop [7, 8] (fun t s => ∃ i : Nat, i ≤ m ∧ s = .int .i64 (2 ^ i : Nat) ∧ t = .int .i64 (tuN i a)) (fun _ s => 100 - (intOf s).toNat)
  case atStart => exact ⟨0, Nat.zero_le _, rfl, rfl⟩
  case round =>
    obtain ⟨i, hi, rfl, rfl⟩ := hrel
    have ht := tuN_lt i a
    have ht2 : 2 ^ i ≤ 16 := pow_le16 (by omega)
    have hp1 : 1 ≤ 2 ^ i := Nat.two_pow_pos i
    by_cases hlt : i < m
    · have e1 : 2 ^ (i + 1) = 2 * 2 ^ i := by rw [Nat.pow_succ, Nat.mul_comm]
      have e4 : tuN (i + 1) a = 2 * tuN i a + a / 2 ^ i % 2 := rfl
      have hlt2 : 2 ^ i < n := by rw [← hn]; exact Nat.pow_lt_pow_right (by omega) hlt
      have hq : a / 2 ^ i ≤ a := Nat.div_le_self _ _
      have E1 := Lib.hid e1
      have E4 := Lib.hid e4
      clear e1 e4
      generalize tuN i a = t at *
      generalize hS : 2 ^ i = S at *
      have hi1 : (S : Int) < (n : Int) := by omega
      have hs0 : ¬ (S : Int) = 0 := by omega
      have hfin : wrap64 (2 * (t : Int) + (wrap64 ((a : Int) / (S : Int))).tmod 2) = ((2 * t + a / S % 2 : Nat) : Int) := by
        have h5 : (a : Int) / (S : Int) = ((a / S : Nat) : Int) := (Int.natCast_ediv a S).symm
        rw [h5]
        generalize a / S = c at *
        rw [IntWalk.wrap64_in (c : Int) (by omega), Int.tmod_eq_emod_of_nonneg (Int.natCast_nonneg c), IntWalk.wrap64_in _ (by omega)]
        omega
      go_wp2_with fail
      go_round
      case rel => exact ⟨i + 1, by omega, by rw [E1.out]; go_num, by rw [E4.out, ← hfin]⟩
      case measure => simp [intOf]; omega
    · obtain rfl : i = m := by omega
      rw [hn]
      go_wp2_with fail
      go_ret
      exact ⟨rfl, rfl⟩
end Go.Proofs.Ytcnlgoghnlcndaa
