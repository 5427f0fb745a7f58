/- Digits turned: plain, and walks. -/
import Derived.Test.YtcnlgoghnlcndaaFq
namespace Go.Proofs.Ytcnlgoghnlcndaa
open Go.RowKit Ieee

/-- The first i digits of a, turned. -/
def tuN : Nat → Nat → Nat
  | 0, _ => 0
  | i + 1, a => 2 * tuN i a + a / 2 ^ i % 2
theorem tuN_lt (i a : Nat) : tuN i a < 2 ^ i := by
  induction i with
  | zero => simp [tuN]
  | succ i ih =>
    have e : 2 ^ (i + 1) = 2 * 2 ^ i := by rw [Nat.pow_succ, Nat.mul_comm]
    have := Nat.mod_lt (a / 2 ^ i) (show 0 < 2 by omega)
    unfold tuN
    omega

set_option maxRecDepth 100000 in
set_option maxHeartbeats 2000000 in
theorem DigitsTurned_yes (m n a : Nat) (hn : 2 ^ m = n) (hm : m ≤ 4) (ha : a < n) (w : World) : Calls Try.prog 128 #[.int .i64 n, .int .i64 a] w fun e w' => e = .returned (.int .i64 (tuN m a)) ∧ w = w' := by
  have hp : powB (n : Int) = true := by
    have : m = 0 ∨ m = 1 ∨ m = 2 ∨ m = 3 ∨ m = 4 := by omega
    rcases this with rfl | rfl | rfl | rfl | rfl <;> (subst hn; decide)
  have hn16 : n ≤ 16 := by rw [← hn]; exact pow_le16 hm
  go_enter Try.func128, Try.ntmps128
  go_wp2_with fail
  refine (powerOfTwo_any _ _).mono ?_
  rw [hp]
  rintro e w' ⟨rfl, rfl⟩
  have hge : ¬ (n : Int) ≤ (a : Int) := by omega
  go_wp2_with fail
  go_loop [1, 5, 6] (fun c t s => ∃ i : Nat, i ≤ m ∧ s = .int .i64 (2 ^ (m - i) : Nat) ∧ c = .int .i64 (a / 2 ^ i : Nat) ∧ t = .int .i64 (tuN i a)) (fun _ _ s => (intOf s).toNat)
  case atStart => exact ⟨0, Nat.zero_le _, by rw [Nat.sub_zero, hn], by rw [Nat.pow_zero, Nat.div_one], rfl⟩
  case round =>
    obtain ⟨i, hi, rfl, rfl, rfl⟩ := hrel
    by_cases hlt : i < m
    · obtain ⟨j, hj⟩ : ∃ j, m - i = j + 1 := ⟨m - i - 1, by omega⟩
      have e1 : 2 ^ (m - i) = 2 * 2 ^ j := by rw [hj, Nat.pow_succ, Nat.mul_comm]
      have e2 : m - (i + 1) = j := by omega
      have e3 : a / 2 ^ (i + 1) = a / 2 ^ i / 2 := by rw [Nat.pow_succ, Nat.div_div_eq_div_mul]
      have e4 : tuN (i + 1) a = 2 * tuN i a + a / 2 ^ i % 2 := rfl
      have hj8 : 2 ^ j ≤ 16 := pow_le16 (by omega)
      have hj1 : 1 ≤ 2 ^ j := Nat.two_pow_pos j
      have ht := tuN_lt i a
      have ht2 : 2 ^ i ≤ 16 := pow_le16 (by omega)
      have hq : a / 2 ^ i ≤ a := Nat.div_le_self _ _
      rw [e1]
      have E2 := Lib.hid e2
      have E3 := Lib.hid e3
      have E4 := Lib.hid e4
      clear e1 e2 e3 e4
      generalize a / 2 ^ i = c at *
      generalize tuN i a = t at *
      obtain ⟨S, hS⟩ : ∃ S, 2 ^ j = S := ⟨_, rfl⟩
      rw [hS] at hj8 hj1 ⊢
      go_wp2_with fail
      go_round
      case rel => exact ⟨i + 1, by omega, by rw [E2.out, hS], by rw [E3.out]; go_num, by rw [E4.out]; go_num⟩
      case measure => simp [intOf]; omega
    · obtain rfl : i = m := by omega
      rw [Nat.sub_self, Nat.pow_zero]
      go_wp2_with fail
      go_ret
      exact ⟨rfl, rfl⟩

set_option maxRecDepth 100000 in
set_option maxHeartbeats 2000000 in
theorem sProductsOf_yes (m n : Nat) (hn : 2 ^ m = n) (hm : m ≤ 4) (w : World) : Calls Try.prog 135 #[.int .i64 n] w fun e w' => ∃ p q : Int, 0 ≤ p ∧ e = .returned (.tuple #[.int .i64 p, .int .i64 q]) ∧ w = w' := by
  have hp : (n : Int) = 1 ∨ (n : Int) = 2 ∨ (n : Int) = 4 ∨ (n : Int) = 8 ∨ (n : Int) = 16 := by
    have : m = 0 ∨ m = 1 ∨ m = 2 ∨ m = 3 ∨ m = 4 := by omega
    rcases this with rfl | rfl | rfl | rfl | rfl <;> (subst hn; decide)
  obtain ⟨N, hN⟩ : ∃ N : Int, (n : Int) = N := ⟨_, rfl⟩
  rw [hN] at hp ⊢
  clear hN hn
  rcases hp with rfl | rfl | rfl | rfl | rfl
  · go_enter Try.func135, Try.ntmps135
    go_wp2_with fail
    go_loop [4, 5] (fun t s => ∃ a b : Nat, t = .int .i64 a ∧ s = .int .i64 b ∧ 2 ≤ b ∧ b ≤ 32 ∧ a ≤ 8 * b) (fun _ s => 100 - (intOf s).toNat)
    case atStart => exact ⟨0, 2, rfl, rfl, by omega, by omega, by omega⟩
    case round =>
      obtain ⟨a, b, rfl, rfl, h1, h2, h3⟩ := hrel
      by_cases hle : (b : Int) ≤ 1
      · go_wp2_with fail
        go_round
        case rel => exact ⟨a + 1 / 2, 2 * b, by go_num, by go_num, by omega, by omega, by omega⟩
        case measure => simp [intOf]; omega
      · go_wp2_with fail
        go_ret2
        exact ⟨_, Int.natCast_nonneg a, ⟨_, rfl⟩, rfl⟩
  · go_enter Try.func135, Try.ntmps135
    go_wp2_with fail
    go_loop [4, 5] (fun t s => ∃ a b : Nat, t = .int .i64 a ∧ s = .int .i64 b ∧ 2 ≤ b ∧ b ≤ 32 ∧ a ≤ 8 * b) (fun _ s => 100 - (intOf s).toNat)
    case atStart => exact ⟨0, 2, rfl, rfl, by omega, by omega, by omega⟩
    case round =>
      obtain ⟨a, b, rfl, rfl, h1, h2, h3⟩ := hrel
      by_cases hle : (b : Int) ≤ 2
      · go_wp2_with fail
        go_round
        case rel => exact ⟨a + 2 / 2, 2 * b, by go_num, by go_num, by omega, by omega, by omega⟩
        case measure => simp [intOf]; omega
      · go_wp2_with fail
        go_ret2
        exact ⟨_, Int.natCast_nonneg a, ⟨_, rfl⟩, rfl⟩
  · go_enter Try.func135, Try.ntmps135
    go_wp2_with fail
    go_loop [4, 5] (fun t s => ∃ a b : Nat, t = .int .i64 a ∧ s = .int .i64 b ∧ 2 ≤ b ∧ b ≤ 32 ∧ a ≤ 8 * b) (fun _ s => 100 - (intOf s).toNat)
    case atStart => exact ⟨0, 2, rfl, rfl, by omega, by omega, by omega⟩
    case round =>
      obtain ⟨a, b, rfl, rfl, h1, h2, h3⟩ := hrel
      by_cases hle : (b : Int) ≤ 4
      · go_wp2_with fail
        go_round
        case rel => exact ⟨a + 4 / 2, 2 * b, by go_num, by go_num, by omega, by omega, by omega⟩
        case measure => simp [intOf]; omega
      · go_wp2_with fail
        go_ret2
        exact ⟨_, Int.natCast_nonneg a, ⟨_, rfl⟩, rfl⟩
  · go_enter Try.func135, Try.ntmps135
    go_wp2_with fail
    go_loop [4, 5] (fun t s => ∃ a b : Nat, t = .int .i64 a ∧ s = .int .i64 b ∧ 2 ≤ b ∧ b ≤ 32 ∧ a ≤ 8 * b) (fun _ s => 100 - (intOf s).toNat)
    case atStart => exact ⟨0, 2, rfl, rfl, by omega, by omega, by omega⟩
    case round =>
      obtain ⟨a, b, rfl, rfl, h1, h2, h3⟩ := hrel
      by_cases hle : (b : Int) ≤ 8
      · go_wp2_with fail
        go_round
        case rel => exact ⟨a + 8 / 2, 2 * b, by go_num, by go_num, by omega, by omega, by omega⟩
        case measure => simp [intOf]; omega
      · go_wp2_with fail
        go_ret2
        exact ⟨_, Int.natCast_nonneg a, ⟨_, rfl⟩, rfl⟩
  · go_enter Try.func135, Try.ntmps135
    go_wp2_with fail
    go_loop [4, 5] (fun t s => ∃ a b : Nat, t = .int .i64 a ∧ s = .int .i64 b ∧ 2 ≤ b ∧ b ≤ 32 ∧ a ≤ 8 * b) (fun _ s => 100 - (intOf s).toNat)
    case atStart => exact ⟨0, 2, rfl, rfl, by omega, by omega, by omega⟩
    case round =>
      obtain ⟨a, b, rfl, rfl, h1, h2, h3⟩ := hrel
      by_cases hle : (b : Int) ≤ 16
      · go_wp2_with fail
        go_round
        case rel => exact ⟨a + 16 / 2, 2 * b, by go_num, by go_num, by omega, by omega, by omega⟩
        case measure => simp [intOf]; omega
      · go_wp2_with fail
        go_ret2
        exact ⟨_, Int.natCast_nonneg a, ⟨_, rfl⟩, rfl⟩
end Go.Proofs.Ytcnlgoghnlcndaa
