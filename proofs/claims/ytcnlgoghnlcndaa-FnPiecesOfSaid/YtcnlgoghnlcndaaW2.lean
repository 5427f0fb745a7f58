/- Walks: Subnormal (impl and spec), the least normal number of spec, Flushed of spec. -/
import Derived.Test.YtcnlgoghnlcndaaW1
namespace Go.Proofs.Ytcnlgoghnlcndaa
open Go.RowKit Ieee

def subC (a b : Nat) : Bool := finC a b && ((!isZ a && lowB a) || (!isZ b && lowB b))

theorem ne0 {a : Nat} (h : fin single a = true) : (FloatKind.f32.format.order a 0 != some .eq) = !isZ a := by
  have := ne_zero h
  unfold isZ
  show (single.order a 0 != some .eq) = _
  rw [this]; simp

set_option maxHeartbeats 400000 in
theorem Subnormal_no (a b : Nat) (w : World) (h : finC a b = false) :
    Calls Try.prog 30 #[.complex .f32 a b] w fun e w' => e = .returned (.bool false) ∧ ∃ n, w.drewN n = w' := by
  go_enter Try.func30, Try.ntmps30
  go_wp2_with (go_at_call 94; refine (Finite_any _ _ _).mono ?_; rintro e w' ⟨rfl, n, rfl⟩)
  go_ret
  exact ⟨rfl, _, rfl⟩

set_option maxHeartbeats 1000000 in
theorem Subnormal_yes (a b : Nat) (w : World) (ha : fin single a = true) (hb : fin single b = true) :
    Calls Try.prog 30 #[.complex .f32 a b] w fun e w' => e = .returned (.bool ((!isZ a && lowB a) || (!isZ b && lowB b))) ∧ w = w' := by
  have HA := Lib.hid ha
  have HB := Lib.hid hb
  have h1 := ne0 ha
  have h2 := ne0 hb
  clear ha hb
  rcases Bool.eq_false_or_eq_true (isZ a) with z1 | z1 <;> rcases Bool.eq_false_or_eq_true (isZ b) with z2 | z2 <;>
    rcases Bool.eq_false_or_eq_true (lowB a) with l1 | l1 <;> rcases Bool.eq_false_or_eq_true (lowB b) with l2 | l2
  all_goals
    rw [z1] at h1
    rw [z2] at h2
    simp only [z1, z2, l1, l2, Bool.not_true, Bool.not_false, Bool.false_and, Bool.true_and, Bool.or_false, Bool.or_true]
    clear z1 z2
    simp only [Bool.not_true, Bool.not_false] at h1 h2
    go_enter Try.func30, Try.ntmps30
    go_wp2_with (first | (go_at_call 94; refine (finite_yes _ _ _ HA.out HB.out).mono ?_; rintro e w' ⟨rfl, rfl⟩) | (go_at_call_of 95 a; refine (belowNormal_any _ _ HA.out).mono ?_; rintro e w' ⟨rfl, rfl⟩) | (go_at_call_of 95 b; refine (belowNormal_any _ _ HB.out).mono ?_; rintro e w' ⟨rfl, rfl⟩))
    go_ret
    exact ⟨rfl, rfl⟩

theorem Subnormal_any (a b : Nat) (w : World) : Calls Try.prog 30 #[.complex .f32 a b] w fun e w' => e = .returned (.bool (subC a b)) ∧ ∃ n, w.drewN n = w' := by
  unfold subC
  rcases Bool.eq_false_or_eq_true (finC a b) with h | h
  · rw [h]
    have h' := h
    unfold finC at h'
    simp only [Bool.and_eq_true] at h'
    exact (Subnormal_yes a b w h'.1 h'.2).mono fun e w' ⟨he, hw⟩ => ⟨by rw [he, Bool.true_and], 0, hw⟩
  · rw [h]; exact Subnormal_no a b w h

/-! spec: the least normal number by halves. -/
def halfW (k : Nat) : Nat := (127 - k) * 8388608
theorem half_step : ∀ k, k < 126 → floatBits .quo .f32 (halfW k) 1073741824 = some (halfW (k + 1)) := by decide +kernel

set_option maxRecDepth 100000 in
set_option maxHeartbeats 400000 in
theorem least_any (w : World) : Calls Try.prog 124 #[] w fun e w' => e = .returned (.float .f32 8388608) ∧ w = w' := by
  go_enter Try.func124, Try.ntmps124
  go_wp2_with fail
  go_loop [1, 2] (fun o i => ∃ k : Nat, k ≤ 126 ∧ i = .int .i64 k ∧ o = .float .f32 (halfW k)) (fun _ i => 126 - (intOf i).toNat)
  case atStart => exact ⟨0, Nat.zero_le _, rfl, rfl⟩
  case round =>
    obtain ⟨k, hk, rfl, rfl⟩ := hrel
    by_cases hlt : k < 126
    · have h1 := fun W : World => run_float_arith (P := Try.prog) W .quo 43 .f32 (halfW k) 1073741824 _ (half_step k hlt)
      go_wp2_with fail
      go_round
      case rel => exact ⟨k + 1, by omega, by go_num, rfl⟩
      case measure => simp [intOf]; omega
    · have HK : Hid (halfW k = 8388608) := by
        show halfW k = 8388608
        rw [show k = 126 by omega]; decide
      go_wp2_with fail
      go_ret
      exact ⟨congrArg (fun x => Ending.returned (.float .f32 x)) HK.out, rfl⟩

theorem flP_yes {a : Nat} (h : lowB a = true) : flP a = 0 := by unfold flP; rw [if_pos h]
theorem flP_no {a : Nat} (h : lowB a = false) : flP a = a := by unfold flP; rw [if_neg (by rw [h]; decide)]

/-- 'x < least && -x < least' -/
theorem lt_least_pos {a : Nat} (h : fin single a = true) (h0 : ¬ iv single a < 0) : (single.order a 8388608 == some .lt) = lowB a := lt_least h (by omega)

set_option maxHeartbeats 1000000 in
theorem l7Flushed_any (a : Nat) (w : World) (ha : fin single a = true) :
    Calls Try.prog 100 #[.float .f32 a] w fun e w' => e = .returned (.float .f32 (flP a)) ∧ w = w' := by
  have key : ∀ c d : Bool, (FloatKind.f32.format.order a 8388608 == some .lt) = c → (FloatKind.f32.format.order (Op.negFloat .f32 a) 8388608 == some .lt) = d →
      Calls Try.prog 100 #[.float .f32 a] w fun e w' => e = .returned (.float .f32 (if (c && d) = true then 0 else a)) ∧ w = w' := by
    intro c d h1 h2
    clear ha
    cases c <;> cases d
    all_goals
      simp only [Bool.and_true, Bool.and_false, Bool.false_eq_true, if_true, if_false]
      go_enter Try.func100, Try.ntmps100
      go_wp2_with (go_at_call 124; refine (least_any _).mono ?_; rintro e w' ⟨rfl, rfl⟩)
      go_ret
      exact ⟨rfl, rfl⟩
  refine (key _ _ rfl rfl).mono fun e w' ⟨he, hw⟩ => ⟨?_, hw⟩
  rw [he]
  have e1 : (FloatKind.f32.format.order a 8388608 == some .lt) = decide (iv single a < 8388608) := by
    show (single.order a 8388608 == _) = _
    rw [cmp_lt single ha fin_least, iv_least]
  have e2 : (FloatKind.f32.format.order (Op.negFloat .f32 a) 8388608 == some .lt) = decide (-iv single a < 8388608) := by
    show (single.order _ 8388608 == _) = _
    rw [cmp_lt single (by rw [neg_fin, ha]) fin_least, iv_least, neg_iv]
  rw [e1, e2]
  unfold flP
  congr 2
  have : (decide (iv single a < 8388608) && decide (-iv single a < 8388608)) = lowB a := by
    rw [lowB_iv, Bool.eq_iff_iff]
    simp only [Bool.and_eq_true, decide_eq_true_eq]
    omega
  rw [this]

theorem flP_fin {a : Nat} (h : fin single a = true) : fin single (flP a) = true := by
  unfold flP; split
  · exact fin_zero
  · exact h

set_option maxHeartbeats 400000 in
theorem sFlushed_no (a b : Nat) (w : World) (h : finC a b = false) :
    Calls Try.prog 40 #[.complex .f32 a b] w fun e w' => e = .returned (.complex .f32 0 0) ∧ ∃ n, w.drewN n = w' := by
  go_enter Try.func40, Try.ntmps40
  go_wp2_with (go_at_call 41; refine (sFinite_any _ _ _).mono ?_; rintro e w' ⟨rfl, n, rfl⟩)
  go_ret
  exact ⟨rfl, _, rfl⟩
set_option maxHeartbeats 400000 in
theorem sFlushed_yes (a b : Nat) (w : World) (ha : fin single a = true) (hb : fin single b = true) :
    Calls Try.prog 40 #[.complex .f32 a b] w fun e w' => e = .returned (.complex .f32 (flP a) (flP b)) ∧ w = w' := by
  have HA := Lib.hid ha
  have HB := Lib.hid hb
  clear ha hb
  go_enter Try.func40, Try.ntmps40
  go_wp2_with (first | (go_at_call 41; refine (sfinite_yes _ _ _ HA.out HB.out).mono ?_; rintro e w' ⟨rfl, rfl⟩) | (go_at_call_of 100 a; refine (l7Flushed_any _ _ HA.out).mono ?_; rintro e w' ⟨rfl, rfl⟩) | (go_at_call_of 100 b; refine (l7Flushed_any _ _ HB.out).mono ?_; rintro e w' ⟨rfl, rfl⟩))
  go_ret
  exact ⟨rfl, rfl⟩

def flC (a b : Nat) : Nat × Nat := if finC a b = true then (flP a, flP b) else (0, 0)
theorem finC_parts {a b : Nat} (h : finC a b = true) : fin single a = true ∧ fin single b = true := by
  unfold finC at h; simpa using h

theorem sFlushed_any (a b : Nat) (w : World) : Calls Try.prog 40 #[.complex .f32 a b] w fun e w' => e = .returned (.complex .f32 (flC a b).1 (flC a b).2) ∧ ∃ n, w.drewN n = w' := by
  unfold flC
  rcases Bool.eq_false_or_eq_true (finC a b) with h | h
  · rw [if_pos h]; exact (sFlushed_yes a b w (finC_parts h).1 (finC_parts h).2).mono fun e w' ⟨he, hw⟩ => ⟨he, 0, hw⟩
  · rw [if_neg (by rw [h]; decide)]; exact sFlushed_no a b w h
theorem Flushed_any (a b : Nat) (w : World) : Calls Try.prog 38 #[.complex .f32 a b] w fun e w' => e = .returned (.complex .f32 (flC a b).1 (flC a b).2) ∧ ∃ n, w.drewN n = w' := by
  unfold flC
  rcases Bool.eq_false_or_eq_true (finC a b) with h | h
  · rw [if_pos h]; exact Flushed_yes a b w (finC_parts h).1 (finC_parts h).2
  · rw [if_neg (by rw [h]; decide)]; exact Flushed_no a b w h

theorem eq_flP {a : Nat} (h : fin single a = true) : (FloatKind.f32.format.order a (flP a) == some .eq) = !(!isZ a && lowB a) := by
  show (single.order a (flP a) == _) = _
  rw [cmp_eq single h (flP_fin h)]
  unfold isZ flP
  rcases Bool.eq_false_or_eq_true (lowB a) with hl | hl
  · rw [hl, if_pos rfl, iv_zero]; simp
  · rw [hl, if_neg (by decide)]; simp

set_option maxHeartbeats 400000 in
theorem sSubnormal_no (a b : Nat) (w : World) (h : finC a b = false) :
    Calls Try.prog 31 #[.complex .f32 a b] w fun e w' => e = .returned (.bool false) ∧ ∃ n, w.drewN n = w' := by
  go_enter Try.func31, Try.ntmps31
  go_wp2_with (go_at_call 41; refine (sFinite_any _ _ _).mono ?_; rintro e w' ⟨rfl, n, rfl⟩)
  go_ret
  exact ⟨rfl, _, rfl⟩
set_option maxHeartbeats 400000 in
theorem sSubnormal_yes (a b : Nat) (w : World) (ha : fin single a = true) (hb : fin single b = true) :
    Calls Try.prog 31 #[.complex .f32 a b] w fun e w' => e = .returned (.bool ((!isZ a && lowB a) || (!isZ b && lowB b))) ∧ w = w' := by
  have h1 := Lib.hid (eq_flP ha)
  have h2 := Lib.hid (eq_flP hb)
  have HA := Lib.hid ha
  have HB := Lib.hid hb
  clear ha hb
  go_enter Try.func31, Try.ntmps31
  go_wp2_with (first | (go_at_call 41; refine (sfinite_yes _ _ _ HA.out HB.out).mono ?_; rintro e w' ⟨rfl, rfl⟩) | (go_at_call 40; refine (sFlushed_yes _ _ _ HA.out HB.out).mono ?_; rintro e w' ⟨rfl, rfl⟩))
  go_ret
  exact ⟨ret_bool (by rw [h1.out, h2.out]; simp), rfl⟩
theorem sSubnormal_any (a b : Nat) (w : World) : Calls Try.prog 31 #[.complex .f32 a b] w fun e w' => e = .returned (.bool (subC a b)) ∧ ∃ n, w.drewN n = w' := by
  unfold subC
  rcases Bool.eq_false_or_eq_true (finC a b) with h | h
  · rw [h]
    exact (sSubnormal_yes a b w (finC_parts h).1 (finC_parts h).2).mono fun e w' ⟨he, hw⟩ => ⟨by rw [he, Bool.true_and], 0, hw⟩
  · rw [h]; exact sSubnormal_no a b w h
end Go.Proofs.Ytcnlgoghnlcndaa
