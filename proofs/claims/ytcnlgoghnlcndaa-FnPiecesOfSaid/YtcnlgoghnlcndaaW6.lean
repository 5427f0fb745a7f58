/- Walks: l20Num, l20Tiny, DrawFlushed, DrawSubnormal. -/
import Derived.Test.YtcnlgoghnlcndaaW5
namespace Go.Proofs.Ytcnlgoghnlcndaa
open Go.RowKit Ieee

/-- A number whose parts are finite, and at most 12. -/
def Small (a b : Nat) : Prop := fin single a = true ∧ fin single b = true ∧ (iv single a).natAbs ≤ 12 * p2 149 ∧ (iv single b).natAbs ≤ 12 * p2 149
/-- The greatest length of a drawn number. -/
def HH : Nat := 301 * 10 ^ 36 * p2 149
def Drawn (a b : Nat) : Prop := finC a b = false ∨ (fin single a = true ∧ fin single b = true ∧ iv single a * iv single a + iv single b * iv single b ≤ (HH : Int) * HH)

theorem sq_le {x : Int} {k : Nat} (h : x.natAbs ≤ k) : x * x ≤ (k : Int) * k := by
  have h1 : x * x = (x.natAbs : Int) * x.natAbs := by rw [← Int.natAbs_mul_self]; simp
  rw [h1]
  exact_mod_cast Nat.mul_le_mul h h

theorem milli_Small {n m : Int} (h1 : -10999 ≤ n) (h2 : n ≤ 10999) (h3 : -10999 ≤ m) (h4 : m ≤ 10999) : Small (milliW n) (milliW m) := by
  obtain ⟨_, _, _, a1, a2, _⟩ := milli_some (n := n) (k := 11) (by omega) (by omega)
  obtain ⟨_, _, _, b1, b2, _⟩ := milli_some (n := m) (k := 11) (by omega) (by omega)
  exact ⟨a1, b1, a2, b2⟩

theorem HH_two {A B : Nat} (hA : A ≤ 3001 * 10 ^ 35 * p2 149) (hB : B ≤ 12 * p2 149) : A * A + B * B ≤ HH * HH := by
  have h1 : A * A ≤ (3001 * 10 ^ 35 * p2 149) * (3001 * 10 ^ 35 * p2 149) := Nat.mul_le_mul hA hA
  have h2 : B * B ≤ (12 * p2 149) * (12 * p2 149) := Nat.mul_le_mul hB hB
  refine Nat.le_trans (Nat.add_le_add h1 h2) ?_
  unfold HH
  decide +kernel

theorem drawn_of {a b A B : Nat} (ha : fin single a = true) (hb : fin single b = true) (hA : (iv single a).natAbs ≤ A) (hB : (iv single b).natAbs ≤ B) (h : A * A + B * B ≤ HH * HH) : Drawn a b := by
  refine .inr ⟨ha, hb, ?_⟩
  have h1 := sq_le hA
  have h2 := sq_le hB
  have h3 : (A : Int) * A + (B : Int) * B ≤ (HH : Int) * HH := by exact_mod_cast h
  omega

theorem Small.drawn {a b : Nat} (h : Small a b) : Drawn a b :=
  drawn_of h.1 h.2.1 h.2.2.1 h.2.2.2 (HH_two (Nat.mul_le_mul_right _ (by decide)) (Nat.le_refl _))

theorem mul0_some {a : Nat} (h : fin single a = true) : ∃ z, floatBits .mul .f32 a 0 = some z ∧ fin single z = true ∧ iv single z = 0 := by
  obtain ⟨r, h1, h2, h3⟩ := mul_iv single (by decide) h fin_zero
  rw [iv_zero, Int.mul_zero] at h2 h3
  refine ⟨r, h1, ?_, ?_⟩
  · rw [h2]; decide +kernel
  · rw [h3]; simp [rI, rt_zero, magU_zero, sgn]

theorem huge10 : floatBits .mul .f32 2123789977 1092616192 = some 2139095040 := by decide +kernel
theorem huge3 : floatBits .mul .f32 2123789977 1077936128 = some 2137108966 := by decide +kernel
theorem one_huge : floatBits .quo .f32 1065353216 2123789977 = some 7136239 := by decide +kernel
theorem one_huge3 : floatBits .quo .f32 3212836864 2137108966 = some 2149862394 := by decide +kernel
theorem infinf : floatBits .sub .f32 2139095040 2139095040 = none := by decide +kernel
theorem neg_huge : Op.negFloat .f32 2123789977 = 4271273625 := by decide +kernel
theorem inf_nonfin : fin single 2139095040 = false := by decide +kernel
theorem fin_huge : fin single 2123789977 = true ∧ fin single 4271273625 = true ∧ fin single 2137108966 = true ∧ fin single 7136239 = true := by decide +kernel
theorem iv_huge : (iv single 2123789977).natAbs ≤ 101 * 10 ^ 36 * p2 149 ∧ (iv single 4271273625).natAbs ≤ 101 * 10 ^ 36 * p2 149 ∧ (iv single 2137108966).natAbs ≤ 3001 * 10 ^ 35 * p2 149 ∧ (iv single 7136239).natAbs ≤ 12 * p2 149 := by decide +kernel

set_option maxHeartbeats 1000000 in
/-- n = 0: a number of thousandths. -/
theorem num_zero (R p : Nat) (w : World) (h : RdAt w R p) (hp : p < 900000) :
    Calls Try.prog 98 #[.pointer (some ⟨R, 0, none⟩), .int .i64 0] w fun e w' => ∃ a b : Nat, Small a b ∧ e = .returned (.complex .f32 a b) ∧ w.grownBy w' (some R) ∧ ∃ p', p' ≤ p + 10 ∧ RdAt w' R p' := by
  go_enter Try.func98, Try.ntmps98
  go_wp2_with fail
  refine (part_any _ _ _ h (by omega)).mono ?_
  rintro e w1 ⟨n, n1, n2, rfl, hg1, q1, hq1, hr1⟩
  go_wp2_with fail
  refine (part_any _ _ _ hr1 (by omega)).mono ?_
  rintro e w2 ⟨m, m1, m2, rfl, hg2, q2, hq2, hr2⟩
  go_wp2_with fail
  refine (sMilli_in _ _ _ (by omega) (by omega) (by omega) (by omega)).mono ?_
  rintro e w' ⟨rfl, rfl⟩
  go_wp2_with fail
  refine (odd_zero _ _).mono ?_
  rintro e w' ⟨rfl, rfl⟩
  go_wp2_with fail
  go_ret
  exact ⟨_, _, milli_Small n1 n2 m1 m2, rfl, grown_trans hg1 hg2, q2, by omega, hr2⟩

theorem neg_neg_fin {a : Nat} (h : fin single a = true) : fin single (Op.negFloat .f32 a) = true := by rw [neg_fin, h]

set_option maxHeartbeats 4000000 in
/-- n at least 1. -/
theorem num_any (R p : Nat) (N : Int) (w : World) (h : RdAt w R p) (hp : p < 900000) (hN : 1 ≤ N) (hN' : N ≤ 1000) :
    Calls Try.prog 98 #[.pointer (some ⟨R, 0, none⟩), .int .i64 N] w fun e w' => ∃ a b : Nat, Drawn a b ∧ e = .returned (.complex .f32 a b) ∧ w.grownBy w' (some R) ∧ ∃ p', p' ≤ p + 10 ∧ RdAt w' R p' := by
  have k1 := fun W : World => run_float_arith (P := Try.prog) W .mul 43 .f32 2123789977 1092616192 _ huge10
  have k2 := fun W : World => run_float_arith (P := Try.prog) W .mul 43 .f32 2123789977 1077936128 _ huge3
  have k3 := fun W : World => run_float_arith (P := Try.prog) W .quo 43 .f32 1065353216 2123789977 _ one_huge
  have k4 := fun W : World => run_float_arith (P := Try.prog) W .quo 43 .f32 3212836864 2137108966 _ one_huge3
  have k5 := fun W : World => run_float_none (P := Try.prog) W .sub (by simp) 43 .f32 2139095040 2139095040 infinf
  go_enter Try.func98, Try.ntmps98
  go_wp2_with fail
  refine (part_any _ _ _ h (by omega)).mono ?_
  rintro e w1 ⟨n, n1, n2, rfl, hg1, q1, hq1, hr1⟩
  go_wp2_with fail
  refine (part_any _ _ _ hr1 (by omega)).mono ?_
  rintro e w2 ⟨m, m1, m2, rfl, hg2, q2, hq2, hr2⟩
  go_wp2_with fail
  refine (sMilli_in _ _ _ (by omega) (by omega) (by omega) (by omega)).mono ?_
  rintro e w' ⟨rfl, rfl⟩
  have hS := milli_Small n1 n2 m1 m2
  generalize milliW n = a at *
  generalize milliW m = b at *
  go_wp2_with fail
  refine (odd_any _ _ _ _ hr2 (by omega) hN hN').mono ?_
  rintro e w3 ⟨c, rfl, hg3, hr3⟩
  have hg := grown_trans (grown_trans hg1 hg2) hg3
  have HS := Lib.hid hS
  clear hS
  cases c
  · go_wp2_with fail
    go_ret
    exact ⟨_, _, HS.out.drawn, rfl, hg, q2 + 1, by omega, hr3⟩
  · go_wp2_with fail
    refine (pick_any _ _ _ _ hr3 (by omega) (by omega)).mono ?_
    rintro e w4 ⟨k, l1, l2, rfl, hg4, hr4⟩
    have hgg := grown_trans hg hg4
    clear hg hg1 hg2 hg3 hg4 hr1 hr2 hr3
    by_cases c0 : k = 0
    · subst c0
      go_wp2_with fail
      go_ret
      exact ⟨_, _, .inl (by unfold finC; rw [inf_nonfin]; rfl), rfl, hgg, q2 + 1 + 1, by omega, hr4⟩
    · have b0 : (k == 0) = false := by simpa using c0
      by_cases c1 : k = 1
      · subst c1
        go_wp2_with fail
        go_ret
        exact ⟨_, _, .inl (by unfold finC; rw [nanAns_nonfin]; simp), rfl, grown_drew hgg, q2 + 1 + 1, by omega, hr4⟩
      · have b1 : (k == 1) = false := by simpa using c1
        by_cases c2 : k = 2
        · subst c2
          go_wp2_with fail
          go_ret
          exact ⟨_, _, drawn_of fin_huge.1 (by rw [neg_huge]; exact fin_huge.2.1) iv_huge.1 (by rw [neg_huge]; exact iv_huge.2.1) (by unfold HH; decide +kernel), rfl, hgg, q2 + 1 + 1, by omega, hr4⟩
        · have b2 : (k == 2) = false := by simpa using c2
          by_cases c3 : k = 3
          · subst c3
            go_wp2_with fail
            go_ret
            exact ⟨_, _, Small.drawn (by unfold Small; decide +kernel), rfl, hgg, q2 + 1 + 1, by omega, hr4⟩
          · have b3 : (k == 3) = false := by simpa using c3
            by_cases c4 : k = 4
            · subst c4
              obtain ⟨z, z1, z2, z3⟩ := mul0_some (neg_neg_fin HS.out.1)
              obtain ⟨y, y1, y2, y3⟩ := mul0_some (neg_neg_fin HS.out.2.1)
              have k6 := fun W : World => run_float_arith (P := Try.prog) W .mul 43 .f32 _ 0 _ z1
              have k7 := fun W : World => run_float_arith (P := Try.prog) W .mul 43 .f32 _ 0 _ y1
              have Z := Lib.hid z3
              have Y := Lib.hid y3
              clear z1 y1 z3 y3
              go_wp2_with fail
              go_ret
              exact ⟨_, _, Small.drawn ⟨z2, y2, by rw [Z.out]; simp, by rw [Y.out]; simp⟩, rfl, hgg, q2 + 1 + 1, by omega, hr4⟩
            · have b4 : (k == 4) = false := by simpa using c4
              go_wp2_with fail
              go_ret
              exact ⟨_, _, drawn_of fin_huge.2.2.1 HS.out.1 iv_huge.2.2.1 HS.out.2.2.1 (HH_two (Nat.le_refl _) (Nat.le_refl _)), rfl, hgg, q2 + 1 + 1, by omega, hr4⟩
end Go.Proofs.Ytcnlgoghnlcndaa
