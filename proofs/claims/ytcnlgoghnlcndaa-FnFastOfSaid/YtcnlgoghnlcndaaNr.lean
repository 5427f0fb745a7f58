/- Walks: Near, nearSignal. -/
import Derived.Test.YtcnlgoghnlcndaaAf
import Derived.Test.YtcnlgoghnlcndaaW4
import Derived.BigQuiet
import Derived.Test.YtcnlgoghnlcndaaW8
namespace Go.Proofs.Ytcnlgoghnlcndaa
open Go.RowKit Ieee

theorem some34 : (Try.prog.underlying 34).isSome = true := by kernel_rfl
def bnd : Nat := 4576918229304087675
theorem bnd_fin : fin double 4576918229304087675 = true := by decide +kernel
theorem bnd_iv : ((100000 * p2 1049 : Nat) : Int) ≤ iv double 4576918229304087675 := by decide +kernel

theorem negD_rung (a : Nat) : rung double (Op.negFloat .f64 a) = rung double a := by
  unfold rung Op.negFloat
  show (a ^^^ 2 ^ 63) % 2 ^ 63 = a % 2 ^ 63
  rw [Nat.xor_mod_two_pow]
  simp
theorem negD_ngt (a : Nat) : ngt double (Op.negFloat .f64 a) = !ngt double a := by
  unfold ngt Op.negFloat
  show ((a ^^^ 2 ^ 63) / 2 ^ 63 % 2 == 1) = !(a / 2 ^ 63 % 2 == 1)
  rw [← Nat.shiftRight_eq_div_pow, ← Nat.shiftRight_eq_div_pow, Nat.shiftRight_xor_distrib]
  have : 2 ^ 63 >>> 63 = 1 := by decide
  rw [this]
  rw [show (a >>> 63 ^^^ 1) % 2 = (a >>> 63 % 2 ^^^ 1 % 2) from Nat.xor_mod_two_pow (n := 1)]
  rcases Nat.mod_two_eq_zero_or_one (a >>> 63) with h | h <;> rw [h] <;> rfl
theorem negD_fin (a : Nat) : fin double (Op.negFloat .f64 a) = fin double a := by
  unfold fin; rw [negD_rung]
theorem negD_iv (a : Nat) : iv double (Op.negFloat .f64 a) = -iv double a := by
  unfold iv; rw [negD_rung, negD_ngt, sgn_not]
theorem leD {a b : Nat} (ha : fin double a = true) (hb : fin double b = true) (h : iv double a ≤ iv double b) :
    (FloatKind.f64.format.order a b == some .lt || FloatKind.f64.format.order a b == some .eq) = true := by
  show (double.order a b == some .lt || double.order a b == some .eq) = true
  rw [cmp_lt double ha hb, cmp_eq double ha hb]
  simp only [Bool.or_eq_true, decide_eq_true_eq]
  omega
theorem ltD0 {a : Nat} (ha : fin double a = true) : (FloatKind.f64.format.order a 0 == some .lt) = decide (iv double a < 0) := by
  show (double.order a 0 == some .lt) = _
  rw [cmp_lt double ha (by decide +kernel), show iv double 0 = 0 by decide +kernel]

/-- The difference of two near parts, as float64. -/
theorem near_part {a b : Nat} (fa : fin single a = true) (fb : fin single b = true) (h : (iv single a - iv single b).natAbs ≤ 100000 * p2 124) :
    ∃ x y d, floatToFloatBits .f32 a .f64 = some x ∧ floatToFloatBits .f32 b .f64 = some y ∧ floatBits .sub .f64 x y = some d ∧ fin double d = true ∧
      -iv double 4576918229304087675 ≤ iv double d ∧ iv double d ≤ iv double 4576918229304087675 := by
  obtain ⟨x, x1, x2, x3⟩ := conv_up fa
  obtain ⟨y, y1, y2, y3⟩ := conv_up fb
  obtain ⟨d, d1, d2, d3⟩ := sub_iv double x2 y2
  have hE : (iv double x - iv double y).natAbs ≤ 100000 * p2 1049 := by
    have e : p2 1049 = p2 124 * p2 925 := by rw [← p2_add]
    rw [x3, y3, ← Int.sub_mul, Int.natAbs_mul, Int.natAbs_natCast, e, ← Nat.mul_assoc]
    exact Nat.mul_le_mul_right _ h
  have hW := bnd_iv
  have hF : rF double 0 (iv double 4576918229304087675) = true := by
    have := rF_iv double 0 bnd_fin
    rwa [Nat.pow_zero, Int.natCast_one, Int.mul_one] at this
  have hFE : rF double 0 (iv double x - iv double y) = true := rF_mono double (by omega) hF
  have hFn : rF double 0 (-iv double 4576918229304087675) = true := rF_mono double (by omega) hF
  refine ⟨x, y, d, x1, y1, d1, by rw [d2, hFE], ?_, ?_⟩
  · have := rI_mono double (t := 0) (E := -iv double 4576918229304087675) (E' := iv double x - iv double y) (by omega) hFn hFE
    rw [rI_neg, rI_iv0 double bnd_fin, ← d3] at this
    exact this
  · have := rI_mono double (t := 0) (E := iv double x - iv double y) (E' := iv double 4576918229304087675) (by omega) hFE hF
    rw [rI_iv0 double bnd_fin, ← d3] at this
    exact this

set_option maxRecDepth 100000 in
set_option maxHeartbeats 4000000 in
theorem Near_yes (a b : Num) (w : World) (h : NearN a b) : Calls Try.prog 120 #[C a, C b, .float .f64 4576918229304087675] w fun e w' => e = .returned (.bool true) ∧ w = w' := by
  obtain ⟨f1, f2, f3, f4, h1, h2⟩ := h
  obtain ⟨x, y, d, x1, y1, d1, fd, l1, l2⟩ := near_part f1 f3 h1
  obtain ⟨u, v, e, u1, v1, e1, fe, l3, l4⟩ := near_part f2 f4 h2
  obtain ⟨a1, a2⟩ := a
  obtain ⟨b1, b2⟩ := b
  simp only at f1 f2 f3 f4 x1 y1 u1 v1
  have k1 := fun W : World => run_convert_complex (P := Try.prog) W 34 103 .f32 .f64 a1 a2 x u some34 Try.underlying103 (by simp [cConvBits, x1, u1])
  have k2 := fun W : World => run_convert_complex (P := Try.prog) W 34 103 .f32 .f64 b1 b2 y v some34 Try.underlying103 (by simp [cConvBits, y1, v1])
  have k3 := fun W : World => run_complex_sum (P := Try.prog) W .sub (.inr rfl) 103 .f64 x u y v d e (by simp [cSumBits, d1, e1])
  have F1 := Lib.hid f1
  have F2 := Lib.hid f2
  have F3 := Lib.hid f3
  have F4 := Lib.hid f4
  have o1 := ltD0 fd
  have o2 := ltD0 fe
  unfold C
  have p1' : (FloatKind.f64.format.order (Op.negFloat .f64 d) 4576918229304087675 == some .lt || FloatKind.f64.format.order (Op.negFloat .f64 d) 4576918229304087675 == some .eq) = true := leD (by rw [negD_fin]; exact fd) bnd_fin (by rw [negD_iv]; omega)
  have p2a : (FloatKind.f64.format.order e 4576918229304087675 == some .lt || FloatKind.f64.format.order e 4576918229304087675 == some .eq) = true := leD fe bnd_fin l4
  have p2' : (FloatKind.f64.format.order (Op.negFloat .f64 e) 4576918229304087675 == some .lt || FloatKind.f64.format.order (Op.negFloat .f64 e) 4576918229304087675 == some .eq) = true := leD (by rw [negD_fin]; exact fe) bnd_fin (by rw [negD_iv]; omega)
  have p1a := leD fd bnd_fin l2
  clear x1 y1 d1 u1 v1 e1 l1 l2 l3 l4 h1 h2 f1 f2 f3 f4
  generalize decide (iv double d < 0) = bd at *
  generalize decide (iv double e < 0) = be at *
  clear fd fe
  cases bd <;> cases be
  all_goals
    go_enter Try.func120, Try.ntmps120
    go_wp2_with fail
    refine (finite_yes _ _ _ F1.out F2.out).mono ?_
    rintro e' w' ⟨rfl, rfl⟩
    go_wp2_with fail
    refine (finite_yes _ _ _ F3.out F4.out).mono ?_
    rintro e' w' ⟨rfl, rfl⟩
    go_wp2_with fail
    go_ret
    exact ⟨rfl, rfl⟩

set_option maxHeartbeats 2000000 in
theorem nearSignal_yes (A B : Option Addr) (n c1 c2 : Nat) (xs ys : List Num) (w : World) (h : Sig w A n xs) (h' : Sig w B n ys)
    (hv : ∀ k, k < n → NearN (xs.getD k (0, 0)) (ys.getD k (0, 0))) :
    Calls Try.prog 80 #[.slice A n c1, .slice B n c2, .float .f64 4576918229304087675] w fun e w' => e = .returned (.bool true) ∧ ∃ d, w.drewN d = w' := by
  have hn := h.2.1
  have HX := Lib.hid h.2.2
  have HY := Lib.hid h'.2.2
  have HV := Lib.hid hv
  clear h h' hv
  go_enter Try.func80, Try.ntmps80
  go_wp2_with fail
  go_loopw [7] (fun i wr => ∃ k : Nat, k ≤ n ∧ i = .int .i64 k ∧ ∃ d, w.drewN d = wr) (fun i _ => n - (intOf i).toNat)
  case atStart => exact ⟨0, Nat.zero_le _, rfl, 0, rfl⟩
  case round =>
    obtain ⟨k, hk, rfl, d, rfl⟩ := hrel
    by_cases hlt : k < n
    · obtain ⟨b, o, rfl, hbs, hcell⟩ := HX.out k hlt
      obtain ⟨b', o', rfl, hbs', hcell'⟩ := HY.out k hlt
      have hvk := Lib.hid (HV.out k hlt)
      generalize xs.getD k (0, 0) = z at *
      generalize ys.getD k (0, 0) = y at *
      have HNr := Lib.hid (fun W : World => Near_yes z y W hvk.out)
      unfold C at hcell hcell' HNr
      clear hvk
      go_wp2_with fail
      go_quiet ((go_at_call 120; exact quiet_more (HNr.out _)))
      go_wp2_with fail
      go_roundw
      case rel => exact ⟨k + 1, by omega, by go_num, _, rfl⟩
      case measure => simp [intOf]; omega
    · have hkn : k = n := by omega
      subst hkn
      go_wp2_with fail
      go_ret
      exact ⟨rfl, d, rfl⟩
end Go.Proofs.Ytcnlgoghnlcndaa
