/- Walks: the functions that only reckon with one number (Finite, belowNormal, Flushed, Subnormal). -/
import Derived.Test.YtcnlgoghnlcndaaProg
import Derived.Test.YtcnlgoghnlcndaaCm
import Derived.WalkKit
import Derived.WalkLawsBesides
import Derived.WalkSpells
import Derived.Deep.QuietTactic
import Derived.BigQuiet
import Derived.Deep.RegionWith
import Derived.Lib.Hide
namespace Go.Proofs.Ytcnlgoghnlcndaa
open Go.RowKit Ieee

theorem unary_neg_float (k : FloatKind) (b : Nat) : Op.unary .neg (.float k b) = pure (.float k (Op.negFloat k b)) := rfl
theorem unary_neg_complex (k : FloatKind) (a b : Nat) : Op.unary .neg (.complex k a b) = pure (.complex k (Op.negFloat k a) (Op.negFloat k b)) := rfl
attribute [go_sem] unary_neg_float unary_neg_complex

/-- What a NaN is answered with. -/
def nanAns (k : FloatKind) (x y : Nat) (w : World) : Nat := (Question.nanBits k x y).cut (w.tape w.drawn (.nanBits k x y))

theorem run_float_none {P : Program} (w : World) (op : BinOp) (hop : op = .add ∨ op = .sub ∨ op = .mul ∨ op = .quo) (t : TypeId) (k : FloatKind) (x y : Nat) (h : floatBits op k x y = none) :
    (binOp op t (.float k x) (.float k y)).run P w = .ok (.float k (nanAns k x y w)) w.drew := by
  unfold floatBits at h
  rcases hop with rfl | rfl | rfl | rfl <;> simp only at h <;> (simp [binOp, Op.floatArith, h]; rfl)

theorem nanAns_nonfin (x y : Nat) (w : World) : fin single (nanAns .f32 x y w) = false := by
  unfold nanAns Question.cut fin rung
  simp only [decide_eq_false_iff_not]
  generalize w.tape w.drawn (.nanBits .f32 x y) = t
  show ¬ ((t % 2 * 2 ^ 31 + 2139095040 + 1 + t / 2 % 8388607) % 2 ^ 31 < 255 * 2 ^ 23)
  have h1 : t / 2 % 8388607 < 8388607 := Nat.mod_lt _ (by omega)
  generalize t / 2 % 8388607 = r at *
  rcases Nat.mod_two_eq_zero_or_one t with h | h <;> rw [h] <;> omega

theorem finite_32 {a : Nat} (h : fin single a = true) : floatBits .sub .f32 a a = some 0 := by
  have := sub_fin single h h
  rw [Int.sub_self] at this
  show single.sub a a = some 0
  rw [this]
  simp [rt_zero, Format.word]

theorem order_self0 : single.order 0 0 = some .eq := by decide +kernel
theorem order_nonfin_eq {a b : Nat} (h : fin single a = false) (hb : fin single b = true) : (single.order a b == some .eq) = false := by
  obtain ⟨m, k, e, _⟩ := read_fin single hb
  unfold Format.order
  rw [e]
  rcases read_nonfin single (by decide +kernel) h with ⟨s, e⟩ | ⟨s, t, e⟩
  · rw [e]; cases s <;> rfl
  · rw [e]; rfl

def finC (a b : Nat) : Bool := fin single a && fin single b

theorem fin0 : fin single 0 = true := by decide +kernel

set_option maxHeartbeats 400000 in
theorem finite_yes (a b : Nat) (w : World) (ha : fin single a = true) (hb : fin single b = true) :
    Calls Try.prog 94 #[.complex .f32 a b] w fun e w' => e = .returned (.bool true) ∧ w = w' := by
  have h1 := fun W : World => run_float_arith (P := Try.prog) W .sub 43 .f32 a a 0 (finite_32 ha)
  have h2 := fun W : World => run_float_arith (P := Try.prog) W .sub 43 .f32 b b 0 (finite_32 hb)
  clear ha hb
  have h3 : FloatKind.f32.format.order 0 0 = some .eq := order_self0
  go_enter Try.func94, Try.ntmps94
  go_wp2_with fail
  go_ret
  exact ⟨rfl, rfl⟩
theorem sub_none {a : Nat} (h : fin single a = false) : floatBits .sub .f32 a a = none := sub_self_nonfin single (by decide +kernel) h

set_option maxHeartbeats 400000 in
theorem finite_no1 (a b : Nat) (w : World) (ha : fin single a = false) :
    Calls Try.prog 94 #[.complex .f32 a b] w fun e w' => e = .returned (.bool false) ∧ w.drew = w' := by
  have h1 := fun W : World => run_float_none (P := Try.prog) W .sub (by simp) 43 .f32 a a (sub_none ha)
  have h3 : (FloatKind.f32.format.order (nanAns .f32 a a w) 0 == some .eq) = false := order_nonfin_eq (nanAns_nonfin a a w) fin0
  clear ha
  go_enter Try.func94, Try.ntmps94
  go_wp2_with fail
  go_ret
  exact ⟨rfl, rfl⟩

set_option maxHeartbeats 400000 in
theorem finite_no2 (a b : Nat) (w : World) (ha : fin single a = true) (hb : fin single b = false) :
    Calls Try.prog 94 #[.complex .f32 a b] w fun e w' => e = .returned (.bool false) ∧ w.drew = w' := by
  have h1 := fun W : World => run_float_arith (P := Try.prog) W .sub 43 .f32 a a 0 (finite_32 ha)
  have h2 := fun W : World => run_float_none (P := Try.prog) W .sub (by simp) 43 .f32 b b (sub_none hb)
  have h3 : FloatKind.f32.format.order 0 0 = some .eq := order_self0
  have h4 : (FloatKind.f32.format.order (nanAns .f32 b b w) 0 == some .eq) = false := order_nonfin_eq (nanAns_nonfin b b w) fin0
  clear ha hb
  go_enter Try.func94, Try.ntmps94
  go_wp2_with fail
  go_ret
  exact ⟨rfl, rfl⟩

theorem Finite_any (a b : Nat) (w : World) :
    Calls Try.prog 94 #[.complex .f32 a b] w fun e w' => e = .returned (.bool (finC a b)) ∧ ∃ n, w.drewN n = w' := by
  unfold finC
  rcases Bool.eq_false_or_eq_true (fin single a) with ha | ha
  · rcases Bool.eq_false_or_eq_true (fin single b) with hb | hb
    · rw [ha, hb]; exact (finite_yes a b w ha hb).mono fun e w' ⟨h, h'⟩ => ⟨h, 0, h'⟩
    · rw [ha, hb]; exact (finite_no2 a b w ha hb).mono fun e w' ⟨h, h'⟩ => ⟨h, 1, h'⟩
  · rw [ha]; exact (finite_no1 a b w ha).mono fun e w' ⟨h, h'⟩ => ⟨h, 1, h'⟩

/-! spec.Finite -/
set_option maxHeartbeats 400000 in
theorem sfinite_yes (a b : Nat) (w : World) (ha : fin single a = true) (hb : fin single b = true) :
    Calls Try.prog 41 #[.complex .f32 a b] w fun e w' => e = .returned (.bool true) ∧ w = w' := by
  have h1 := fun W : World => run_float_arith (P := Try.prog) W .sub 43 .f32 a a 0 (finite_32 ha)
  have h2 := fun W : World => run_float_arith (P := Try.prog) W .sub 43 .f32 b b 0 (finite_32 hb)
  clear ha hb
  have h3 : FloatKind.f32.format.order 0 0 = some .eq := order_self0
  go_enter Try.func41, Try.ntmps41
  go_wp2_with fail
  go_ret
  exact ⟨rfl, rfl⟩
set_option maxHeartbeats 400000 in
theorem sfinite_no1 (a b : Nat) (w : World) (ha : fin single a = false) :
    Calls Try.prog 41 #[.complex .f32 a b] w fun e w' => e = .returned (.bool false) ∧ w.drew = w' := by
  have h1 := fun W : World => run_float_none (P := Try.prog) W .sub (by simp) 43 .f32 a a (sub_none ha)
  have h3 : (FloatKind.f32.format.order (nanAns .f32 a a w) 0 == some .eq) = false := order_nonfin_eq (nanAns_nonfin a a w) fin0
  clear ha
  go_enter Try.func41, Try.ntmps41
  go_wp2_with fail
  go_ret
  exact ⟨rfl, rfl⟩
set_option maxHeartbeats 400000 in
theorem sfinite_no2 (a b : Nat) (w : World) (ha : fin single a = true) (hb : fin single b = false) :
    Calls Try.prog 41 #[.complex .f32 a b] w fun e w' => e = .returned (.bool false) ∧ w.drew = w' := by
  have h1 := fun W : World => run_float_arith (P := Try.prog) W .sub 43 .f32 a a 0 (finite_32 ha)
  have h2 := fun W : World => run_float_none (P := Try.prog) W .sub (by simp) 43 .f32 b b (sub_none hb)
  have h3 : FloatKind.f32.format.order 0 0 = some .eq := order_self0
  have h4 : (FloatKind.f32.format.order (nanAns .f32 b b w) 0 == some .eq) = false := order_nonfin_eq (nanAns_nonfin b b w) fin0
  clear ha hb
  go_enter Try.func41, Try.ntmps41
  go_wp2_with fail
  go_ret
  exact ⟨rfl, rfl⟩
theorem sFinite_any (a b : Nat) (w : World) :
    Calls Try.prog 41 #[.complex .f32 a b] w fun e w' => e = .returned (.bool (finC a b)) ∧ ∃ n, w.drewN n = w' := by
  unfold finC
  rcases Bool.eq_false_or_eq_true (fin single a) with ha | ha
  · rcases Bool.eq_false_or_eq_true (fin single b) with hb | hb
    · rw [ha, hb]; exact (sfinite_yes a b w ha hb).mono fun e w' ⟨h, h'⟩ => ⟨h, 0, h'⟩
    · rw [ha, hb]; exact (sfinite_no2 a b w ha hb).mono fun e w' ⟨h, h'⟩ => ⟨h, 1, h'⟩
  · rw [ha]; exact (sfinite_no1 a b w ha).mono fun e w' ⟨h, h'⟩ => ⟨h, 1, h'⟩

/-! belowNormal, Flushed, Subnormal of impl. -/
theorem ret_bool {a b : Bool} (h : a = b) : Ending.returned (.bool a) = .returned (.bool b) := by rw [h]
set_option maxHeartbeats 400000 in
theorem belowNormal_any (a : Nat) (w : World) (ha : fin single a = true) :
    Calls Try.prog 95 #[.float .f32 a] w fun e w' => e = .returned (.bool (lowB a)) ∧ w = w' := by
  by_cases hn : iv single a < 0
  · have h1 : (FloatKind.f32.format.order a 0 == some .lt) = true := by
      show (single.order a 0 == _) = _
      rw [lt_zero ha]; exact decide_eq_true hn
    have h2 : (FloatKind.f32.format.order (Op.negFloat .f32 a) 8388608 == some .lt) = lowB a := by
      rw [← neg_lowB a]
      exact lt_least (by rw [neg_fin, ha]) (by rw [neg_iv]; omega)
    clear hn ha
    go_enter Try.func95, Try.ntmps95
    go_wp2_with fail
    go_ret
    exact ⟨rfl, rfl⟩
  · have h1 : (FloatKind.f32.format.order a 0 == some .lt) = false := by
      show (single.order a 0 == _) = _
      rw [lt_zero ha]; exact decide_eq_false hn
    have h2 : (FloatKind.f32.format.order a 8388608 == some .lt) = lowB a := lt_least ha (by omega)
    clear hn ha
    go_enter Try.func95, Try.ntmps95
    go_wp2_with fail
    go_ret
    exact ⟨rfl, rfl⟩

/-- What Flushed gives for a part. -/
def flP (a : Nat) : Nat := if lowB a = true then 0 else a

set_option maxHeartbeats 400000 in
theorem Flushed_no (a b : Nat) (w : World) (h : finC a b = false) :
    Calls Try.prog 38 #[.complex .f32 a b] w fun e w' => e = .returned (.complex .f32 0 0) ∧ ∃ n, w.drewN n = w' := by
  go_enter Try.func38, Try.ntmps38
  go_wp2_with (go_at_call 94; refine (Finite_any _ _ _).mono ?_; rintro e w' ⟨rfl, n, rfl⟩)
  go_ret
  exact ⟨rfl, _, rfl⟩
set_option maxHeartbeats 400000 in
theorem Flushed_yes (a b : Nat) (w : World) (ha : fin single a = true) (hb : fin single b = true) :
    Calls Try.prog 38 #[.complex .f32 a b] w fun e w' => e = .returned (.complex .f32 (flP a) (flP b)) ∧ ∃ n, w.drewN n = w' := by
  have h : finC a b = true := by unfold finC; rw [ha, hb]; rfl
  have HA := Lib.hid ha
  have HB := Lib.hid hb
  clear ha hb
  unfold flP
  rcases Bool.eq_false_or_eq_true (lowB a) with h1 | h1 <;> rcases Bool.eq_false_or_eq_true (lowB b) with h2 | h2
  all_goals
    simp only [h1, h2, if_true, Bool.false_eq_true, if_false]
    go_enter Try.func38, Try.ntmps38
    go_wp2_with (first | (go_at_call 94; refine (finite_yes _ _ _ HA.out HB.out).mono ?_; rintro e w' ⟨rfl, rfl⟩) | (go_at_call_of 95 a; refine (belowNormal_any _ _ HA.out).mono ?_; rintro e w' ⟨rfl, rfl⟩) | (go_at_call_of 95 b; refine (belowNormal_any _ _ HB.out).mono ?_; rintro e w' ⟨rfl, rfl⟩))
    go_ret
    exact ⟨rfl, 0, rfl⟩
end Go.Proofs.Ytcnlgoghnlcndaa
