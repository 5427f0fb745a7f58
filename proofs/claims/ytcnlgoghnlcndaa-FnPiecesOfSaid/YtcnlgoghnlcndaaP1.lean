/- Walks: PowersOf (impl and spec). -/
import Derived.Test.YtcnlgoghnlcndaaT6
import Derived.Test.YtcnlgoghnlcndaaEg
import Derived.Test.YtcnlgoghnlcndaaWs
namespace Go.Proofs.Ytcnlgoghnlcndaa
open Go.RowKit Ieee

/-! Plain: the power of a number. -/
def pwN (z : Num) : Nat :=
  ((floatToFloatBits .f32 z.1 .f64).bind fun x => (floatToFloatBits .f32 z.2 .f64).bind fun y => (floatBits .mul .f64 x x).bind fun p => (floatBits .mul .f64 y y).bind fun q => floatBits .add .f64 p q).getD 0

theorem sq_word {x : Nat} (h : fin double x = true) : ∃ r, floatBits .mul .f64 x x = some (double.word false r) ∧ r < double.signWeight := by
  refine ⟨rt double (tm double) (magU double (rung double x) * magU double (rung double x)), ?_, rt_lt_sw double⟩
  have := mul_fin double (by decide) h h
  rw [Bool.xor_self] at this
  exact this
theorem zero_add_word {r : Nat} (hr : r < double.signWeight) (h : fin double (double.word false r) = true) : floatBits .add .f64 0 (double.word false r) = some (double.word false r) := by
  have h0 : fin double 0 = true ∧ iv double 0 = 0 ∧ ngt double 0 = false := by decide +kernel
  have ha := add_fin double h0.1 h
  have hiv : iv double (double.word false r) = (magU double r : Int) := by rw [iv_word double hr]; rfl
  have hri : r < double.infRung := by rw [fin_word double hr] at h; exact of_decide_eq_true h
  rw [h0.2.1, h0.2.2, Int.zero_add, hiv, Bool.false_and] at ha
  have e1 : (if (magU double r : Int) = 0 then false else decide ((magU double r : Int) < 0)) = false := by
    split
    · rfl
    · simp
  have e2 : rt double 0 (magU double r : Int).natAbs = r := by
    have := rt_exact double (t := 0) hri
    rw [Nat.pow_zero, Nat.mul_one] at this
    rw [Int.natAbs_natCast, this]
  rw [e1, e2] at ha
  exact ha

theorem pow_vars {z : Num} (h : finN z = true) : ∃ x y p q s : Nat, floatToFloatBits .f32 z.1 .f64 = some x ∧ floatToFloatBits .f32 z.2 .f64 = some y ∧ floatBits .mul .f64 x x = some p ∧ floatBits .mul .f64 y y = some q ∧
    floatBits .add .f64 0 p = some p ∧ floatBits .add .f64 p q = some s ∧ pwN z = s ∧ fin double s = true ∧ iv double s = rI double 0 (sqI z.1 + sqI z.2) := by
  obtain ⟨f1, f2⟩ := finC_parts h
  obtain ⟨x, ex, gx, _⟩ := conv_up f1
  obtain ⟨y, ey, gy, _⟩ := conv_up f2
  obtain ⟨p, p1, p2', p3⟩ := mul_up f1 f1 ex ex
  obtain ⟨q, q1, q2, q3⟩ := mul_up f2 f2 ey ey
  obtain ⟨r, r1, r2⟩ := sq_word gx
  have ep : p = double.word false r := Option.some.inj (p1.symm.trans r1)
  have hz : floatBits .add .f64 0 p = some p := by rw [ep] at p2' ⊢; exact zero_add_word r2 p2'
  obtain ⟨s, t1, t2, t3⟩ := add_iv double p2' q2
  have e1 : iv double p = sqI z.1 := p3
  have e2 : iv double q = sqI z.2 := q3
  rw [e1, e2] at t2 t3
  have hb : rF double 0 (sqI z.1 + sqI z.2) = true := by
    refine (rI_le (e := 1331) (by omega) ?_).1
    have h1 := sq_lt f1
    have h2 := sq_lt f2
    have h3 : p2 1331 = 2 * p2 1330 := p2_succ _
    omega
  have m1 : floatBits .mul .f64 x x = some p := p1
  have m2 : floatBits .mul .f64 y y = some q := q1
  have m3 : floatBits .add .f64 p q = some s := t1
  refine ⟨x, y, p, q, s, ex, ey, m1, m2, hz, m3, ?_, by rw [t2, hb], t3⟩
  unfold pwN
  simp [ex, ey, m1, m2, m3]

def powF (xs : List Num) (k : Nat) : Nat := pwN (dftN xs k)
def powL (xs : List Num) : List Nat := (List.range xs.length).map (powF xs)
theorem powL_length (xs : List Num) : (powL xs).length = xs.length := by simp [powL]
theorem powL_at {xs : List Num} {k : Nat} (h : k < xs.length) : (powL xs).getD k 0 = powF xs k := getD_range (powF xs) 0 h
theorem dftL_at {xs : List Num} {k : Nat} (h : k < xs.length) : (dftL xs).getD k (0, 0) = dftN xs k := getD_range (dftN xs) (0, 0) h

theorem own_mono {w : World} {base base' E n : Nat} {v : Value} {xs : List Value} (h : w.ownsRow base E 1 v n xs) (hb : base' ≤ base) : w.ownsRow base' E 1 v n xs := by
  refine ⟨h.1, ?_⟩
  rcases h.2 with h | ⟨g, c, cur, a, b, rest⟩
  · exact .inl h
  · exact .inr ⟨g, c, cur, a, Nat.le_trans hb b, rest⟩
theorem MadeT.from {α : Type} {E : TypeId} {T : α → Value} {xs : List α} {ok : Bool} {w w1 w' : World} {e : Ending} (h : MadeT E T xs ok w1 e w') (hg : w.grownBy w1 none) : MadeT E T xs ok w e w' := by
  obtain ⟨v, a, b, c⟩ := h
  exact ⟨v, a, own_mono b hg.size, grown_trans hg c⟩

set_option maxRecDepth 100000 in
set_option maxHeartbeats 4000000 in
theorem PowersOf_yes (A : Option Addr) (n cap : Nat) (xs : List Num) (w : World) (h : Sig w A n xs) (hs : sizeOk xs = true) (hc : Calm xs) :
    Calls Try.prog 54 #[.slice A n cap] w (MadeT 42 F64 (powL xs) true w) := by
  have hl := h.1
  obtain ⟨_, _, hn1, hn16⟩ := sizeOk_parts hs
  rw [hl] at hn1 hn16
  have H := Lib.hid h
  have HL := Lib.hid hl
  have HS := Lib.hid hs
  have HC := Lib.hid hc
  clear h hl hs hc
  go_enter Try.func54, Try.ntmps54
  go_wp2_with fail
  refine (TransformOf_yes _ _ _ _ _ H.out HS.out HC.out).mono ?_
  intro e w1 hm
  obtain ⟨B, c, rfl, hcc, hcm, hr, ho, hg⟩ := hm.out (0, 0) (by rw [dftL_length, HL.out]; omega)
  rw [dftL_length, HL.out] at hr hcc ⊢
  have S := Lib.hid (Sig.rw hr)
  have G := Lib.hid hg
  clear hm ho hr hg
  unfold maxLen at hcm
  go_wp2_with (at_make; go_must (refine make_row (T := F64) 0 _ rfl _ _ 55 42 8 rfl Try.underlying55 info42 rfl (by decide) n n rfl rfl rfl (by omega) ?_); intro w2 ho hg; have hst : FillSt 42 F64 (powF xs) n w1 0 w2 := FillSt.start 0 ho hg; clear ho hg)
  go_loopw [23] (fun i wr => ∃ k : Nat, k ≤ n ∧ i = .int .i64 k ∧ FillSt 42 F64 (powF xs) n w1 k wr) (fun i _ => n - (intOf i).toNat)
  case atStart => exact ⟨0, Nat.zero_le _, rfl, hst⟩
  case round =>
    obtain ⟨k, hk, rfl, h⟩ := hrel
    clear hst
    by_cases hlt : k < n
    · obtain ⟨_, _, _, _, hgr⟩ := id h
      obtain ⟨b, o, rfl, hbs, hcell⟩ := (S.out.grown hgr).2.2 k hlt
      rw [dftL_at (by rw [HL.out]; exact hlt)] at hcell
      clear hgr
      obtain ⟨x, y, p, q, s, c1, c2, c3, c4, c5, c6, c7, c8, c9⟩ := pow_vars (dftN_fin HC.out k)
      obtain ⟨⟨u, hu⟩, hf⟩ := h.cell k hlt
      have hs2 := h.step hlt
      have e1 : powF xs k = s := c7
      rw [e1] at hs2
      unfold F64 at hs2
      unfold C at hcell
      have HS2 := Lib.hid hs2
      clear hs2 e1 c5 c7 c8 c9
      generalize dftN xs k = z at *
      have k1 := fun W : World => run_convert_float_float (P := Try.prog) W 43 42 .f32 .f64 z.1 x some43 Try.underlying42 c1
      have k2 := fun W : World => run_convert_float_float (P := Try.prog) W 43 42 .f32 .f64 z.2 y some43 Try.underlying42 c2
      have k3 := fun W : World => run_float_arith (P := Try.prog) W .mul 42 .f64 x x p c3
      have k4 := fun W : World => run_float_arith (P := Try.prog) W .mul 42 .f64 y y q c4
      have k5 := fun W : World => run_float_arith (P := Try.prog) W .add 42 .f64 p q s c6
      clear c1 c2 c3 c4 c6
      go_wp2_with fail
      go_roundw
      case rel => exact ⟨k + 1, by omega, by go_num, HS2.out⟩
      case measure => simp [intOf]; omega
    · go_wp2_with fail
      go_ret2
      have hd := (h.doneT (by omega)).from G.out
      unfold powL
      rw [HL.out]
      exact hd

set_option maxRecDepth 100000 in
set_option maxHeartbeats 4000000 in
theorem PowersOf_no (A : Option Addr) (n cap : Nat) (xs : List Num) (w : World) (h : Sig w A n xs) (hs : sizeOk xs = false) :
    Calls Try.prog 54 #[.slice A n cap] w fun e w' => e = .returned (.tuple #[.slice none 0 0, .bool false]) ∧ ∃ d, w.drewN d = w' := by
  have H := Lib.hid h
  have HS := Lib.hid hs
  clear h hs
  go_enter Try.func54, Try.ntmps54
  go_wp2_with fail
  refine (TransformOf_no _ _ _ _ _ H.out HS.out).mono ?_
  rintro e w' ⟨rfl, d, rfl⟩
  go_wp2_with fail
  go_ret2
  exact ⟨rfl, _, rfl⟩
end Go.Proofs.Ytcnlgoghnlcndaa
