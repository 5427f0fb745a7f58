/- Plain and walks: Windowed (impl). -/
import Derived.Test.YtcnlgoghnlcndaaEg
import Derived.Test.YtcnlgoghnlcndaaP1
import Derived.Test.YtcnlgoghnlcndaaWs
import Derived.StillTailTactics
namespace Go.Proofs.Ytcnlgoghnlcndaa
open Go.RowKit Ieee

/-! Plain: times a number from 0 on and at most 1. -/
def Unit01 (a : Nat) : Prop := fin single a = true ∧ 0 ≤ iv single a ∧ iv single a ≤ p2 149
theorem mul01 {x a : Nat} (hx : fin single x = true) (ha : Unit01 a) : ∃ r, floatBits .mul .f32 x a = some r ∧ fin single r = true ∧ (iv single r).natAbs ≤ (iv single x).natAbs ∧ iv single r = rI single 149 (iv single x * iv single a) := by
  obtain ⟨r, h1, h2, h3⟩ := mul_iv single (by decide) hx ha.1
  have et : tm single = 149 := by decide
  rw [et] at h2 h3
  have hE : (iv single x * iv single a).natAbs ≤ (iv single x * (p2 149 : Int)).natAbs := by
    rw [Int.natAbs_mul, Int.natAbs_mul]
    have := ha.2
    exact Nat.mul_le_mul_left _ (by omega)
  have g1 : rF single 149 (iv single x * (p2 149 : Int)) = true := rF_iv single 149 hx
  have g2 : rI single 149 (iv single x * (p2 149 : Int)) = iv single x := rI_iv single 149 hx
  have hF := rF_mono single hE g1
  refine ⟨r, h1, by rw [h2, hF], ?_, h3⟩
  rw [h3]
  have h5 := rt_mono single (t := 149) hE
  have h6 := magU_mono single h5 (of_decide_eq_true g1)
  unfold rI
  rw [natAbs_sgn]
  have h7 : (iv single x).natAbs = magU single (rt single 149 (iv single x * (p2 149 : Int)).natAbs) := by
    conv => lhs; rw [← g2]
    unfold rI
    rw [natAbs_sgn]
  rw [h7]
  exact h6

theorem win_unit0 : ∀ n ∈ sizes, ∀ kd : Nat, kd < 3 → ∀ k, k < n → fin single (winW kd n k) = true ∧ 0 ≤ iv single (winW kd n k) ∧ iv single (winW kd n k) ≤ p2 149 := by decide +kernel
theorem win_unit {kd : Int} {n : Nat} (h : winOk kd n = true) {k : Nat} (hk : k < n) : Unit01 (winW kd n k) := by
  obtain ⟨hkd, m, hm, hs⟩ := winOk_in h
  obtain rfl : n = m := by omega
  rcases hkd with rfl | rfl | rfl
  · exact win_unit0 n hs 0 (by omega) k hk
  · exact win_unit0 n hs 1 (by omega) k hk
  · exact win_unit0 n hs 2 (by omega) k hk

/-- A number times a part of a window. -/
def wdN (z : Num) (a : Nat) : Num := ((floatBits .mul .f32 z.1 a).getD 0, (floatBits .mul .f32 z.2 a).getD 0)
theorem wd_some {z : Num} {a : Nat} (h : finN z = true) (ha : Unit01 a) : floatBits .mul .f32 z.1 a = some (wdN z a).1 ∧ floatBits .mul .f32 z.2 a = some (wdN z a).2 ∧ finN (wdN z a) = true ∧
    (iv single (wdN z a).1).natAbs ≤ (iv single z.1).natAbs ∧ (iv single (wdN z a).2).natAbs ≤ (iv single z.2).natAbs := by
  obtain ⟨f1, f2⟩ := finC_parts h
  obtain ⟨r, r1, r2, r3, _⟩ := mul01 f1 ha
  obtain ⟨s, s1, s2, s3, _⟩ := mul01 f2 ha
  have e : wdN z a = (r, s) := by unfold wdN; rw [r1, s1]; rfl
  rw [e]
  exact ⟨r1, s1, by unfold finN finC; rw [r2, s2]; rfl, r3, s3⟩
def wdF (xs : List Num) (kd : Int) (k : Nat) : Num := wdN (xs.getD k (0, 0)) (winW kd xs.length k)
def wdL (xs : List Num) (kd : Int) : List Num := (List.range xs.length).map (wdF xs kd)
theorem wdL_length (xs : List Num) (kd : Int) : (wdL xs kd).length = xs.length := by simp [wdL]

theorem fin_at' {xs : List Num} (h : xs.all finN = true) {k : Nat} (hk : k < xs.length) : finN (xs.getD k (0, 0)) = true := by
  have e : xs.getD k (0, 0) = xs[k] := by simp [List.getD, hk]
  rw [e]
  exact List.all_eq_true.1 h _ (List.getElem_mem hk)

theorem winL_at {kd : Int} {n k : Nat} (hk : k < n) : (winL kd n).getD k 0 = winW kd n k := getD_range (winW kd n) 0 hk

set_option maxRecDepth 100000 in
set_option maxHeartbeats 8000000 in
theorem Windowed_yes (A : Option Addr) (n cap : Nat) (kd : Int) (xs : List Num) (w : World) (h : Sig w A n xs) (hs : sigOk xs = true) (hw : winOk kd n = true) :
    Calls Try.prog 56 #[.slice A n cap, .int .i64 kd] w (MadeT 34 C (wdL xs kd) true w) := by
  have hl := h.1
  have hn16 : n ≤ 16 ∧ 2 ≤ n := by
    obtain ⟨_, m, hm, hs'⟩ := winOk_in hw
    obtain rfl : n = m := by omega
    rcases sizes_of hs' with rfl | rfl | rfl | rfl <;> omega
  have hwl : (winL kd n).length = n := by simp [winL]
  have H := Lib.hid h
  have HS := Lib.hid hs
  have HL := Lib.hid hl
  have HW := Lib.hid hw
  have HWL := Lib.hid hwl
  clear h hs hl hw hwl
  go_enter Try.func56, Try.ntmps56
  go_wp2_with fail
  refine (SignalOk_any _ _ _ _ _ H.out).mono ?_
  rw [HS.out]
  rintro e w' ⟨rfl, d, rfl⟩
  go_wp2_with fail
  refine (WindowOf_yes kd n _ HW.out).mono ?_
  intro e w1 hmd
  obtain ⟨v, rfl, ho, hg⟩ := hmd
  rw [HWL.out] at ho
  rcases ho.2 with ⟨_, h0⟩ | ⟨g, c2, cur, rfl, hbg, hgg2, hnc, hcm2, hcs, htk⟩
  · omega
  obtain ⟨A2, c2', hv, hc2, _, hr2⟩ := own_form 0 ho (by omega)
  cases hv
  have hg' : w.grownBy w1 none := ⟨hg.os, hg.tape, hg.output, hg.size, hg.block⟩
  have R := Lib.hid hr2
  have G1 := Lib.hid hg'
  have S1 := Lib.hid (H.out.grown hg')
  clear hgg2 hcs htk ho hr2 hg hg'
  unfold maxLen at hcm2
  have hnl := fun W : World => Lib.run_eql_slice_nil (P := Try.prog) W 29 43 (some ⟨g, 0, none⟩) n c2 0 0 Try.underlying29
  go_wp2_with (at_make; go_must (refine make_row (T := C) (0, 0) _ rfl _ _ 37 34 8 rfl Try.underlying37 info34 rfl (by decide) n n rfl rfl rfl (by omega) ?_); intro w2 ho hg; have hst : FillSt 34 C (wdF xs kd) n w1 0 w2 := FillSt.start (0, 0) ho hg; clear ho hg)
  go_loopw [24] (fun i wr => ∃ k : Nat, k ≤ n ∧ i = .int .i64 k ∧ FillSt 34 C (wdF xs kd) n w1 k wr) (fun i _ => n - (intOf i).toNat)
  case atStart => exact ⟨0, Nat.zero_le _, rfl, hst⟩
  case round =>
    obtain ⟨k, hk, rfl, h⟩ := hrel
    clear hst
    by_cases hlt : k < n
    · obtain ⟨_, _, _, _, hgr⟩ := id h
      obtain ⟨b, o, rfl, hbs, hcell⟩ := (S1.out.grown hgr).2.2 k hlt
      obtain ⟨b', o', e', hbs', hcell'⟩ := (R.out.grown hgr).2.2 k hlt
      cases e'
      rw [winL_at hlt] at hcell'
      obtain ⟨m1, m2, m3, _, _⟩ := wd_some (fin_at' (sigOk_parts HS.out).2 (by rw [HL.out]; exact hlt)) (win_unit HW.out hlt)
      obtain ⟨⟨u, hu⟩, hfz⟩ := h.cell k hlt
      have hs2 := (h.step hlt).drewN 1
      have e1 : wdF xs kd k = wdN (xs.getD k (0, 0)) (winW kd n k) := by unfold wdF; rw [HL.out]
      rw [e1] at hs2
      generalize xs.getD k (0, 0) = z at *
      generalize winW kd n k = a at *
      generalize wdN z a = q at *
      unfold C at hcell hs2
      unfold F32 at hcell'
      rw [Nat.zero_add] at hcell'
      have k1 := fun W : World => run_float_arith (P := Try.prog) W .mul 43 .f32 _ _ _ m1
      have k2 := fun W : World => run_float_arith (P := Try.prog) W .mul 43 .f32 _ _ _ m2
      have HS2 := Lib.hid hs2
      have i1 : (0 : Int) ≤ (k : Int) := by omega
      have i2 : (k : Int) < (n : Int) := by omega
      clear hs2 e1 hgr h m1 m2 m3
      go_wp2_with fail
      go_region
      go_wp2_with fail
      go_roundw
      case rel => exact ⟨k + 1, by omega, by go_num, HS2.out⟩
      case measure => simp [intOf]; omega
    · go_wp2_with fail
      go_ret2
      have hd := (h.doneT (by omega)).from G1.out
      unfold wdL
      rw [HL.out]
      exact hd

set_option maxRecDepth 100000 in
theorem Windowed_no (A : Option Addr) (n cap : Nat) (kd : Int) (xs : List Num) (w : World) (h : Sig w A n xs) (hb : (sigOk xs && winOk kd n) = false) :
    Calls Try.prog 56 #[.slice A n cap, .int .i64 kd] w fun e w' => e = .returned (.tuple #[.slice none 0 0, .bool false]) ∧ ∃ d, w.drewN d = w' := by
  rcases Bool.eq_false_or_eq_true (sigOk xs) with hs | hs
  · rw [hs] at hb
    have HW : winOk kd n = false := by simpa using hb
    have hl := h.1
    go_enter Try.func56, Try.ntmps56
    go_wp2_with fail
    refine (SignalOk_any _ _ _ _ _ h).mono ?_
    rw [hs]
    rintro e w' ⟨rfl, d, rfl⟩
    go_wp2_with fail
    refine (WindowOf_no kd n _ HW).mono ?_
    rintro e w' ⟨rfl, rfl⟩
    have hnl := fun W : World => Lib.run_eql_slice_nil (P := Try.prog) W 29 43 none 0 0 0 0 Try.underlying29
    go_wp2_with fail
    go_ret2
    exact ⟨rfl, _, rfl⟩
  · go_enter Try.func56, Try.ntmps56
    go_wp2_with fail
    refine (SignalOk_any _ _ _ _ _ h).mono ?_
    rw [hs]
    rintro e w' ⟨rfl, d, rfl⟩
    go_wp2_with fail
    go_ret2
    exact ⟨rfl, _, rfl⟩
end Go.Proofs.Ytcnlgoghnlcndaa
