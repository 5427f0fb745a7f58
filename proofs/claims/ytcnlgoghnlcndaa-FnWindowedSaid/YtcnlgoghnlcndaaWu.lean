/- Plain and walk: SumOf of a signal with itself; box windows. -/
import Derived.Test.YtcnlgoghnlcndaaWt
import Derived.Test.YtcnlgoghnlcndaaPx
namespace Go.Proofs.Ytcnlgoghnlcndaa
open Go.RowKit Ieee

/-! Plain: half of a number, and twice that. -/
theorem box_half : ∀ n ∈ sizes, ∀ k, k < n → winW 0 n k = 1056964608 := by decide +kernel
theorem half_iv : fin single 1056964608 = true ∧ iv single 1056964608 = (p2 148 : Int) := by decide +kernel
theorem half_top : magU single (rt single 149 (magU single (single.infRung - 1) * p2 148)) * 2 ≤ magU single (single.infRung - 1) := by decide +kernel
theorem top_fin : rt single 149 (magU single (single.infRung - 1) * p2 148) < single.infRung := by decide +kernel
theorem top_fin0 : rF single 0 (magU single (single.infRung - 1) : Int) = true := by decide +kernel
theorem top_of {x : Nat} (hx : fin single x = true) : (iv single x).natAbs ≤ magU single (single.infRung - 1) := by
  rw [natAbs_iv]
  have h := fin_lt single hx
  exact magU_mono single (by omega) (by omega)

theorem half_low {x h : Nat} (hx : fin single x = true) (hm : floatBits .mul .f32 x 1056964608 = some h) : (iv single h).natAbs * 2 ≤ magU single (single.infRung - 1) := by
  obtain ⟨r, h1, h2, h3⟩ := mul_iv single (by decide) hx half_iv.1
  have e : floatBits .mul .f32 x 1056964608 = single.mul x 1056964608 := rfl
  rw [e, h1] at hm
  cases hm
  have et : tm single = 149 := by decide
  rw [et, half_iv.2] at h3
  rw [h3]
  unfold rI
  rw [natAbs_sgn, Int.natAbs_mul, Int.natAbs_natCast]
  have g := rt_mono single (t := 149) (Nat.mul_le_mul_right (p2 148) (top_of hx))
  have g2 := magU_mono single g top_fin
  have := half_top
  omega
theorem twice_fin {h : Nat} (hf : fin single h = true) (hl : (iv single h).natAbs * 2 ≤ magU single (single.infRung - 1)) : ∃ s, floatBits .add .f32 h h = some s ∧ fin single s = true := by
  obtain ⟨r, h1, h2, _⟩ := add_iv single hf hf
  refine ⟨r, h1, ?_⟩
  rw [h2]
  refine rF_mono single ?_ top_fin0
  rw [Int.natAbs_natCast]
  omega

def twN (z : Num) : Num := ((floatBits .add .f32 z.1 z.1).getD 0, (floatBits .add .f32 z.2 z.2).getD 0)
def TwOk (z : Num) : Prop := finN z = true ∧ floatBits .add .f32 z.1 z.1 = some (twN z).1 ∧ floatBits .add .f32 z.2 z.2 = some (twN z).2 ∧ finN (twN z) = true
theorem twOk_of {z : Num} (hz : finN z = true) (h1 : (iv single z.1).natAbs * 2 ≤ magU single (single.infRung - 1)) (h2 : (iv single z.2).natAbs * 2 ≤ magU single (single.infRung - 1)) : TwOk z := by
  obtain ⟨f1, f2⟩ := finC_parts hz
  obtain ⟨s, s1, s2⟩ := twice_fin f1 h1
  obtain ⟨t, t1, t2⟩ := twice_fin f2 h2
  have e : twN z = (s, t) := by unfold twN; rw [s1, t1]; rfl
  refine ⟨hz, ?_, ?_, ?_⟩
  · rw [e]; exact s1
  · rw [e]; exact t1
  · rw [e]; unfold finN finC; rw [s2, t2]; rfl
def twF (ys : List Num) (k : Nat) : Num := twN (ys.getD k (0, 0))
def twL (ys : List Num) : List Num := (List.range ys.length).map (twF ys)
theorem twL_length (ys : List Num) : (twL ys).length = ys.length := by simp [twL]

theorem wd_two {z : Num} (hz : finN z = true) : TwOk (wdN z 1056964608) := by
  obtain ⟨m1, m2, m3, _, _⟩ := wd_some hz (a := 1056964608) ⟨half_iv.1, by rw [half_iv.2]; decide +kernel, by rw [half_iv.2]; decide +kernel⟩
  obtain ⟨f1, f2⟩ := finC_parts hz
  exact twOk_of m3 (half_low f1 m1) (half_low f2 m2)

theorem box_two {xs : List Num} {n : Nat} (h : sigOk xs = true) (hl : xs.length = n) (hw : winOk 0 n = true) : ∀ k, k < n → TwOk ((wdL xs 0).getD k (0, 0)) := by
  intro k hk
  obtain ⟨_, m, hm, hs⟩ := winOk_in hw
  obtain rfl : n = m := by omega
  rw [show (wdL xs 0).getD k (0, 0) = wdF xs 0 k from getD_range (wdF xs 0) (0, 0) (by omega)]
  unfold wdF
  rw [hl, show winW 0 n k = 1056964608 from box_half n hs k hk]
  exact wd_two (fin_at' (sigOk_parts h).2 (by omega))

set_option maxRecDepth 100000 in
set_option maxHeartbeats 8000000 in
theorem SumOf_two (A : Option Addr) (n cap : Nat) (ys : List Num) (w : World) (h : Sig w A n ys) (hs : sigOk ys = true) (ht : ∀ k, k < n → TwOk (ys.getD k (0, 0))) :
    Calls Try.prog 58 #[.slice A n cap, .slice A n cap] w (MadeT 34 C (twL ys) true w) := by
  have hl := h.1
  have hn16 := (sigOk_parts hs).1
  rw [hl] at hn16
  have H := Lib.hid h
  have HS := Lib.hid hs
  have HL := Lib.hid hl
  have HT := Lib.hid ht
  clear h hs hl ht
  go_enter Try.func58, Try.ntmps58
  go_wp2_with fail
  refine (SignalOk_any _ _ _ _ _ H.out).mono ?_
  rw [HS.out]
  rintro e w' ⟨rfl, d, rfl⟩
  go_wp2_with fail
  refine (SignalOk_any _ _ _ _ _ (H.out.drewN d)).mono ?_
  rw [HS.out]
  rintro e w' ⟨rfl, d2, rfl⟩
  go_wp2_with (at_make; go_must (refine make_row (T := C) (0, 0) _ rfl _ _ 37 34 8 rfl Try.underlying37 info34 rfl (by decide) n n rfl rfl rfl (by omega) ?_); intro w1 ho hg; have hst : FillSt 34 C (twF ys) n w 0 w1 := fill_start (0, 0) ho hg; clear ho hg)
  go_loopw [29] (fun i wr => ∃ k : Nat, k ≤ n ∧ i = .int .i64 k ∧ FillSt 34 C (twF ys) n w k wr) (fun i _ => n - (intOf i).toNat)
  case atStart => exact ⟨0, Nat.zero_le _, rfl, hst⟩
  case round =>
    obtain ⟨k, hk, rfl, h⟩ := hrel
    clear hst
    by_cases hlt : k < n
    · obtain ⟨_, _, _, _, hgr⟩ := id h
      obtain ⟨b, o, rfl, hbs, hcell⟩ := (H.out.grown hgr).2.2 k hlt
      obtain ⟨m0, m1, m2, m3⟩ := HT.out k hlt
      obtain ⟨⟨u, hu⟩, hfz⟩ := h.cell k hlt
      have hs2 := h.step hlt
      have e1 : twF ys k = twN (ys.getD k (0, 0)) := rfl
      rw [e1] at hs2
      generalize ys.getD k (0, 0) = z at *
      generalize twN z = q at *
      unfold C at hcell hs2
      have k1 := fun (W : World) (t : TypeId) => cadd_run W t (a := z) (b := z) (p := q) m1 m2
      have HS2 := Lib.hid hs2
      have M3 := Lib.hid (finC_parts m3)
      have i1 : (0 : Int) ≤ (k : Int) := by omega
      have i2 : (k : Int) < (n : Int) := by omega
      clear hs2 e1 hgr h m0 m1 m2 m3
      go_wp2_with fail
      refine (finite_yes _ _ _ M3.out.1 M3.out.2).mono ?_
      rintro e w' ⟨rfl, rfl⟩
      go_wp2_with fail
      go_roundw
      case rel => exact ⟨k + 1, by omega, by go_num, HS2.out⟩
      case measure => simp [intOf]; omega
    · go_wp2_with fail
      go_ret2
      have hd := h.doneT (by omega)
      unfold twL
      rw [HL.out]
      exact hd
end Go.Proofs.Ytcnlgoghnlcndaa
