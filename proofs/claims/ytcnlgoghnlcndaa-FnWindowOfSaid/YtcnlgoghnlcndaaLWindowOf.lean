/- The walk of the law FnWindowOf: true at every code. -/
import Derived.Test.YtcnlgoghnlcndaaLWd
import Derived.Test.YtcnlgoghnlcndaaLExactWindowOf
import Derived.Test.YtcnlgoghnlcndaaLTapsOk
namespace Go.Proofs.Ytcnlgoghnlcndaa
open Go.RowKit Ieee

/-- What the law asks of two neighbours. -/
def winFacts (kd : Int) (a b : Nat) : Bool :=
  match floatToFloatBits .f32 a .f64, floatToFloatBits .f32 b .f64 with
  | some x, some y => match floatBits .add .f64 x y with
    | some s => (kd == 2 || !(FloatKind.f64.format.order s 4607182418800017408 != some .eq)) && !(FloatKind.f64.format.order s 4607182409792818153 == some .lt) && !(FloatKind.f64.format.order s 4607182423303617035 == some .gt) &&
        !(FloatKind.f32.format.order a 0 == some .lt) && !(FloatKind.f32.format.order a 1065353216 == some .gt)
    | none => false
  | _, _ => false
theorem win_facts0 : ∀ n ∈ sizes, ∀ kd : Nat, kd < 3 → ∀ k, k < n / 2 → winFacts kd (winW kd n k) (winW kd n (k + n / 2)) = true := by decide +kernel
theorem winFacts_out {kd : Int} {a b : Nat} (h : winFacts kd a b = true) : ∃ x y s, floatToFloatBits .f32 a .f64 = some x ∧ floatToFloatBits .f32 b .f64 = some y ∧ floatBits .add .f64 x y = some s ∧
    (kd ≠ 2 → (FloatKind.f64.format.order s 4607182418800017408 != some .eq) = false) ∧ (FloatKind.f64.format.order s 4607182409792818153 == some .lt) = false ∧ (FloatKind.f64.format.order s 4607182423303617035 == some .gt) = false ∧
    (FloatKind.f32.format.order a 0 == some .lt) = false ∧ (FloatKind.f32.format.order a 1065353216 == some .gt) = false := by
  unfold winFacts at h
  split at h
  · rename_i x y hx hy
    split at h
    · rename_i s hs
      simp only [Bool.and_eq_true, Bool.or_eq_true, Bool.not_eq_true', beq_iff_eq] at h
      obtain ⟨⟨⟨⟨h1, h2⟩, h3⟩, h4⟩, h5⟩ := h
      exact ⟨x, y, s, hx, hy, hs, fun hk => h1.resolve_left hk, h2, h3, h4, h5⟩
    · cases h
  · cases h
theorem winL_facts {kd : Int} {n : Nat} (h : winOk kd n = true) : ∀ k, k < n / 2 → winFacts kd ((winL kd n).getD k 0) ((winL kd n).getD (k + n / 2) 0) = true := by
  obtain ⟨hk, m, hm, hs⟩ := winOk_in h
  obtain rfl : n = m := by omega
  intro k hkn
  have e1 : (winL kd n).getD k 0 = winW kd n k := getD_range (winW kd n) 0 (by omega)
  have e2 : (winL kd n).getD (k + n / 2) 0 = winW kd n (k + n / 2) := getD_range (winW kd n) 0 (by omega)
  rw [e1, e2]
  rcases hk with rfl | rfl | rfl
  · exact win_facts0 n hs 0 (by omega) k hkn
  · exact win_facts0 n hs 1 (by omega) k hkn
  · exact win_facts0 n hs 2 (by omega) k hkn

set_option maxRecDepth 100000 in
set_option maxHeartbeats 4000000 in
theorem FnWindowOf_walk (A : Option Addr) (n cap : Nat) (w : World) (h : Code w A n cap) :
    Calls Try.prog 8 #[.slice A n cap] w fun e w' => e = .returned (.bool true) ∧ Below w.heap.size w w' := by
  have hm := h.2.1
  unfold maxLen at hm
  rcases Nat.lt_or_ge 1048576 n with hn | hn
  · go_enter Try.func8, Try.ntmps8
    go_wp2_with fail
    go_ret
    exact ⟨rfl, Below.refl _ _⟩
  have H := Lib.hid h
  clear h
  go_enter Try.func8, Try.ntmps8
  go_wp2_with fail
  refine (DrawWindowOf_any _ _ _ _ H.out).mono ?_
  rintro e w1 ⟨kd, m, rfl, hb⟩
  have hsz := hb.size
  clear H
  rcases Bool.eq_false_or_eq_true (winOk kd m) with hw | hw
  · obtain ⟨hk, m', rfl, hs⟩ := winOk_in hw
    clear hs
    obtain ⟨hl, hn16, hn2, hf⟩ := winL_fin hw
    have hfa := winL_facts hw
    have hy := fun W : World => WindowOf_yes kd m' W hw
    have hsy := fun W : World => sWindowOf_yes kd m' W hw
    generalize winL kd m' = xs at *
    have HF := Lib.hid hf
    have HA := Lib.hid hfa
    have HL := Lib.hid hl
    clear hw hf hfa hl
    go_wp2_with fail
    refine (hy _).mono ?_
    intro e w2 hmd
    obtain ⟨B, c, rfl, hc, hcm, hr, ho, hg⟩ := hmd.out 0 (by rw [HL.out]; omega)
    rw [HL.out] at hr hc ⊢
    have hb2 := below_grown hb hg hsz
    have hsz2 : w.heap.size ≤ w2.heap.size := Nat.le_trans hsz hg.size
    clear hmd ho hg
    unfold maxLen at hcm
    go_wp2_with fail
    refine (hsy _).mono ?_
    intro e w3 hmd
    obtain ⟨B3, c3, rfl, hc3, hcm3, hr3, ho3, hg3⟩ := hmd.out 0 (by rw [HL.out]; omega)
    rw [HL.out] at hr3 hc3 ⊢
    have hb3 := below_grown hb2 hg3 hsz2
    have hr' := hr.grown hg3
    clear hmd ho3 hg3 hr
    unfold maxLen at hcm3
    go_wp2_with fail
    refine (sameWindow_eq _ _ m' _ _ xs _ hr' hr3 (fun k hk => (HF.out k hk).1)).mono ?_
    rintro e w' ⟨rfl, d, rfl⟩
    have HR := Lib.hid hr'.2.2
    clear hr' hr3
    have hm0 : ((m' : Int) == 0) = false := by simp; omega
    rcases hk with rfl | rfl | rfl
    all_goals
      go_wp2_with fail
      go_loopw [6] (fun i wr => ∃ k : Nat, k ≤ m' / 2 ∧ i = .int .i64 k ∧ ∃ d, w3.drewN d = wr) (fun i _ => m' - (intOf i).toNat)
      case atStart => exact ⟨0, Nat.zero_le _, rfl, d, rfl⟩
      case round =>
        obtain ⟨k, hk, rfl, d2, rfl⟩ := hrel
        by_cases hlt : k < m' / 2
        · obtain ⟨b, o, rfl, hbs, hc1⟩ := HR.out k (by omega)
          obtain ⟨b', o', e', hbs', hc2⟩ := HR.out (k + m' / 2) (by omega)
          cases e'
          obtain ⟨x, y, s, hx, hy', hs, f1, f2, f3, f4, f5⟩ := winFacts_out (HA.out k hlt)
          have f1' := f1
          try replace f1' := f1 (by omega)
          clear f1
          unfold F32 at hc1 hc2
          generalize xs.getD k 0 = a at *
          generalize xs.getD (k + m' / 2) 0 = b2 at *
          have k1 := fun W : World => run_convert_float_float (P := Try.prog) W 43 42 .f32 .f64 a x some43 Try.underlying42 hx
          have k2 := fun W : World => run_convert_float_float (P := Try.prog) W 43 42 .f32 .f64 b2 y some43 Try.underlying42 hy'
          have k3 := fun W : World => run_float_arith (P := Try.prog) W .add 42 .f64 x y s hs
          have i1 : IntKind.i64.wrap ((k : Int) + (m' : Int) / 2) = ((k + m' / 2 : Nat) : Int) := by rw [IntWalk.i64_in _ (by omega)]; omega
          have i2 : (k : Int) < (m' : Int) / 2 := by omega
          have i3 : k + m' / 2 < m' := by omega
          have i4 : k < m' := by omega
          clear hx hy' hs hy hsy
          go_wp2_with fail
          go_quiet (fail)
          go_wp2_with fail
          go_roundw
          case rel => exact ⟨k + 1, by omega, by go_num, _, rfl⟩
          case measure => simp [intOf]; omega
        · have i2 : ¬ (k : Int) < (m' : Int) / 2 := by omega
          go_wp2_with fail
          go_ret
          refine ⟨rfl, ?_⟩
          repeat (first | exact hb3 | refine below_drewN ?_ _)
  · have HW := Lib.hid hw
    clear hw
    have hnil : ∀ W : World, Rw F32 0 W none 0 [] := fun W => ⟨rfl, by omega, fun k hk => absurd hk (by omega)⟩
    have HN := Lib.hid hnil
    clear hnil
    go_wp2_with fail
    refine (WindowOf_no _ _ _ HW.out).mono ?_
    rintro e w' ⟨rfl, rfl⟩
    go_wp2_with fail
    refine (sWindowOf_no _ _ _ HW.out).mono ?_
    intro e w2 hmd
    obtain ⟨B, c, rfl, hc, _, hr, ho, hg⟩ := hmd.out 0 (by simp)
    simp only [List.length_nil] at hr hc ⊢
    have hb2 := below_grown hb hg hsz
    clear hmd ho hg
    go_wp2_with fail
    refine (sameWindow_eq _ _ 0 _ _ [] _ (HN.out _) hr (fun k hk => absurd hk (by omega))).mono ?_
    rintro e w' ⟨rfl, d, rfl⟩
    go_wp2_with fail
    refine (alive_any _).mono ?_
    rintro e w' ⟨rfl, rfl⟩
    go_wp2_with fail
    go_ret
    refine ⟨rfl, ?_⟩
    repeat (first | exact hb2 | refine below_drewN ?_ _)
end Go.Proofs.Ytcnlgoghnlcndaa
