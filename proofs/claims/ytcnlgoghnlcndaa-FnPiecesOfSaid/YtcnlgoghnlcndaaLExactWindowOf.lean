/- The walk of the law FnExactWindowOf: true at every input. -/
import Derived.Test.YtcnlgoghnlcndaaWs
namespace Go.Proofs.Ytcnlgoghnlcndaa
open Go.RowKit Ieee

theorem win_fin0 : ∀ n ∈ sizes, ∀ kd : Nat, kd < 3 → ∀ k, k < n → fin single (winW kd n k) = true ∧ (winW kd n k = 0 ∨ iv single (winW kd n k) ≠ 0) := by decide +kernel
theorem winL_fin {kd : Int} {n : Nat} (h : winOk kd n = true) : (winL kd n).length = n ∧ n ≤ 16 ∧ 2 ≤ n ∧ ∀ k, k < n → fin single ((winL kd n).getD k 0) = true ∧ ((winL kd n).getD k 0 = 0 ∨ iv single ((winL kd n).getD k 0) ≠ 0) := by
  obtain ⟨hk, m, hm, hs⟩ := winOk_in h
  obtain rfl : n = m := by omega
  refine ⟨by simp [winL], by rcases sizes_of hs with rfl | rfl | rfl | rfl <;> omega, by rcases sizes_of hs with rfl | rfl | rfl | rfl <;> omega, fun k hkn => ?_⟩
  have e : (winL kd n).getD k 0 = winW kd n k := getD_range (winW kd n) 0 hkn
  rw [e]
  rcases hk with rfl | rfl | rfl
  · exact win_fin0 n hs 0 (by omega) k hkn
  · exact win_fin0 n hs 1 (by omega) k hkn
  · exact win_fin0 n hs 2 (by omega) k hkn

theorem below_grown {B : Nat} {a w w' : World} (h : Below B a w) (hg : w.grownBy w' none) (hB : B ≤ w.heap.size) : Below B a w' := h.grown hg hB (fun k hk => by cases hk)
theorem below_grownR {B g : Nat} {a w w' : World} (h : Below B a w) (hg : w.grownBy w' (some g)) (hB : B ≤ w.heap.size) (hr : B ≤ g) : Below B a w' := h.grown hg hB (fun k hk => by cases hk; exact hr)
theorem own_kept {w w' : World} {base E n : Nat} {v : Value} {xs : List Value} (h : w.ownsRow base E 1 v n xs) (hg : w.grownBy w' none) : w'.ownsRow base E 1 v n xs :=
  h.kept hg (by cases hv : v.ownBlock with | none => exact .inl rfl | some g => exact .inr (by simp))

set_option maxRecDepth 100000 in
set_option maxHeartbeats 4000000 in
theorem ExactWindow_no (kd n : Int) (w : World) (h : winOk kd n = false) :
    Calls Try.prog 5 #[.int .i64 kd, .int .i64 n] w fun e w' => e = .returned (.bool true) ∧ Below w.heap.size w w' := by
  have H := Lib.hid h
  clear h
  have hnil : ∀ W : World, Rw F32 0 W none 0 [] := fun W => ⟨rfl, by omega, fun k hk => absurd hk (by omega)⟩
  have HN := Lib.hid hnil
  clear hnil
  go_enter Try.func5, Try.ntmps5
  go_wp2_with fail
  refine (sWindowOf_no _ _ _ H.out).mono ?_
  intro e w1 hm
  obtain ⟨A, c, rfl, hc, _, hr, ho, hg⟩ := hm.out 0 (by simp)
  simp only [List.length_nil] at hr hc ⊢
  have hb := grown_below hg
  clear hm ho hg
  go_wp2_with fail
  refine (WindowOf_no _ _ _ H.out).mono ?_
  rintro e w' ⟨rfl, rfl⟩
  go_wp2_with fail
  refine (eqFloat32S_eq _ _ 0 _ _ [] _ (HN.out _) hr (fun k hk => absurd hk (by omega))).mono ?_
  rintro e w' ⟨rfl, d1, rfl⟩
  go_wp2_with fail
  refine (mark_nil _).mono ?_
  rintro e w' ⟨rfl, rfl⟩
  go_wp2_with fail
  refine (held_any none 0 0 _ (by omega) (HN.out _)).mono ?_
  rintro e w' ⟨rfl, rfl⟩
  go_wp2_with fail
  refine (WindowOf_no _ _ _ H.out).mono ?_
  rintro e w' ⟨rfl, rfl⟩
  go_wp2_with fail
  refine (eqFloat32S_eq _ _ 0 _ _ [] _ (HN.out _) (hr.drewN _) (fun k hk => absurd hk (by omega))).mono ?_
  rintro e w' ⟨rfl, d2, rfl⟩
  go_wp2_with fail
  refine (held_any none 0 0 _ (by omega) (HN.out _)).mono ?_
  rintro e w' ⟨rfl, rfl⟩
  go_wp2_with fail
  go_ret
  refine ⟨rfl, ?_⟩
  repeat (first | exact hb | refine below_drewN ?_ _)

theorem mark_len (n : Nat) : ((List.range n).map markW).length = n := by simp

set_option maxRecDepth 100000 in
set_option maxHeartbeats 4000000 in
theorem ExactWindow_yes (kd : Int) (n : Nat) (w : World) (h : winOk kd n = true) :
    Calls Try.prog 5 #[.int .i64 kd, .int .i64 n] w fun e w' => e = .returned (.bool true) ∧ Below w.heap.size w w' := by
  obtain ⟨hl, hn16, hn2, hf⟩ := winL_fin h
  have H := Lib.hid h
  have HF := Lib.hid hf
  have HL := Lib.hid hl
  clear h hf
  have hy := fun W : World => WindowOf_yes kd n W H.out
  have hsy := fun W : World => sWindowOf_yes kd n W H.out
  generalize winL kd n = xs at *
  subst hl
  clear H HL
  generalize hN : xs.length = N at *
  have HN := Lib.hid hN
  clear hN
  go_enter Try.func5, Try.ntmps5
  go_wp2_with fail
  refine (hsy _).mono ?_
  intro e w1 hm
  obtain ⟨A, c, rfl, hc, hcm, hr, ho, hg⟩ := hm.out 0 (by rw [HN.out]; omega)
  rw [HN.out] at hr hc ho ⊢
  have hb := grown_below hg
  have hsz := hg.size
  clear hm ho hg
  unfold maxLen at hcm
  go_wp2_with fail
  refine (hy _).mono ?_
  intro e w2 hm
  obtain ⟨v, rfl, ho, hg⟩ := hm
  rw [HN.out] at ho
  rcases ho.2 with ⟨_, h0⟩ | ⟨g, c2, cur, rfl, hbg, hgg2, hnc, hcm2, hcs, htk⟩
  · omega
  obtain ⟨A2, c2', hv, hc2, _, hr2⟩ := own_form 0 ho (by omega)
  cases hv
  have hr' := hr.grown hg
  have hb2 := below_grown hb hg hsz
  have hsz2 : w.heap.size ≤ w2.heap.size := Nat.le_trans hsz hg.size
  have HO := Lib.hid ho
  have HG := Lib.hid hgg2
  clear ho hgg2 hg htk hcs hb
  unfold maxLen at hcm2
  go_wp2_with fail
  refine (eqFloat32S_eq _ _ N _ _ xs _ hr2 hr' HF.out).mono ?_
  rintro e w' ⟨rfl, d1, rfl⟩
  go_wp2_with fail
  refine (mark_any w1.heap.size g N c2 xs (w2.drewN d1) (by omega) HO.out).mono ?_
  rintro e w3 ⟨rfl, ho3, hg3⟩
  have hg3' : w2.grownBy w3 (some g) := ⟨hg3.os, hg3.tape, hg3.output, hg3.size, hg3.block⟩
  obtain ⟨A3, c3', hv, hc3, _, hr3⟩ := own_form 0 ho3 (by omega)
  cases hv
  have hr1' : Rw F32 0 w3 A N xs := by
    refine ⟨HN.out, by omega, fun k hk => ?_⟩
    obtain ⟨b, o, e, hb1, hcc⟩ := hr.2.2 k hk
    have hcc' := (hr'.2.2 k hk)
    obtain ⟨b', o', e', hb1', hcc'⟩ := hcc'
    rw [e] at e'
    cases e'
    exact ⟨b, o, e, Nat.lt_of_lt_of_le hb1' hg3'.size, hg3'.cell hcc' (by simp; omega)⟩
  have hb3 := below_grownR hb2 hg3' hsz2 (by omega)
  have hsz3 : w.heap.size ≤ w3.heap.size := Nat.le_trans hsz2 hg3'.size
  clear hg3 hg3' hb2 hr' hr hr2
  go_wp2_with fail
  refine (held_any _ N c2 _ (by omega) hr3).mono ?_
  rintro e w' ⟨rfl, rfl⟩
  go_wp2_with fail
  refine (hy _).mono ?_
  intro e w4 hm
  obtain ⟨A4, c4, rfl, hc4, hcm4, hr4, ho4, hg4⟩ := hm.out 0 (by rw [HN.out]; omega)
  rw [HN.out] at hr4 hc4 ho4 ⊢
  have hr1'' := hr1'.grown hg4
  have hr3' := hr3.grown hg4
  have hb4 := below_grown hb3 hg4 hsz3
  clear hm ho4 hg4 hb3 hr1' hr3
  unfold maxLen at hcm4
  go_wp2_with fail
  refine (eqFloat32S_eq _ _ N _ _ xs _ hr4 hr1'' HF.out).mono ?_
  rintro e w' ⟨rfl, d2, rfl⟩
  go_wp2_with fail
  refine (held_any _ N c2 _ (by omega) (hr3'.drewN _)).mono ?_
  rintro e w' ⟨rfl, rfl⟩
  go_wp2_with fail
  go_ret
  refine ⟨rfl, ?_⟩
  repeat (first | exact hb4 | refine below_drewN ?_ _)

theorem FnExactWindowOf_walk (kd n : Int) (w : World) :
    Calls Try.prog 5 #[.int .i64 kd, .int .i64 n] w fun e w' => e = .returned (.bool true) ∧ Below w.heap.size w w' := by
  rcases Bool.eq_false_or_eq_true (winOk kd n) with h | h
  · obtain ⟨hk, m, rfl, hs⟩ := winOk_in h
    exact ExactWindow_yes kd m w h
  · exact ExactWindow_no kd n w h
end Go.Proofs.Ytcnlgoghnlcndaa
