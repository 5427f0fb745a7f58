/- The walk of the law FnWindowed: true at every code. -/
import Derived.Test.YtcnlgoghnlcndaaWv
import Derived.Test.YtcnlgoghnlcndaaLPieceOf
import Derived.Test.YtcnlgoghnlcndaaWk
namespace Go.Proofs.Ytcnlgoghnlcndaa
open Go.RowKit Ieee

theorem winOk_zero {kd : Int} {n : Nat} (h : winOk kd n = true) : winOk 0 n = true := by
  obtain ⟨_, m, hm, hs⟩ := winOk_in h
  obtain rfl : n = m := by omega
  rcases sizes_of hs with rfl | rfl | rfl | rfl <;> decide
theorem leq_of {a b : Nat} (ha : fin double a = true) (hb : fin double b = true) (h : iv double a ≤ iv double b) :
    (FloatKind.f64.format.order a b == some .lt || FloatKind.f64.format.order a b == some .eq) = true := by
  show (double.order a b == some .lt || double.order a b == some .eq) = true
  rw [cmp_lt double ha hb, cmp_eq double ha hb]
  simp only [Bool.or_eq_true, decide_eq_true_eq]
  omega

set_option maxRecDepth 100000 in
set_option maxHeartbeats 8000000 in
theorem FnWindowed_walk (A : Option Addr) (n cap : Nat) (w : World) (h : Code w A n cap) :
    Calls Try.prog 13 #[.slice A n cap] w fun e w' => e = .returned (.bool true) ∧ Below w.heap.size w w' := by
  have hm := h.2.1
  unfold maxLen at hm
  rcases Nat.lt_or_ge 1048576 n with hn | hn
  · go_enter Try.func13, Try.ntmps13
    go_wp2_with fail
    go_ret
    exact ⟨rfl, Below.refl _ _⟩
  have H := Lib.hid h
  clear h
  go_enter Try.func13, Try.ntmps13
  go_wp2_with fail
  refine (DrawWindowed_any _ _ _ _ H.out).mono ?_
  rintro e w1 ⟨B, c, xs, kd, rfl, hl41, hc, hcm, hs, hb⟩
  have hsz := hb.size
  have S := Lib.hid hs
  unfold maxLen at hcm
  clear H hs
  rcases Bool.eq_false_or_eq_true (sigOk xs && winOk kd xs.length) with ho | ho
  · have ho2 : sigOk xs = true ∧ winOk kd xs.length = true := by simpa using ho
    have hn16 := (sigOk_parts ho2.1).1
    obtain ⟨q1, q2⟩ := wd_en ho2.1 ho2.2
    have SO := Lib.hid ho2.1
    have WO := Lib.hid ho2.2
    have YO := Lib.hid q1
    have LE := Lib.hid q2
    have W0 := Lib.hid (winOk_zero ho2.2)
    have ZO := Lib.hid (wd_en ho2.1 (winOk_zero ho2.2)).1
    clear ho ho2 q1 q2
    generalize hN : xs.length = N at *
    have HN := Lib.hid hN
    clear hN
    go_wp2_with fail
    refine (Windowed_yes _ _ _ _ _ _ S.out SO.out WO.out).mono ?_
    intro e w2 hmd
    obtain ⟨B2, c2, rfl, hc2, hcm2, hr2, ho2, hg2⟩ := hmd.out (0, 0) (by rw [wdL_length, HN.out]; omega)
    rw [wdL_length, HN.out] at hr2 hc2 ⊢
    have hb2 := below_grown hb hg2 hsz
    have hsz2 : w.heap.size ≤ w2.heap.size := Nat.le_trans hsz hg2.size
    have S2 := Lib.hid (S.out.grown hg2)
    have Y2 := Lib.hid (Sig.rw hr2)
    clear hmd ho2 hg2 hr2
    unfold maxLen at hcm2
    go_wp2_with fail
    refine (sWindowed_yes _ _ _ _ _ _ S2.out SO.out WO.out).mono ?_
    intro e w3 hmd
    obtain ⟨B3, c3, rfl, hc3, hcm3, hr3, ho3, hg3⟩ := hmd.out (0, 0) (by rw [wdL_length, HN.out]; omega)
    rw [wdL_length, HN.out] at hr3 hc3 ⊢
    have hb3 := below_grown hb2 hg3 hsz2
    have hsz3 : w.heap.size ≤ w3.heap.size := Nat.le_trans hsz2 hg3.size
    have S3 := Lib.hid (S2.out.grown hg3)
    have Y3 := Lib.hid (Y2.out.grown hg3)
    have U3 := Lib.hid (Sig.rw hr3)
    clear hmd ho3 hg3 hr3
    unfold maxLen at hcm3
    go_wp2_with fail
    refine (sameSignal_eq B2 B3 N c2 c3 _ _ w3 Y3.out U3.out (sig_same (by rw [wdL_length, HN.out]) YO.out)).mono ?_
    rintro e w' ⟨rfl, d, rfl⟩
    go_wp2_with fail
    refine (Windowed_yes _ _ _ _ _ _ (S3.out.drewN d) SO.out W0.out).mono ?_
    intro e w4 hmd
    obtain ⟨B4, c4, rfl, hc4, hcm4, hr4, ho4, hg4⟩ := hmd.out (0, 0) (by rw [wdL_length, HN.out]; omega)
    rw [wdL_length, HN.out] at hr4 hc4 ⊢
    have hb4 := below_grown (below_drewN hb3 d) hg4 hsz3
    have hsz4 : w.heap.size ≤ w4.heap.size := Nat.le_trans hsz3 hg4.size
    have S4 := Lib.hid ((S3.out.drewN d).grown hg4)
    have Y4 := Lib.hid ((Y3.out.drewN d).grown hg4)
    have Z4 := Lib.hid (Sig.rw hr4)
    clear hmd ho4 hg4 hr4
    unfold maxLen at hcm4
    go_wp2_with fail
    refine (SumOf_two _ _ _ _ _ Z4.out ZO.out (box_two SO.out HN.out W0.out)).mono ?_
    intro e w5 hmd
    obtain ⟨B5, c5, rfl, hc5, hcm5, hr5, ho5, hg5⟩ := hmd.out (0, 0) (by rw [twL_length, wdL_length, HN.out]; omega)
    rw [twL_length, wdL_length, HN.out] at hr5 hc5 ⊢
    have hb5 := below_grown hb4 hg5 hsz4
    have hsz5 : w.heap.size ≤ w5.heap.size := Nat.le_trans hsz4 hg5.size
    have S5 := Lib.hid (S4.out.grown hg5)
    have Y5 := Lib.hid (Y4.out.grown hg5)
    have T5 := Lib.hid (Sig.rw hr5)
    clear hmd ho5 hg5 hr5
    unfold maxLen at hcm5
    go_wp2_with fail
    refine (EnergyOf_any _ _ _ _ w5 Y5.out YO.out).mono ?_
    rintro e w' ⟨r, rfl, f1, v1, d1, rfl⟩
    go_wp2_with fail
    refine (EnergyOf_any _ _ _ _ _ (S5.out.drewN d1) SO.out).mono ?_
    rintro e w' ⟨s, rfl, f2, v2, d2, rfl⟩
    have hle := leq_of f1 f2 (by rw [v1, v2]; exact LE.out)
    clear f1 f2 v1 v2
    go_wp2_with fail
    refine (wholeSignal_any B N c 1000 xs _ (by first | with_reducible exact S5.out.drewN _ | with_reducible exact (S5.out.drewN _).drewN _) (by omega) (by omega)).mono ?_
    rintro e w' ⟨bw, rfl, hw, d3, rfl⟩
    cases bw
    · clear hw
      go_wp2_with fail
      go_ret
      refine ⟨rfl, ?_⟩
      repeat (first | exact hb5 | refine below_drewN ?_ _)
    · have W := Lib.hid (hw rfl)
      clear hw
      go_wp2_with fail
      refine (sameSignal_eq B5 B N c5 c _ _ _ (by first | with_reducible exact T5.out.drewN _ | with_reducible exact (T5.out.drewN _).drewN _ | with_reducible exact ((T5.out.drewN _).drewN _).drewN _) (by first | with_reducible exact S5.out.drewN _ | with_reducible exact (S5.out.drewN _).drewN _ | with_reducible exact ((S5.out.drewN _).drewN _).drewN _) (twice_same W.out HN.out W0.out)).mono ?_
      rintro e w' ⟨rfl, d4', rfl⟩
      go_wp2_with fail
      go_ret
      refine ⟨rfl, ?_⟩
      repeat (first | exact hb5 | refine below_drewN ?_ _)
  · have NO := Lib.hid ho
    clear ho
    go_wp2_with fail
    refine (Windowed_no _ _ _ _ _ _ S.out NO.out).mono ?_
    rintro e w' ⟨rfl, d, rfl⟩
    go_wp2_with fail
    refine (sWindowed_no _ _ _ _ _ _ (S.out.drewN d) NO.out).mono ?_
    intro e w2 hmd
    obtain ⟨B2, c2, rfl, hc2, hcm2, hr2, ho2, hg2⟩ := hmd.out (0, 0) (by simp)
    simp only [List.length_nil] at hr2 hc2 ⊢
    have hb2 := below_grown (below_drewN hb d) hg2 hsz
    clear hmd ho2 hg2
    unfold maxLen at hcm2
    go_wp2_with fail
    refine (sameSignal_eq none B2 0 _ _ [] [] _ (Sig.nil _ _) (Sig.rw hr2) (fun k hk => absurd hk (by omega))).mono ?_
    rintro e w' ⟨rfl, d2, rfl⟩
    go_wp2_with fail
    refine (alive_any _).mono ?_
    rintro e w' ⟨rfl, rfl⟩
    go_wp2_with fail
    go_ret
    refine ⟨rfl, ?_⟩
    repeat (first | exact hb2 | refine below_drewN ?_ _)
end Go.Proofs.Ytcnlgoghnlcndaa
