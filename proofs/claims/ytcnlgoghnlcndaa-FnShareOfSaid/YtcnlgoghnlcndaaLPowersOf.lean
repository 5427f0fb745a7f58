/- The walk of the law FnPowersOf: true at every code. -/
import Derived.Test.YtcnlgoghnlcndaaPx
import Derived.Test.YtcnlgoghnlcndaaGr
import Derived.Test.YtcnlgoghnlcndaaLWithNoughts
namespace Go.Proofs.Ytcnlgoghnlcndaa
open Go.RowKit Ieee

theorem sigOk_moved {xs : List Num} {b : Int} (h : sigOk xs = true) : sigOk (movedL xs b) = true := by
  obtain ⟨h1, h2⟩ := sigOk_parts h
  unfold sigOk
  rw [movedL_len]
  simp only [Bool.and_eq_true, decide_eq_true_eq]
  refine ⟨h1, ?_⟩
  rw [List.all_eq_true]
  intro z hz
  obtain ⟨j, hj, rfl⟩ := List.mem_map.1 hz
  have hj' : j < xs.length := by simpa using hj
  have h3 := Int.emod_nonneg ((j : Int) - b) (show (xs.length : Int) ≠ 0 by omega)
  have h4 := Int.emod_lt_of_pos ((j : Int) - b) (show (0 : Int) < xs.length by omega)
  exact fin_at h2 (by omega)
theorem sizeOk_moved {xs : List Num} {b : Int} (h : sizeOk xs = true) : sizeOk (movedL xs b) = true := by
  obtain ⟨h1, h2, _, _⟩ := sizeOk_parts h
  unfold sizeOk
  rw [movedL_len, h1, sigOk_moved h2]; rfl
theorem powL_vals {xs : List Num} (h : Calm xs) {n : Nat} (hl : xs.length = n) : ∀ k, k < n → fin double ((powL xs).getD k 0) = true ∧ fin double ((powL xs).getD k 0) = true ∧ iv double ((powL xs).getD k 0) = iv double ((powL xs).getD k 0) := by
  intro k hk
  rw [powL_at (by omega)]
  exact ⟨powF_fin h k, powF_fin h k, rfl⟩
theorem powL_moved {xs : List Num} {n : Nat} (h : AllWhole xs 1000) (hl : xs.length = n) (hn : n ∈ small) : ∀ k, k < n → fin double ((powL (movedL xs 1)).getD k 0) = true ∧ fin double ((powL xs).getD k 0) = true ∧ iv double ((powL (movedL xs 1)).getD k 0) = iv double ((powL xs).getD k 0) := by
  intro k hk
  rw [powL_at (xs := movedL xs 1) (by rw [movedL_len]; omega), powL_at (xs := xs) (by omega)]
  have a := pow_whole (moved_whole h) (by rw [movedL_len]; exact hl) hn hk
  have b := pow_whole h hl hn hk
  exact ⟨a.1, b.1, by rw [a.2, b.2, moved_pow hl hn hk]⟩

theorem sumPP_step {xs : List Num} {n k s : Nat} (h : AllWhole xs 1000) (hl : xs.length = n) (hn : n ∈ small) (hk : k < n) (hs : isV double s (sumZ (PP n (gX xs) (gY xs)) k) 1074) (hb : 0 ≤ sumZ (PP n (gX xs) (gY xs)) k ∧ sumZ (PP n (gX xs) (gY xs)) k ≤ 32000000 * k) :
    ∃ r, floatBits .add .f64 s (powF xs k) = some r ∧ isV double r (sumZ (PP n (gX xs) (gY xs)) (k + 1)) 1074 ∧ (0 ≤ sumZ (PP n (gX xs) (gY xs)) (k + 1) ∧ sumZ (PP n (gX xs) (gY xs)) (k + 1) ≤ 32000000 * ((k + 1 : Nat) : Int)) := by
  have hn4 : n ≤ 4 := by have : n = 1 ∨ n = 2 ∨ n = 4 := by simpa [small] using hn
                         omega
  have hp := pow_whole h hl hn hk
  have hpb := PP_bound h hl hn4 k
  have e : sumZ (PP n (gX xs) (gY xs)) (k + 1) = sumZ (PP n (gX xs) (gY xs)) k + PP n (gX xs) (gY xs) k := rfl
  rw [e]
  obtain ⟨r, r1, r2⟩ := isV_add double (N := 2000) hs hp (by show (_ : Int).natAbs < 2 ^ 53; omega) rt_double_big (by decide)
  exact ⟨r, r1, r2, by omega, by omega⟩

/-- energy times the number of points: the sum of the powers. -/
theorem en_times {xs : List Num} {n r s : Nat} (h : AllWhole xs 1000) (hl : xs.length = n) (hn : n ∈ small) (hr : fin double r = true) (hv : iv double r = enI xs) (hs : isV double s (sumZ (PP n (gX xs) (gY xs)) n) 1074) :
    ∃ t, floatBits .mul .f64 r (floatOfInt .f64 (n : Int)) = some t ∧ (FloatKind.f64.format.order s t == some .eq) = true := by
  have hn4 : n ≤ 4 := by have : n = 1 ∨ n = 2 ∨ n = 4 := by simpa [small] using hn
                         omega
  have he := en_whole h (by omega) n (by omega)
  rw [List.take_of_length_le (by omega)] at he
  have hb := EE_bound h n (by omega)
  have hE : isV double r (EE xs n) 1074 := ⟨hr, by rw [hv, he]⟩
  obtain ⟨hN, _⟩ := ofInt_isV (n := (n : Int)) (by omega)
  have hEn : 0 ≤ EE xs n * n ∧ EE xs n * n ≤ 8000000 * 4 := by
    have := mul_rng (a := EE xs n) (j := (n : Int)) (B := 8000000) (J := 4) (by omega) (by omega) (by omega)
    have h0 := Int.mul_nonneg hb.1 (Int.natCast_nonneg n)
    omega
  obtain ⟨t, t1, t2⟩ := isV_mul double (N := 3000) (by decide) hE hN (by show (_ : Int).natAbs < 2 ^ 53; omega) (by decide) rt_double_bigt (by decide)
  refine ⟨t, t1, ?_⟩
  show (double.order s t == some .eq) = true
  rw [cmp_eq double hs.1 t2.1, hs.2, t2.2]
  have e1 : 1074 + 1074 - tm double = 1074 := by decide
  rw [e1, parseval n hn]
  have e2 : sumZ (fun j => gX xs j * gX xs j + gY xs j * gY xs j) n = EE xs n := rfl
  rw [e2, Int.mul_comm (n : Int)]
  simp

theorem small_of {n : Nat} (h : powB n = true) (h4 : n ≤ 4) : n ∈ small := by
  have : n = 1 ∨ n = 2 ∨ n = 4 := by rcases pow_cases h with e | e | e | e | e <;> omega
  simpa [small] using this

set_option maxRecDepth 100000 in
set_option maxHeartbeats 8000000 in
theorem FnPowersOf_walk (A : Option Addr) (n cap : Nat) (w : World) (h : Code w A n cap) :
    Calls Try.prog 14 #[.slice A n cap] w fun e w' => e = .returned (.bool true) ∧ Below w.heap.size w w' := by
  have hm := h.2.1
  unfold maxLen at hm
  rcases Nat.lt_or_ge 1048576 n with hn | hn
  · go_enter Try.func14, Try.ntmps14
    go_wp2_with fail
    go_ret
    exact ⟨rfl, Below.refl _ _⟩
  have H := Lib.hid h
  clear h
  go_enter Try.func14, Try.ntmps14
  go_wp2_with fail
  refine (DrawPowersOf_any _ _ _ _ H.out).mono ?_
  rintro e w1 ⟨B, c, xs, rfl, hd, hc, hcm, hs, hb⟩
  have hsz := hb.size
  have S := Lib.hid hs
  have D := Lib.hid hd
  unfold maxLen at hcm
  clear H hs hd
  rcases Bool.eq_false_or_eq_true (sizeOk xs) with ho | ho
  · obtain ⟨hpw, hso, hn1, hn16⟩ := sizeOk_parts ho
    have HC := Lib.hid (D.out.calm hso)
    have HO := Lib.hid ho
    have SO := Lib.hid hso
    have PB := Lib.hid hpw
    clear ho hso D hpw
    generalize hN : xs.length = N at *
    have HN := Lib.hid hN
    clear hN
    go_wp2_with fail
    refine (PowersOf_yes _ _ _ _ _ S.out HO.out HC.out).mono ?_
    intro e w2 hmd
    obtain ⟨B2, c2, rfl, hc2, hcm2, hr2, ho2, hg2⟩ := hmd.out 0 (by rw [powL_length, HN.out]; omega)
    rw [powL_length, HN.out] at hr2 hc2 ⊢
    have hb2 := below_grown hb hg2 hsz
    have hsz2 : w.heap.size ≤ w2.heap.size := Nat.le_trans hsz hg2.size
    have S2 := Lib.hid (S.out.grown hg2)
    clear hmd ho2 hg2
    unfold maxLen at hcm2
    go_wp2_with fail
    refine (sPowersOf_yes _ _ _ _ _ S2.out HO.out HC.out).mono ?_
    intro e w3 hmd
    obtain ⟨B3, c3, rfl, hc3, hcm3, hr3, ho3, hg3⟩ := hmd.out 0 (by rw [powL_length, HN.out]; omega)
    rw [powL_length, HN.out] at hr3 hc3 ⊢
    have hb3 := below_grown hb2 hg3 hsz2
    have hsz3 : w.heap.size ≤ w3.heap.size := Nat.le_trans hsz2 hg3.size
    have S3 := Lib.hid (S2.out.grown hg3)
    have L3 := Lib.hid (hr2.grown hg3)
    have U3 := Lib.hid hr3
    clear hmd ho3 hg3 hr2 hr3
    unfold maxLen at hcm3
    go_wp2_with fail
    refine (samePowers_eq B2 B3 N c2 c3 _ _ w3 L3.out U3.out (powL_vals HC.out HN.out)).mono ?_
    rintro e w' ⟨rfl, d, rfl⟩
    go_wp2_with fail
    refine (wholeSignal_any B N c 1000 xs _ (S3.out.drewN d) (by omega) (by omega)).mono ?_
    rintro e w' ⟨bw, rfl, hw, d2, rfl⟩
    cases bw
    · clear hw
      go_wp2_with fail
      go_ret
      refine ⟨rfl, ?_⟩
      repeat (first | exact hb3 | refine below_drewN ?_ _)
    · have W := Lib.hid (hw rfl)
      clear hw
      by_cases h4 : 4 < N
      · have d4 : decide (4 < N) = true := by simpa using h4
        go_wp2_with fail
        go_ret
        refine ⟨rfl, ?_⟩
        repeat (first | exact hb3 | refine below_drewN ?_ _)
      · have d4 : decide (4 < N) = false := by simpa using h4
        have SM := Lib.hid (small_of PB.out (by omega))
        go_wp2_with fail
        go_loop [8, 9] (fun v i => ∃ k : Nat, k ≤ N ∧ i = .int .i64 k ∧ ∃ s : Nat, v = .float .f64 s ∧ Hid (isV double s (sumZ (PP N (gX xs) (gY xs)) k) 1074 ∧ (0 ≤ sumZ (PP N (gX xs) (gY xs)) k ∧ sumZ (PP N (gX xs) (gY xs)) k ≤ 32000000 * k))) (fun _ i => N - (intOf i).toNat)
        case atStart => exact ⟨0, Nat.zero_le _, rfl, 0, rfl, ⟨by decide +kernel, by show iv double 0 = 0 * _; rw [Int.zero_mul]; decide +kernel⟩, by simp [sumZ], by simp [sumZ]⟩
        case round =>
          obtain ⟨k, hk, rfl, s, rfl, hst⟩ := hrel
          by_cases hlt : k < N
          · obtain ⟨b, o, rfl, hbs, hcell⟩ := L3.out.2.2 k hlt
            rw [powL_at (by rw [HN.out]; exact hlt)] at hcell
            obtain ⟨r, r1, r2⟩ := sumPP_step W.out HN.out SM.out hlt hst.out.1 hst.out.2
            have k1 := fun W : World => run_float_arith (P := Try.prog) W .add 42 .f64 _ _ r r1
            unfold F64 at hcell
            generalize powF xs k = q at *
            have R2 := Lib.hid r2
            clear r1 r2 hst
            go_wp2_with fail
            go_round
            case rel => exact ⟨k + 1, by omega, by go_num, r, rfl, R2.out⟩
            case measure => simp [intOf]; omega
          · obtain rfl : k = N := by omega
            go_wp2_with fail
            refine (MovedOf_yes B k c 1 xs _ (S3.out.drewN (d + d2)) SO.out (by omega)).mono ?_
            intro e w4 hmd
            obtain ⟨B4, c4, rfl, hc4, hcm4, hr4, ho4, hg4⟩ := hmd.out (0, 0) (by rw [movedL_len, HN.out]; omega)
            rw [movedL_len, HN.out] at hr4 hc4 ⊢
            have hb4 := below_grown (below_drewN hb3 (d + d2)) hg4 hsz3
            have hsz4 : w.heap.size ≤ w4.heap.size := Nat.le_trans hsz3 hg4.size
            have S4 := Lib.hid ((S3.out.drewN (d + d2)).grown hg4)
            have M4 := Lib.hid (Sig.rw hr4)
            have L4 := Lib.hid ((L3.out.drewN (d + d2)).grown hg4)
            clear hmd ho4 hg4 hr4
            unfold maxLen at hcm4
            go_wp2_with fail
            refine (PowersOf_yes _ _ _ _ _ M4.out (sizeOk_moved HO.out) (whole_calm (moved_whole W.out) (by omega) (by rw [movedL_len, HN.out]; omega))).mono ?_
            intro e w5 hmd
            obtain ⟨B5, c5, rfl, hc5, hcm5, hr5, ho5, hg5⟩ := hmd.out 0 (by rw [powL_length, movedL_len, HN.out]; omega)
            rw [powL_length, movedL_len, HN.out] at hr5 hc5 ⊢
            have hb5 := below_grown hb4 hg5 hsz4
            have S5 := Lib.hid (S4.out.grown hg5)
            have L5 := Lib.hid (L4.out.grown hg5)
            have P5 := Lib.hid hr5
            clear hmd ho5 hg5 hr5
            unfold maxLen at hcm5
            go_wp2_with fail
            refine (EnergyOf_any B k c xs w5 S5.out SO.out).mono ?_
            rintro e w' ⟨r, rfl, f1, v1, d3, rfl⟩
            obtain ⟨t, t1, t2⟩ := en_times W.out HN.out SM.out f1 v1 hst.out.1
            have k1 := fun W : World => run_float_arith (P := Try.prog) W .mul 42 .f64 _ _ t t1
            clear f1 v1 t1 hst
            go_wp2_with fail
            refine (samePowers_eq B5 B2 k c5 c2 _ _ _ (P5.out.drewN d3) (L5.out.drewN d3) (powL_moved W.out HN.out SM.out)).mono ?_
            rintro e w' ⟨rfl, d4', rfl⟩
            go_wp2_with fail
            go_ret
            refine ⟨rfl, ?_⟩
            repeat (first | exact hb5 | refine below_drewN ?_ _)
  · have HO := Lib.hid ho
    clear ho
    go_wp2_with fail
    refine (PowersOf_no _ _ _ _ _ S.out HO.out).mono ?_
    rintro e w' ⟨rfl, d, rfl⟩
    go_wp2_with fail
    refine (sPowersOf_no _ _ _ _ _ (S.out.drewN d) HO.out).mono ?_
    intro e w3 hmd
    obtain ⟨B3, c3, rfl, hc3, hcm3, hr3, ho3, hg3⟩ := hmd.out 0 (by simp)
    simp only [List.length_nil] at hr3 hc3 ⊢
    have hb3 := below_grown (below_drewN hb d) hg3 hsz
    clear hmd ho3 hg3
    unfold maxLen at hcm3
    go_wp2_with fail
    refine (samePowers_eq none B3 0 _ _ [] [] _ ⟨rfl, by omega, fun k hk => absurd hk (by omega)⟩ hr3 (fun k hk => absurd hk (by omega))).mono ?_
    rintro e w' ⟨rfl, d2, rfl⟩
    go_wp2_with fail
    refine (alive_any _).mono ?_
    rintro e w' ⟨rfl, rfl⟩
    go_wp2_with fail
    go_ret
    refine ⟨rfl, ?_⟩
    repeat (first | exact hb3 | refine below_drewN ?_ _)
end Go.Proofs.Ytcnlgoghnlcndaa
