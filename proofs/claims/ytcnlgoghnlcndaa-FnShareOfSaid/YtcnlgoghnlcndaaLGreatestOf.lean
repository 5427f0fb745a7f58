/- The walk of the law FnGreatestOf: true at every code. -/
import Derived.Test.YtcnlgoghnlcndaaGr
import Derived.Test.YtcnlgoghnlcndaaLExactWindowOf
namespace Go.Proofs.Ytcnlgoghnlcndaa
open Go.RowKit Ieee

set_option maxHeartbeats 1000000 in
theorem GreatestOf_no (A : Option Addr) (n cap : Nat) (xs : List Num) (w : World) (h : Sig w A n xs) (hs : sizeOk xs = false) :
    Calls Try.prog 52 #[.slice A n cap] w fun e w' => e = .returned (.tuple #[.int .i64 (-1), .bool false]) ∧ w.grownBy w' none := by
  go_enter Try.func52, Try.ntmps52
  go_wp2_with fail
  refine (PowersOf_no _ _ _ _ _ h hs).mono ?_
  rintro e w' ⟨rfl, d, rfl⟩
  go_wp2_with fail
  go_ret2
  exact ⟨rfl, grown_drewN (grown_refl w none) d⟩
set_option maxHeartbeats 1000000 in
theorem sGreatestOf_no (A : Option Addr) (n cap : Nat) (xs : List Num) (w : World) (h : Sig w A n xs) (hs : sizeOk xs = false) :
    Calls Try.prog 53 #[.slice A n cap] w fun e w' => e = .returned (.tuple #[.int .i64 (-1), .bool false]) ∧ w.grownBy w' none := by
  go_enter Try.func53, Try.ntmps53
  go_wp2_with fail
  refine (sPowersOf_no _ _ _ _ _ h hs).mono ?_
  intro e w1 hm
  obtain ⟨B, c, rfl, hcc, hcm, hr, ho, hg⟩ := hm.out 0 (by simp)
  simp only [List.length_nil] at hcc ⊢
  have G := Lib.hid hg
  clear hm ho hr hg
  unfold maxLen at hcm
  go_wp2_with fail
  go_ret2
  exact ⟨rfl, G.out⟩

theorem best_eq {xs : List Num} (h : Calm xs) (i j : Nat) : (FloatKind.f64.format.order (powF xs i) (powF xs j) == some .eq) = decide (pv xs i = pv xs j) :=
  cmp_eq double (powF_fin h i) (powF_fin h j)

set_option maxRecDepth 100000 in
set_option maxHeartbeats 4000000 in
theorem FnGreatestOf_walk (A : Option Addr) (n cap : Nat) (w : World) (h : Code w A n cap) :
    Calls Try.prog 12 #[.slice A n cap] w fun e w' => e = .returned (.bool true) ∧ Below w.heap.size w w' := by
  have hm := h.2.1
  unfold maxLen at hm
  rcases Nat.lt_or_ge 1048576 n with hn | hn
  · go_enter Try.func12, Try.ntmps12
    go_wp2_with fail
    go_ret
    exact ⟨rfl, Below.refl _ _⟩
  have H := Lib.hid h
  clear h
  go_enter Try.func12, Try.ntmps12
  go_wp2_with fail
  refine (DrawGreatestOf_any _ _ _ _ H.out).mono ?_
  rintro e w1 ⟨B, c, xs, rfl, hd, hc, hcm, hs, hb⟩
  have hsz := hb.size
  have S := Lib.hid hs
  have D := Lib.hid hd
  unfold maxLen at hcm
  clear H hs hd
  rcases Bool.eq_false_or_eq_true (sizeOk xs) with ho | ho
  · obtain ⟨_, hso, hn1, hn16⟩ := sizeOk_parts ho
    have HC := Lib.hid (D.out.calm hso)
    have HO := Lib.hid ho
    clear ho hso D
    generalize hN : xs.length = N at *
    have HN := Lib.hid hN
    clear hN
    go_wp2_with fail
    refine (GreatestOf_yes _ _ _ _ _ S.out HO.out HC.out).mono ?_
    rintro e w2 ⟨rfl, hg2⟩
    have S2 := Lib.hid (S.out.grown hg2)
    have hb2 := below_grown hb hg2 hsz
    have hsz2 : w.heap.size ≤ w2.heap.size := Nat.le_trans hsz hg2.size
    clear hg2
    go_wp2_with fail
    refine (sGreatestOf_yes _ _ _ _ _ S2.out HO.out HC.out).mono ?_
    rintro e w3 ⟨rfl, hg3⟩
    have S3 := Lib.hid (S2.out.grown hg3)
    have hb3 := below_grown hb2 hg3 hsz2
    have hsz3 : w.heap.size ≤ w3.heap.size := Nat.le_trans hsz2 hg3.size
    clear hg3
    go_wp2_with fail
    refine (PowersOf_yes _ _ _ _ _ S3.out HO.out HC.out).mono ?_
    intro e w4 hmd
    obtain ⟨B4, c4, rfl, hc4, hcm4, hr4, ho4, hg4⟩ := hmd.out 0 (by rw [powL_length, HN.out]; omega)
    rw [powL_length, HN.out] at hr4 hc4 ⊢
    have hb4 := below_grown hb3 hg4 hsz3
    have R4 := Lib.hid hr4.2.2
    clear hmd ho4 hg4 hr4
    unfold maxLen at hcm4
    have hbl := bestK_lt xs N
    have hgn : bestK xs N < N := by omega
    obtain ⟨m1, m2⟩ := bestK_max xs N
    have M1 := Lib.hid m1
    have M2 := Lib.hid m2
    obtain ⟨b, o, rfl, hbs, hcell⟩ := R4.out (bestK xs N) hgn
    rw [powL_at (by rw [HN.out]; exact hgn)] at hcell
    clear hbl m1 m2
    generalize bestK xs N = g at *
    unfold F64 at hcell
    have hge : decide (N ≤ g) = false := by simp; omega
    go_wp2_with fail
    go_loopw [10] (fun i wr => ∃ k : Nat, k ≤ N ∧ i = .int .i64 k ∧ ∃ d, w4.drewN d = wr) (fun i _ => N - (intOf i).toNat)
    case atStart => exact ⟨0, Nat.zero_le _, rfl, 0, rfl⟩
    case round =>
      obtain ⟨k, hk, rfl, d, rfl⟩ := hrel
      by_cases hlt : k < N
      · obtain ⟨b', o', e', hbs', hcell'⟩ := R4.out k hlt
        cases e'
        rw [powL_at (by rw [HN.out]; exact hlt)] at hcell'
        unfold F64 at hcell'
        have f1 := best_step HC.out k g
        rw [decide_eq_false (by have := M1.out k hlt; omega)] at f1
        by_cases hkg : k < g
        · have f2 := best_eq HC.out k g
          rw [decide_eq_false (by have := M2.out k hkg; omega)] at f2
          have d2 : decide (k < g) = true := by simpa using hkg
          generalize powF xs k = a at *
          generalize powF xs g = a2 at *
          go_wp2_with fail
          go_quiet (fail)
          go_wp2_with fail
          go_roundw
          case rel => exact ⟨k + 1, by omega, by go_num, _, rfl⟩
          case measure => simp [intOf]; omega
        · have d2 : decide (k < g) = false := by simpa using hkg
          generalize powF xs k = a at *
          generalize powF xs g = a2 at *
          go_wp2_with fail
          go_quiet (fail)
          go_wp2_with fail
          go_roundw
          case rel => exact ⟨k + 1, by omega, by go_num, _, rfl⟩
          case measure => simp [intOf]; omega
      · go_wp2_with fail
        go_ret
        refine ⟨rfl, ?_⟩
        repeat (first | exact hb4 | refine below_drewN ?_ _)
  · have HO := Lib.hid ho
    clear ho
    go_wp2_with fail
    refine (GreatestOf_no _ _ _ _ _ S.out HO.out).mono ?_
    rintro e w2 ⟨rfl, hg2⟩
    have S2 := Lib.hid (S.out.grown hg2)
    have hb2 := below_grown hb hg2 hsz
    have hsz2 : w.heap.size ≤ w2.heap.size := Nat.le_trans hsz hg2.size
    clear hg2
    go_wp2_with fail
    refine (sGreatestOf_no _ _ _ _ _ S2.out HO.out).mono ?_
    rintro e w3 ⟨rfl, hg3⟩
    have hb3 := below_grown hb2 hg3 hsz2
    clear hg3
    go_wp2_with fail
    refine (alive_any _).mono ?_
    rintro e w' ⟨rfl, rfl⟩
    go_wp2_with fail
    go_ret
    exact ⟨rfl, hb3⟩
end Go.Proofs.Ytcnlgoghnlcndaa
