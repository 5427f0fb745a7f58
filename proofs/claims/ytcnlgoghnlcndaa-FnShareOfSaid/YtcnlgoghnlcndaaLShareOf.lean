/- The walk of the law FnShareOf: true at every code. -/
import Derived.Test.YtcnlgoghnlcndaaSr
import Derived.Test.YtcnlgoghnlcndaaLGreatestOf
namespace Go.Proofs.Ytcnlgoghnlcndaa
open Go.RowKit Ieee

theorem le_ord {a b : Nat} (ha : fin double a = true) (hb : fin double b = true) (h : iv double a ≤ iv double b) :
    (FloatKind.f64.format.order a b == some .lt || FloatKind.f64.format.order a b == some .eq) = true := by
  show (double.order a b == some .lt || double.order a b == some .eq) = true
  rw [cmp_lt double ha hb, cmp_eq double ha hb]
  simp only [Bool.or_eq_true, decide_eq_true_eq]
  omega
theorem ge_ord {a b : Nat} (ha : fin double a = true) (hb : fin double b = true) (h : iv double b ≤ iv double a) :
    (FloatKind.f64.format.order a b == some .gt || FloatKind.f64.format.order a b == some .eq) = true := by
  show (double.order a b == some .gt || double.order a b == some .eq) = true
  rw [cmp_gt double ha hb, cmp_eq double ha hb]
  simp only [Bool.or_eq_true, decide_eq_true_eq]
  omega
theorem ord00 : (FloatKind.f64.format.order 0 0 == some .eq) = true := by decide +kernel

/-- What is left to say, both with and without a share. -/
theorem best_share {xs : List Num} {N s q : Nat} (hc : Calm xs) (hp : powB N = true) (hn1 : 1 ≤ N) (hn : N ≤ 16) (hs : SmOk xs N s) (h0 : iv double s ≠ 0) (hq : floatBits .quo .f64 (powF xs (bestK xs N)) s = some q) :
    ∃ a b : Nat, floatBits .quo .f64 4607182418800017408 (floatOfInt .f64 (N : Int)) = some a ∧ floatBits .sub .f64 a 4517329193108106637 = some b ∧
      (FloatKind.f64.format.order q b == some .gt || FloatKind.f64.format.order q b == some .eq) = true := by
  have hm : N ∈ [1, 2, 4, 8, 16] := by
    have : N = 1 ∨ N = 2 ∨ N = 4 ∨ N = 8 ∨ N = 16 := by rcases pow_cases hp with e | e | e | e | e <;> omega
    simpa using this
  obtain ⟨i1, i2, i3⟩ := inv_some N hm
  have hbl := bestK_lt xs N
  have hb : bestK xs N < N := by omega
  obtain ⟨q', q1, q2, _, _, _, q6⟩ := share_at hc hn hb hs h0
  rw [hq] at q1
  cases q1
  refine ⟨_, _, i1, i2, ge_ord q2 i3 (q6 N hm ?_)⟩
  have hv := pv_rng hc (bestK xs N)
  obtain ⟨P, hP⟩ := Int.eq_ofNat_of_zero_le hv.1
  have ht := sm_top hc hn (P := P) (by omega) (fun j hj => by have := (bestK_max xs N).1 j hj; omega)
  have e : iv double (powF xs (bestK xs N)) = (P : Int) := hP
  rw [hs.2.1, e]
  have e2 : (P : Int) * (N : Int) = ((N * P : Nat) : Int) := by rw [Int.natCast_mul, Int.mul_comm]
  rw [e2]
  generalize N * P = T at *
  omega
theorem unit_ords {xs : List Num} {n k s q : Nat} (hc : Calm xs) (hn : n ≤ 16) (hk : k < n) (hs : SmOk xs n s) (h0 : iv double s ≠ 0) (hq : floatBits .quo .f64 (powF xs k) s = some q) :
    fin double q = true ∧ (FloatKind.f64.format.order q 0 == some .gt || FloatKind.f64.format.order q 0 == some .eq) = true ∧
      (FloatKind.f64.format.order q 4607182418800017408 == some .lt || FloatKind.f64.format.order q 4607182418800017408 == some .eq) = true := by
  obtain ⟨q', q1, q2, _, q4, q5, _⟩ := share_at hc hn hk hs h0
  rw [hq] at q1
  cases q1
  refine ⟨q2, ge_ord q2 (by decide +kernel) ?_, le_ord q2 one64.1 (by rw [one64.2]; exact q5)⟩
  have z : iv double 0 = 0 := by decide +kernel
  rw [z]; exact q4

set_option maxRecDepth 100000 in
set_option maxHeartbeats 8000000 in
theorem FnShareOf_walk (A : Option Addr) (n cap : Nat) (w : World) (h : Code w A n cap) :
    Calls Try.prog 16 #[.slice A n cap] w fun e w' => e = .returned (.bool true) ∧ Below w.heap.size w w' := by
  have hm := h.2.1
  unfold maxLen at hm
  rcases Nat.lt_or_ge 1048576 n with hn | hn
  · go_enter Try.func16, Try.ntmps16
    go_wp2_with fail
    go_ret
    exact ⟨rfl, Below.refl _ _⟩
  have H := Lib.hid h
  clear h
  have o00 := ord00
  go_enter Try.func16, Try.ntmps16
  go_wp2_with fail
  refine (DrawShareOf_any _ _ _ _ H.out).mono ?_
  rintro e w1 ⟨B, c, xs, k, rfl, hd, hk1, hk2, hl41, hc, hcm, hs, hb⟩
  have hsz := hb.size
  have S := Lib.hid hs
  have D := Lib.hid hd
  unfold maxLen at hcm
  clear H hs hd
  rcases Bool.eq_false_or_eq_true (sizeOk xs) with ho | ho
  · obtain ⟨hpw, hso, hn1, hn16⟩ := sizeOk_parts ho
    have HC := Lib.hid (D.out.calm hso)
    have HO := Lib.hid ho
    have PB := Lib.hid hpw
    clear ho hso D hpw
    generalize hN : xs.length = N at *
    have HN := Lib.hid hN
    clear hN
    by_cases hin : 0 ≤ k ∧ k < N
    · obtain ⟨k, rfl⟩ := Int.eq_ofNat_of_zero_le hin.1
      have hkN : k < N := by omega
      go_wp2_with fail
      refine (ShareOf_yes _ _ _ k _ _ S.out HO.out HC.out hkN).mono ?_
      rintro e w2 ⟨hg2, s, hsm, hor⟩
      have S2 := Lib.hid (S.out.grown hg2)
      have hb2 := below_grown hb hg2 hsz
      have hsz2 : w.heap.size ≤ w2.heap.size := Nat.le_trans hsz hg2.size
      have SM := Lib.hid hsm
      clear hg2 hsm
      rcases hor with ⟨hz, rfl⟩ | ⟨hz, q, hq, rfl⟩
      · have HZ := Lib.hid hz
        clear hz
        go_wp2_with fail
        refine (sShareOf_yes _ _ _ k _ _ S2.out HO.out HC.out hkN).mono ?_
        rintro e w3 ⟨hg3, s', hsm', hor'⟩
        have es : s' = s := by rw [hsm'.2.2.2.2, SM.out.2.2.2.2]
        subst es
        have hb3 := below_grown hb2 hg3 hsz2
        rcases hor' with ⟨_, rfl⟩ | ⟨hz', _⟩
        · clear hsm' hg3
          go_wp2_with fail
          refine (samePart_fin 0 _ (by decide +kernel)).mono ?_
          rintro e w' ⟨rfl, rfl⟩
          go_wp2_with fail
          refine (alive_any _).mono ?_
          rintro e w' ⟨rfl, rfl⟩
          go_wp2_with fail
          go_ret
          refine ⟨rfl, ?_⟩
          repeat (first | exact hb3 | refine below_drewN ?_ _)
        · exact absurd HZ.out hz'
      · obtain ⟨f1, f2, f3⟩ := unit_ords HC.out hn16 hkN SM.out hz hq
        have HZ := Lib.hid hz
        have HQ := Lib.hid hq
        have F1 := Lib.hid f1
        clear hz hq f1
        go_wp2_with fail
        refine (sShareOf_yes _ _ _ k _ _ S2.out HO.out HC.out hkN).mono ?_
        rintro e w3 ⟨hg3, s', hsm', hor'⟩
        have es : s' = s := by rw [hsm'.2.2.2.2, SM.out.2.2.2.2]
        subst es
        have S3 := Lib.hid (S2.out.grown hg3)
        have hb3 := below_grown hb2 hg3 hsz2
        have hsz3 : w.heap.size ≤ w3.heap.size := Nat.le_trans hsz2 hg3.size
        rcases hor' with ⟨hz', _⟩ | ⟨_, q', hq', rfl⟩
        · exact absurd hz' HZ.out
        · have eq : q' = q := Option.some.inj (hq'.symm.trans HQ.out)
          subst eq
          clear hsm' hg3 hq'
          go_wp2_with fail
          refine (samePart_fin q' _ F1.out).mono ?_
          rintro e w' ⟨rfl, rfl⟩
          go_wp2_with fail
          refine (GreatestOf_yes _ _ _ _ _ S3.out HO.out HC.out).mono ?_
          rintro e w4 ⟨rfl, hg4⟩
          have S4 := Lib.hid (S3.out.grown hg4)
          have hb4 := below_grown hb3 hg4 hsz3
          have hsz4 : w.heap.size ≤ w4.heap.size := Nat.le_trans hsz3 hg4.size
          clear hg4
          have hbl := bestK_lt xs N
          have hbN : bestK xs N < N := by omega
          clear hbl
          have BS := Lib.hid (fun (q : Nat) (hq : floatBits .quo .f64 (powF xs (bestK xs N)) s' = some q) => best_share HC.out PB.out hn1 hn16 SM.out HZ.out hq)
          have SH := Lib.hid (ShareOf_yes B N c (bestK xs N) xs w4 S4.out HO.out HC.out hbN)
          generalize bestK xs N = g at *
          go_wp2_with fail
          refine SH.out.mono ?_
          rintro e w5 ⟨hg5, s2, hsm2, hor2⟩
          have es : s2 = s' := by rw [hsm2.2.2.2.2, SM.out.2.2.2.2]
          subst es
          have hb5 := below_grown hb4 hg5 hsz4
          rcases hor2 with ⟨hz', _⟩ | ⟨_, q2, hq2, rfl⟩
          · exact absurd hz' HZ.out
          · obtain ⟨a, b, a1, a2, a3⟩ := BS.out q2 hq2
            have k1 := fun W : World => run_float_arith (P := Try.prog) W .quo 42 .f64 _ _ a a1
            have k2 := fun W : World => run_float_arith (P := Try.prog) W .sub 42 .f64 _ _ b a2
            clear hsm2 hg5 hq2 BS SH a1 a2
            go_wp2_with fail
            go_ret
            exact ⟨rfl, hb5⟩
    · have HK := Lib.hid (show k < 0 ∨ (N : Int) ≤ k by omega)
      clear hin
      go_wp2_with fail
      refine (ShareOf_out _ _ _ k _ _ S.out HO.out HC.out HK.out).mono ?_
      rintro e w2 ⟨rfl, hg2⟩
      have S2 := Lib.hid (S.out.grown hg2)
      have hb2 := below_grown hb hg2 hsz
      have hsz2 : w.heap.size ≤ w2.heap.size := Nat.le_trans hsz hg2.size
      clear hg2
      go_wp2_with fail
      refine (sShareOf_out _ _ _ k _ _ S2.out HO.out HC.out HK.out).mono ?_
      rintro e w3 ⟨rfl, hg3⟩
      have hb3 := below_grown hb2 hg3 hsz2
      clear hg3
      go_wp2_with fail
      refine (samePart_fin 0 _ (by decide +kernel)).mono ?_
      rintro e w' ⟨rfl, rfl⟩
      go_wp2_with fail
      refine (alive_any _).mono ?_
      rintro e w' ⟨rfl, rfl⟩
      go_wp2_with fail
      go_ret
      refine ⟨rfl, ?_⟩
      repeat (first | exact hb3 | refine below_drewN ?_ _)
  · have HO := Lib.hid ho
    clear ho
    go_wp2_with fail
    refine (ShareOf_no _ _ _ k _ _ S.out HO.out).mono ?_
    rintro e w2 ⟨rfl, hg2⟩
    have S2 := Lib.hid (S.out.grown hg2)
    have hb2 := below_grown hb hg2 hsz
    have hsz2 : w.heap.size ≤ w2.heap.size := Nat.le_trans hsz hg2.size
    clear hg2
    go_wp2_with fail
    refine (sShareOf_no _ _ _ k _ _ S2.out HO.out).mono ?_
    rintro e w3 ⟨rfl, hg3⟩
    have hb3 := below_grown hb2 hg3 hsz2
    clear hg3
    go_wp2_with fail
    refine (samePart_fin 0 _ (by decide +kernel)).mono ?_
    rintro e w' ⟨rfl, rfl⟩
    go_wp2_with fail
    refine (alive_any _).mono ?_
    rintro e w' ⟨rfl, rfl⟩
    go_wp2_with fail
    go_ret
    refine ⟨rfl, ?_⟩
    repeat (first | exact hb3 | refine below_drewN ?_ _)
end Go.Proofs.Ytcnlgoghnlcndaa
