/- Walks: MilliOf of spec, whole, wholeSignal. -/
import Derived.Test.YtcnlgoghnlcndaaWh
import Derived.Test.YtcnlgoghnlcndaaRo
namespace Go.Proofs.Ytcnlgoghnlcndaa
open Go.RowKit Ieee

def MilliRes (w : World) (e : Ending) (w' : World) : Prop :=
  (∃ re im : Int, -9999999 ≤ re ∧ re ≤ 9999999 ∧ -9999999 ≤ im ∧ im ≤ 9999999 ∧ e = .returned (.tuple #[.int .i64 re, .int .i64 im, .bool true]) ∧ ∃ d, w.drewN d = w') ∨
  (e = .returned (.tuple #[.int .i64 0, .int .i64 0, .bool false]) ∧ ∃ d, w.drewN d = w')
theorem MilliRes.no {w : World} (d : Nat) : MilliRes w (.returned (.tuple #[.int .i64 0, .int .i64 0, .bool false])) (w.drewN d) := .inr ⟨rfl, d, rfl⟩
theorem MilliRes.yes {w : World} {re im : Int} (d : Nat) (h1 : -9999999 ≤ re ∧ re ≤ 9999999) (h2 : -9999999 ≤ im ∧ im ≤ 9999999) : MilliRes w (.returned (.tuple #[.int .i64 re, .int .i64 im, .bool true])) (w.drewN d) :=
  .inl ⟨re, im, h1.1, h1.2, h2.1, h2.2, rfl, d, rfl⟩

set_option maxHeartbeats 4000000 in
theorem MilliOf_any (a b : Nat) (w : World) : Calls Try.prog 126 #[.complex .f32 a b] w (MilliRes w) := by
  rcases Bool.eq_false_or_eq_true (finC a b) with hf | hf
  · obtain ⟨f1, f2⟩ := finC_parts hf
    have F1 := Lib.hid f1
    have F2 := Lib.hid f2
    clear hf f1 f2
    have N0 := fun d => Lib.hid (MilliRes.no (w := w) d)
    go_enter Try.func126, Try.ntmps126
    go_wp2_with fail
    refine (sfinite_yes _ _ _ F1.out F2.out).mono ?_
    rintro e w' ⟨rfl, rfl⟩
    go_wp2_with fail
    refine (l1Small_any _ _).mono ?_
    rintro e w' ⟨c1, rfl, rfl⟩
    cases c1
    · go_wp2_with fail
      go_ret3
      exact (N0 0).out
    · go_wp2_with fail
      refine (l1Small_any _ _).mono ?_
      rintro e w' ⟨c2, rfl, rfl⟩
      cases c2
      · go_wp2_with fail
        go_ret3
        exact (N0 0).out
      · go_wp2_with fail
        refine (l1Round_any _ _ F1.out).mono ?_
        rintro e w' ⟨n, rfl, d, rfl⟩
        go_wp2_with fail
        refine (l1Round_any _ _ F2.out).mono ?_
        rintro e w' ⟨m, rfl, d2, rfl⟩
        by_cases hn : -9999999 ≤ n ∧ n ≤ 9999999
        · go_wp2_with fail
          refine (l1In_yes _ _ _ _ hn.1 hn.2).mono ?_
          rintro e w' ⟨rfl, rfl⟩
          by_cases hm : -9999999 ≤ m ∧ m ≤ 9999999
          · have Y := Lib.hid (MilliRes.yes (w := w) (d + d2) hn hm)
            go_wp2_with fail
            refine (l1In_yes _ _ _ _ hm.1 hm.2).mono ?_
            rintro e w' ⟨rfl, rfl⟩
            go_wp2_with fail
            go_ret3
            first | exact Y.out | (rw [World.drewN_drewN]; exact Y.out)
          · go_wp2_with fail
            refine (l1In_no _ _ _ _ hm).mono ?_
            rintro e w' ⟨rfl, rfl⟩
            go_wp2_with fail
            go_ret3
            first | exact (N0 (d + d2)).out | (rw [World.drewN_drewN]; exact (N0 (d + d2)).out)
        · go_wp2_with fail
          refine (l1In_no _ _ _ _ hn).mono ?_
          rintro e w' ⟨rfl, rfl⟩
          go_wp2_with fail
          go_ret3
          first | exact (N0 (d + d2)).out | (rw [World.drewN_drewN]; exact (N0 (d + d2)).out)
  · have HF := Lib.hid hf
    clear hf
    have N0 := fun d => Lib.hid (MilliRes.no (w := w) d)
    go_enter Try.func126, Try.ntmps126
    go_wp2_with fail
    refine (sFinite_any _ _ _).mono ?_
    rw [HF.out]
    rintro e w' ⟨rfl, d, rfl⟩
    go_wp2_with fail
    go_ret3
    first | exact (N0 d).out | exact WholeRes.noB d (by assumption)

/-! whole -/
/-- Both parts are whole, and not more than 'most' either way. -/
def Whole (z : Num) (most : Int) : Prop := fin single z.1 = true ∧ fin single z.2 = true ∧ ∃ x y : Int, -most ≤ x ∧ x ≤ most ∧ -most ≤ y ∧ y ≤ most ∧ iv single z.1 = x * p2 149 ∧ iv single z.2 = y * p2 149

theorem order_fin_of {a b : Nat} (hb : fin single b = true) (h : (FloatKind.f32.format.order a b == some .eq) = true) : fin single a = true ∧ iv single a = iv single b := by
  rcases Bool.eq_false_or_eq_true (fin single a) with ha | ha
  · have h2 : (single.order a b == some .eq) = true := h
    rw [cmp_eq single ha hb] at h2
    exact ⟨ha, of_decide_eq_true h2⟩
  · have := order_nonfin_eq ha hb
    have h2 : (single.order a b == some .eq) = true := h
    rw [this] at h2; cases h2

theorem whole_of {z : Num} {most re im : Int} (h1 : re.tmod 1000 = 0) (h2 : im.tmod 1000 = 0) (r1 : -9999999 ≤ re) (r2 : re ≤ 9999999) (i1 : -9999999 ≤ im) (i2 : im ≤ 9999999)
    (o1 : (FloatKind.f32.format.order z.1 (milliW re) == some .eq) = true) (o2 : (FloatKind.f32.format.order z.2 (milliW im) == some .eq) = true)
    (b1 : -1000 * most ≤ re) (b2 : re ≤ 1000 * most) (b3 : -1000 * most ≤ im) (b4 : im ≤ 1000 * most) : Whole z most := by
  obtain ⟨_, _, _, a1, _, a2⟩ := milli_some (n := re) (k := 10000) (by omega) (by omega)
  obtain ⟨_, _, _, c1, _, c2⟩ := milli_some (n := im) (k := 10000) (by omega) (by omega)
  obtain ⟨f1, v1⟩ := order_fin_of a1 o1
  obtain ⟨f2, v2⟩ := order_fin_of c1 o2
  have e1 : re = 1000 * (re.tdiv 1000) := by have := Int.mul_tdiv_add_tmod re 1000; omega
  have e2 : im = 1000 * (im.tdiv 1000) := by have := Int.mul_tdiv_add_tmod im 1000; omega
  refine ⟨f1, f2, re.tdiv 1000, im.tdiv 1000, by omega, by omega, by omega, by omega, by rw [v1, a2 _ e1], by rw [v2, c2 _ e2]⟩

theorem mod_of_tmod {x : Int} (h : x.tmod 1000 = 0) : (x % 1000 == 0) = true := by
  have := Int.emod_eq_zero_of_dvd (Int.dvd_of_tmod_eq_zero h)
  simpa using this
def WholeRes (z : Num) (most : Int) (w : World) (e : Ending) (w' : World) : Prop := ∃ b : Bool, e = .returned (.bool b) ∧ (b = true → Whole z most) ∧ ∃ d, w.drewN d = w'
theorem WholeRes.no {z : Num} {most : Int} {w : World} (d : Nat) : WholeRes z most w (.returned (.bool false)) (w.drewN d) := ⟨false, rfl, (fun h => by cases h), d, rfl⟩
theorem WholeRes.noB {z : Num} {most : Int} {w : World} {c : Bool} (d : Nat) (h : c = false) : WholeRes z most w (.returned (.bool c)) (w.drewN d) := by subst h; exact WholeRes.no d
theorem WholeRes.yes {z : Num} {most : Int} {w : World} (d : Nat) (h : Whole z most) : WholeRes z most w (.returned (.bool true)) (w.drewN d) := ⟨true, rfl, fun _ => h, d, rfl⟩

set_option maxHeartbeats 8000000 in
theorem whole_any (a b : Nat) (most : Int) (w : World) (h1 : 0 ≤ most) (h2 : most ≤ 1000000) : Calls Try.prog 105 #[.complex .f32 a b, .int .i64 most] w (WholeRes (a, b) most w) := by
  have N0 := fun d => Lib.hid (WholeRes.no (z := (a, b)) (most := most) (w := w) d)
  go_enter Try.func105, Try.ntmps105
  go_wp2_with fail
  refine (MilliOf_any _ _ _).mono ?_
  rintro e w' (⟨re, im, r1, r2, i1, i2, rfl, d, rfl⟩ | ⟨rfl, d, rfl⟩)
  · by_cases c1 : re.tmod 1000 = 0
    · have t1 : (re.tmod 1000 == 0) = true := by simpa using c1
      by_cases c2 : im.tmod 1000 = 0
      · have t2 : (im.tmod 1000 == 0) = true := by simpa using c2
        have C1 := Lib.hid c1
        have C2 := Lib.hid c2
        have t3 : (re % 1000 == 0) = true := mod_of_tmod c1
        have t4 : (im % 1000 == 0) = true := mod_of_tmod c2
        clear c1 c2
        have HW := fun p1 p2' p3 p4 p5 p6 => whole_of (z := (a, b)) (most := most) C1.out C2.out r1 r2 i1 i2 p1 p2' p3 p4 p5 p6
        have HMl := fun W : World => sMilli_in re im W r1 r2 i1 i2
        generalize milliW re = mr at *
        generalize milliW im = mi at *
        have HHW := Lib.hid HW
        have HHM := Lib.hid HMl
        clear HW HMl
        rcases Bool.eq_false_or_eq_true (FloatKind.f32.format.order a mr == some .eq) with o1 | o1
        · rcases Bool.eq_false_or_eq_true (FloatKind.f32.format.order b mi == some .eq) with o2 | o2
          · by_cases q0 : -1000 * most ≤ re
            · by_cases q1 : re ≤ 1000 * most
              · by_cases q2 : -1000 * most ≤ im
                · by_cases q3 : im ≤ 1000 * most
                  · have Y := Lib.hid (WholeRes.yes (w := w) d (HHW.out o1 o2 q0 q1 q2 q3))
                    go_wp2_with fail
                    refine (HHM.out _).mono ?_
                    rintro e w' ⟨rfl, rfl⟩
                    go_wp2_with fail
                    go_ret
                    exact Y.out
                  · have dq := decide_eq_false q3
                    go_wp2_with fail
                    refine (HHM.out _).mono ?_
                    rintro e w' ⟨rfl, rfl⟩
                    go_wp2_with fail
                    go_ret
                    first | exact (N0 d).out | exact WholeRes.noB d (by assumption)
                · have dq := decide_eq_false q2
                  go_wp2_with fail
                  refine (HHM.out _).mono ?_
                  rintro e w' ⟨rfl, rfl⟩
                  go_wp2_with fail
                  go_ret
                  first | exact (N0 d).out | exact WholeRes.noB d (by assumption)
              · have dq := decide_eq_false q1
                go_wp2_with fail
                refine (HHM.out _).mono ?_
                rintro e w' ⟨rfl, rfl⟩
                go_wp2_with fail
                go_ret
                first | exact (N0 d).out | exact WholeRes.noB d (by assumption)
            · have dq := decide_eq_false q0
              go_wp2_with fail
              refine (HHM.out _).mono ?_
              rintro e w' ⟨rfl, rfl⟩
              go_wp2_with fail
              go_ret
              first | exact (N0 d).out | exact WholeRes.noB d (by assumption)
          · go_wp2_with fail
            refine (HHM.out _).mono ?_
            rintro e w' ⟨rfl, rfl⟩
            go_wp2_with fail
            go_ret
            first | exact (N0 d).out | exact WholeRes.noB d (by assumption)
        · go_wp2_with fail
          refine (HHM.out _).mono ?_
          rintro e w' ⟨rfl, rfl⟩
          go_wp2_with fail
          go_ret
          first | exact (N0 d).out | exact WholeRes.noB d (by assumption)
      · have t2 : (im.tmod 1000 == 0) = false := by simpa using c2
        clear c2
        go_wp2_with fail
        go_ret
        first | exact (N0 d).out | exact WholeRes.noB d (by assumption)
    · have t1 : (re.tmod 1000 == 0) = false := by simpa using c1
      clear c1
      go_wp2_with fail
      go_ret
      first | exact (N0 d).out | exact WholeRes.noB d (by assumption)
  · go_wp2_with fail
    go_ret
    first | exact (N0 d).out | exact WholeRes.noB d (by assumption)
end Go.Proofs.Ytcnlgoghnlcndaa
