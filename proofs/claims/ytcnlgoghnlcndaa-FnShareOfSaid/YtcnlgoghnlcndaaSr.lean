/- Walks: DrawShareOf, sumOfAll, ShareOf (impl, spec). -/
import Derived.Test.YtcnlgoghnlcndaaSq
import Derived.Test.YtcnlgoghnlcndaaAb
import Derived.Test.YtcnlgoghnlcndaaLPowersOf
import Derived.Test.YtcnlgoghnlcndaaPc
import Derived.Test.YtcnlgoghnlcndaaLPd
namespace Go.Proofs.Ytcnlgoghnlcndaa
open Go.RowKit Ieee

/-- A drawn signal, and a place, or one beside it. -/
def DrawAt (w : World) (e : Ending) (w' : World) : Prop :=
  ∃ B c xs, ∃ m : Int, e = .returned (.tuple #[.slice B (List.length xs) c, .int .i64 m]) ∧ DrawnSig xs ∧ -1 ≤ m ∧ m ≤ xs.length ∧ xs.length ≤ 41 ∧ xs.length ≤ c ∧ c ≤ maxLen ∧ Sig w' B xs.length xs ∧ Below w.heap.size w w'

set_option maxRecDepth 100000 in
set_option maxHeartbeats 8000000 in
theorem DrawShareOf_any (A : Option Addr) (n cap : Nat) (w : World) (h : Code w A n cap) : Calls Try.prog 67 #[.slice A n cap] w (DrawAt w) := by
  go_enter Try.func67, Try.ntmps67
  go_wp2_with fail
  refine (open_any _ _ _ _ h).mono ?_
  rintro e w1 ⟨rfl, hb1, hr1⟩
  have hlt := hr1.lt
  go_wp2_with fail
  refine (sized_any _ _ _ hr1 (by omega)).mono ?_
  rintro e w2 ⟨v, xs, rfl, hd, hl, ho, hg2, p', hp', hr2⟩
  have hb2 := Below.grow hb1 hg2 hb1.size (Nat.le_refl _)
  obtain ⟨B, c, rfl, hcc, hcm, hs⟩ := own_form (T := C) (0, 0) ho (by omega)
  have HO := Lib.hid ho
  have HD := Lib.hid hd
  have hcm' := hcm
  unfold maxLen at hcm'
  clear hg2 hb1 hs ho hr1 hd
  generalize hN : xs.length = N at *
  have HN := Lib.hid hN
  clear hN
  go_wp2_with fail
  refine (pick_any _ _ _ _ hr2 (by omega) (by omega)).mono ?_
  rintro e w4 ⟨j4, j5, j6, rfl, hg4, hr4⟩
  have hb4 := Below.grow hb2 hg4 hb2.size (Nat.le_refl _)
  have HO4 := Lib.hid (own_pick HO.out hg4 hlt)
  clear hg4 hr2 hb2 HO
  go_wp2_with fail
  refine (pick_any _ _ _ _ hr4 (by omega) (by omega)).mono ?_
  rintro e w5 ⟨j7, j8, j9, rfl, hg5, hr5⟩
  have hb5 := Below.grow hb4 hg5 hb4.size (Nat.le_refl _)
  have HO5 := Lib.hid (own_pick HO4.out hg5 hlt)
  clear hg5 hr4 hb4 HO4
  go_wp2_with fail
  go_ret2
  have HN' := HN.out
  subst HN'
  obtain ⟨B', c', e', _, _, hs'⟩ := own_form (T := C) (0, 0) HO5.out (by omega)
  cases e'
  refine ⟨B, c, xs, _, rfl, HD.out, ?_, ?_, hl, hcc, hcm, Sig.rw hs', hb5⟩
  · omega
  · omega

set_option maxRecDepth 100000 in
set_option maxHeartbeats 4000000 in
theorem sumOfAll_any (A : Option Addr) (n cap : Nat) (xs : List Num) (w : World) (h : Rw F64 0 w A n (powL xs)) (hc : Calm xs) (hl : xs.length = n) (hn : n ≤ 16) :
    Calls Try.prog 114 #[.slice A n cap] w fun e w' => ∃ s, e = .returned (.float .f64 s) ∧ SmOk xs n s ∧ w = w' := by
  have R := Lib.hid h.2.2
  have HC := Lib.hid hc
  have HL := Lib.hid hl
  clear h hc hl
  go_enter Try.func114, Try.ntmps114
  go_wp2_with fail
  go_loop [3, 8] (fun v i => ∃ k : Nat, k ≤ n ∧ i = .int .i64 k ∧ ∃ s : Nat, v = .float .f64 s ∧ Hid (SmOk xs k s)) (fun _ i => n - (intOf i).toNat)
  case atStart => exact ⟨0, Nat.zero_le _, rfl, 0, rfl, Lib.hid (SmOk.zero xs)⟩
  case round =>
    obtain ⟨k, hk, rfl, s, rfl, hst⟩ := hrel
    by_cases hlt : k < n
    · obtain ⟨b, o, rfl, hbs, hcell⟩ := R.out k hlt
      rw [powL_at (by rw [HL.out]; exact hlt)] at hcell
      obtain ⟨r, r1, r2⟩ := SmOk.step HC.out (k := k) (by omega) hst.out
      have k1 := fun W : World => run_float_arith (P := Try.prog) W .add 42 .f64 _ _ r r1
      unfold F64 at hcell
      generalize powF xs k = q at *
      have R2 := Lib.hid r2
      clear r1 r2 hst
      go_wp2_with fail
      go_round
      case rel => exact ⟨k + 1, by omega, by go_num, r, rfl, R2⟩
      case measure => simp [intOf]; omega
    · obtain rfl : k = n := by omega
      go_wp2_with fail
      go_ret
      exact ⟨s, rfl, hst.out, rfl⟩

def ShareRes (xs : List Num) (n k : Nat) (w : World) (e : Ending) (w' : World) : Prop :=
  w.grownBy w' none ∧ ∃ s, SmOk xs n s ∧ ((iv double s = 0 ∧ e = .returned (.tuple #[.float .f64 0, .bool false])) ∨
    (iv double s ≠ 0 ∧ ∃ q, floatBits .quo .f64 (powF xs k) s = some q ∧ e = .returned (.tuple #[.float .f64 q, .bool true])))

theorem sum_zero {s : Nat} (h : fin double s = true) : (FloatKind.f64.format.order s 0 == some .eq) = decide (iv double s = 0) := by
  have := cmp_eq double h (show fin double 0 = true by decide +kernel)
  have z : iv double 0 = 0 := by decide +kernel
  rw [z] at this
  exact this
theorem share_at {xs : List Num} {n k s : Nat} (hc : Calm xs) (hn : n ≤ 16) (hk : k < n) (hs : SmOk xs n s) (h0 : iv double s ≠ 0) :
    ∃ q, floatBits .quo .f64 (powF xs k) s = some q ∧ fin double q = true ∧ q < 18446744073709551616 ∧ 0 ≤ iv double q ∧ iv double q ≤ (p2 1074 : Int) ∧
      (∀ m ∈ [1, 2, 4, 8, 16], iv double s * 1073741823 ≤ iv double (powF xs k) * (m : Nat) * 1073741824 → iv double (lowW m) ≤ iv double q) := by
  have hp := pv_rng hc k
  have hg := sm_ge hc n (by omega) hk
  refine share_of (powF_fin hc k) hs.1 hp.1 ?_ h0
  rw [hs.2.1]
  exact hg

set_option maxRecDepth 100000 in
set_option maxHeartbeats 8000000 in
theorem ShareOf_yes (A : Option Addr) (n cap k : Nat) (xs : List Num) (w : World) (h : Sig w A n xs) (hs : sizeOk xs = true) (hc : Calm xs) (hk : k < n) :
    Calls Try.prog 68 #[.slice A n cap, .int .i64 k] w (ShareRes xs n k w) := by
  have hl := h.1
  have hn16 : n ≤ 16 := by have := (sizeOk_parts hs).2.2.2; omega
  have H := Lib.hid h
  have HS := Lib.hid hs
  have HL := Lib.hid hl
  have HC := Lib.hid hc
  clear h hs hl hc
  go_enter Try.func68, Try.ntmps68
  go_wp2_with fail
  refine (PowersOf_yes _ _ _ _ _ H.out HS.out HC.out).mono ?_
  intro e w2 hmd
  obtain ⟨B2, c2, rfl, hc2, hcm2, hr2, ho2, hg2⟩ := hmd.out 0 (by rw [powL_length, HL.out]; omega)
  rw [powL_length, HL.out] at hr2 hc2 ⊢
  have G := Lib.hid hg2
  have R := Lib.hid hr2
  clear hmd ho2 hg2 hr2
  unfold maxLen at hcm2
  have i1 : (0 : Int) ≤ (k : Int) := by omega
  have i2 : (k : Int) < (n : Int) := by omega
  go_wp2_with fail
  refine (sumOfAll_any _ _ _ _ _ R.out HC.out HL.out hn16).mono ?_
  rintro e w' ⟨s, rfl, hsm, rfl⟩
  have SM := Lib.hid hsm
  have z := sum_zero hsm.1
  clear hsm
  by_cases hz : iv double s = 0
  · have z' : (FloatKind.f64.format.order s 0 == some .eq) = true := by rw [z]; simpa using hz
    clear z
    go_wp2_with fail
    go_ret2
    exact ⟨G.out, s, SM.out, .inl ⟨hz, rfl⟩⟩
  · have z' : (FloatKind.f64.format.order s 0 == some .eq) = false := by rw [z]; simpa using hz
    clear z
    obtain ⟨q, q1, q2, q3, _⟩ := share_at HC.out hn16 hk SM.out hz
    have k1 := fun W : World => run_float_arith (P := Try.prog) W .quo 42 .f64 _ _ q q1
    obtain ⟨b, o, rfl, hbs, hcell⟩ := R.out.2.2 k hk
    rw [powL_at (by rw [HL.out]; exact hk)] at hcell
    have HQ := Lib.hid q1
    have HF := Lib.hid q2
    clear q1 q2
    have HZ := Lib.hid hz
    clear hz
    unfold F64 at hcell
    obtain ⟨x, hx⟩ : ∃ x, powF xs k = x := ⟨_, rfl⟩
    rw [hx] at HQ hcell k1
    have HX := Lib.hid hx
    clear hx
    go_wp2_with fail
    refine (isNaN_fin q _ HF.out).mono ?_
    rintro e w' ⟨rfl, rfl⟩
    go_wp2_with fail
    refine (isInf_any q _ HF.out q3).mono ?_
    rintro e w' ⟨rfl, rfl⟩
    go_wp2_with fail
    go_ret2
    exact ⟨G.out, s, SM.out, .inr ⟨HZ.out, q, by rw [HX.out]; exact HQ.out, rfl⟩⟩

def NoShare (w : World) (e : Ending) (w' : World) : Prop := e = .returned (.tuple #[.float .f64 0, .bool false]) ∧ w.grownBy w' none

set_option maxRecDepth 100000 in
set_option maxHeartbeats 4000000 in
theorem ShareOf_no (A : Option Addr) (n cap : Nat) (k : Int) (xs : List Num) (w : World) (h : Sig w A n xs) (hs : sizeOk xs = false) :
    Calls Try.prog 68 #[.slice A n cap, .int .i64 k] w (NoShare w) := by
  have H := Lib.hid h
  have HS := Lib.hid hs
  clear h hs
  go_enter Try.func68, Try.ntmps68
  go_wp2_with fail
  refine (PowersOf_no _ _ _ _ _ H.out HS.out).mono ?_
  rintro e w' ⟨rfl, d, rfl⟩
  go_wp2_with fail
  go_ret2
  exact ⟨rfl, grown_drewN (grown_refl w none) d⟩

set_option maxRecDepth 100000 in
set_option maxHeartbeats 4000000 in
theorem ShareOf_out (A : Option Addr) (n cap : Nat) (k : Int) (xs : List Num) (w : World) (h : Sig w A n xs) (hs : sizeOk xs = true) (hc : Calm xs) (hk : k < 0 ∨ (n : Int) ≤ k) :
    Calls Try.prog 68 #[.slice A n cap, .int .i64 k] w (NoShare w) := by
  have hl := h.1
  have hn16 : n ≤ 16 := by have := (sizeOk_parts hs).2.2.2; omega
  have H := Lib.hid h
  have HS := Lib.hid hs
  have HL := Lib.hid hl
  have HC := Lib.hid hc
  clear h hs hl hc
  go_enter Try.func68, Try.ntmps68
  go_wp2_with fail
  refine (PowersOf_yes _ _ _ _ _ H.out HS.out HC.out).mono ?_
  intro e w2 hmd
  obtain ⟨B2, c2, rfl, hc2, hcm2, hr2, ho2, hg2⟩ := hmd.out 0 (by rw [powL_length, HL.out]; omega)
  rw [powL_length, HL.out] at hr2 hc2 ⊢
  have G := Lib.hid hg2
  clear hmd ho2 hg2 hr2
  unfold maxLen at hcm2
  rcases hk with hk | hk
  · go_wp2_with fail
    go_ret2
    exact ⟨rfl, G.out⟩
  · by_cases h0 : k < 0
    · omega
    · go_wp2_with fail
      go_ret2
      exact ⟨rfl, G.out⟩

set_option maxRecDepth 100000 in
set_option maxHeartbeats 4000000 in
theorem sShareOf_no (A : Option Addr) (n cap : Nat) (k : Int) (xs : List Num) (w : World) (h : Sig w A n xs) (hs : sizeOk xs = false) :
    Calls Try.prog 69 #[.slice A n cap, .int .i64 k] w (NoShare w) := by
  have H := Lib.hid h
  have HS := Lib.hid hs
  clear h hs
  go_enter Try.func69, Try.ntmps69
  go_wp2_with fail
  refine (sPowersOf_no _ _ _ _ _ H.out HS.out).mono ?_
  intro e w3 hmd
  obtain ⟨B3, c3, rfl, hc3, hcm3, hr3, ho3, hg3⟩ := hmd.out 0 (by simp)
  simp only [List.length_nil] at hr3 hc3 ⊢
  have G := Lib.hid hg3
  clear hmd ho3 hg3 hr3
  unfold maxLen at hcm3
  go_wp2_with fail
  go_ret2
  exact ⟨rfl, G.out⟩

set_option maxRecDepth 100000 in
set_option maxHeartbeats 4000000 in
theorem sShareOf_out (A : Option Addr) (n cap : Nat) (k : Int) (xs : List Num) (w : World) (h : Sig w A n xs) (hs : sizeOk xs = true) (hc : Calm xs) (hk : k < 0 ∨ (n : Int) ≤ k) :
    Calls Try.prog 69 #[.slice A n cap, .int .i64 k] w (NoShare w) := by
  have hl := h.1
  have hn16 : n ≤ 16 := by have := (sizeOk_parts hs).2.2.2; omega
  have H := Lib.hid h
  have HS := Lib.hid hs
  have HL := Lib.hid hl
  have HC := Lib.hid hc
  clear h hs hl hc
  go_enter Try.func69, Try.ntmps69
  go_wp2_with fail
  refine (sPowersOf_yes _ _ _ _ _ H.out HS.out HC.out).mono ?_
  intro e w2 hmd
  obtain ⟨B2, c2, rfl, hc2, hcm2, hr2, ho2, hg2⟩ := hmd.out 0 (by rw [powL_length, HL.out]; omega)
  rw [powL_length, HL.out] at hr2 hc2 ⊢
  have G := Lib.hid hg2
  clear hmd ho2 hg2 hr2
  unfold maxLen at hcm2
  go_wp2_with fail
  refine (l1In_no _ _ _ _ (by omega)).mono ?_
  rintro e w' ⟨rfl, rfl⟩
  go_wp2_with fail
  go_ret2
  exact ⟨rfl, G.out⟩

theorem fin_sub64 {a : Nat} (h : fin double a = true) : floatBits .sub .f64 a a = some 0 := by
  have := sub_fin double h h
  rw [Int.sub_self] at this
  show double.sub a a = some 0
  rw [this]
  simp [rt_zero, Format.word]

set_option maxRecDepth 100000 in
set_option maxHeartbeats 8000000 in
theorem sShareOf_yes (A : Option Addr) (n cap k : Nat) (xs : List Num) (w : World) (h : Sig w A n xs) (hs : sizeOk xs = true) (hc : Calm xs) (hk : k < n) :
    Calls Try.prog 69 #[.slice A n cap, .int .i64 k] w (ShareRes xs n k w) := by
  have hl := h.1
  have hn16 : n ≤ 16 := by have := (sizeOk_parts hs).2.2.2; omega
  have H := Lib.hid h
  have HS := Lib.hid hs
  have HL := Lib.hid hl
  have HC := Lib.hid hc
  clear h hs hl hc
  go_enter Try.func69, Try.ntmps69
  go_wp2_with fail
  refine (sPowersOf_yes _ _ _ _ _ H.out HS.out HC.out).mono ?_
  intro e w2 hmd
  obtain ⟨B2, c2, rfl, hc2, hcm2, hr2, ho2, hg2⟩ := hmd.out 0 (by rw [powL_length, HL.out]; omega)
  rw [powL_length, HL.out] at hr2 hc2 ⊢
  have G := Lib.hid hg2
  have R := Lib.hid hr2
  clear hmd ho2 hg2 hr2
  unfold maxLen at hcm2
  have i1 : (0 : Int) ≤ (k : Int) := by omega
  have i2 : (k : Int) < (n : Int) := by omega
  go_wp2_with fail
  refine (l1In_yes _ _ _ _ (by omega) (by omega)).mono ?_
  rintro e w' ⟨rfl, rfl⟩
  go_wp2_with fail
  go_loop [8, 9] (fun v i => ∃ j : Nat, j ≤ n ∧ i = .int .i64 j ∧ ∃ s : Nat, v = .float .f64 s ∧ Hid (SmOk xs j s)) (fun _ i => n - (intOf i).toNat)
  case atStart => exact ⟨0, Nat.zero_le _, rfl, 0, rfl, Lib.hid (SmOk.zero xs)⟩
  case round =>
    obtain ⟨j, hj, rfl, s, rfl, hst⟩ := hrel
    by_cases hlt : j < n
    · obtain ⟨b, o, rfl, hbs, hcell⟩ := R.out.2.2 j hlt
      rw [powL_at (by rw [HL.out]; exact hlt)] at hcell
      obtain ⟨r, r1, r2⟩ := SmOk.step HC.out (k := j) (by omega) hst.out
      have k1 := fun W : World => run_float_arith (P := Try.prog) W .add 42 .f64 _ _ r r1
      unfold F64 at hcell
      generalize powF xs j = q at *
      have R2 := Lib.hid r2
      clear r1 r2 hst
      go_wp2_with fail
      go_round
      case rel => exact ⟨j + 1, by omega, by go_num, r, rfl, R2⟩
      case measure => simp [intOf]; omega
    · obtain rfl : j = n := by omega
      have z := sum_zero hst.out.1
      by_cases hz : iv double s = 0
      · have z' : (FloatKind.f64.format.order s 0 == some .eq) = true := by rw [z]; simpa using hz
        clear z
        go_wp2_with fail
        go_ret2
        exact ⟨G.out, s, hst.out, .inl ⟨hz, rfl⟩⟩
      · have z' : (FloatKind.f64.format.order s 0 == some .eq) = false := by rw [z]; simpa using hz
        clear z
        obtain ⟨q, q1, q2, q3, _⟩ := share_at HC.out hn16 hk hst.out hz
        have k1 := fun W : World => run_float_arith (P := Try.prog) W .quo 42 .f64 _ _ q q1
        have k2 := fun W : World => run_float_arith (P := Try.prog) W .sub 42 .f64 _ _ 0 (fin_sub64 q2)
        obtain ⟨b, o, rfl, hbs, hcell⟩ := R.out.2.2 k hk
        rw [powL_at (by rw [HL.out]; exact hk)] at hcell
        have HQ := Lib.hid q1
        clear q1 q2
        have HZ := Lib.hid hz
        clear hz
        have h00 : (FloatKind.f64.format.order 0 0 != some .eq) = false := order_00n
        unfold F64 at hcell
        obtain ⟨x, hx⟩ : ∃ x, powF xs k = x := ⟨_, rfl⟩
        rw [hx] at HQ hcell k1
        have HX := Lib.hid hx
        clear hx
        go_wp2_with fail
        go_ret2
        exact ⟨G.out, s, hst.out, .inr ⟨HZ.out, q, by rw [HX.out]; exact HQ.out, rfl⟩⟩
end Go.Proofs.Ytcnlgoghnlcndaa
