/- The walk of the law FnTapsOk: true at every code. -/
import Derived.Test.YtcnlgoghnlcndaaW9
namespace Go.Proofs.Ytcnlgoghnlcndaa
open Go.RowKit Ieee

/-- A drawn signal, as the callers take it. -/
theorem SigRes.sig {w w' : World} {R p : Nat} {Q : List Num → Prop} {e : Ending} (h : SigRes w R p Q e w') :
    ∃ A cap xs, e = .returned (.slice A xs.length cap) ∧ Q xs ∧ xs.length ≤ 41 ∧ xs.length ≤ cap ∧ Sig w' A xs.length xs ∧ w'.ownsRow w.heap.size 34 1 (.slice A xs.length cap) xs.length (xs.map C) ∧ w.grownBy w' (some R) ∧ ∃ p', p' ≤ p + 500 ∧ RdAt w' R p' := by
  obtain ⟨v, xs, rfl, hq, ho, hl, hg, p', hp, hr⟩ := h
  obtain ⟨A, cap, rfl, hc, hs⟩ := Sig.of_own ho (by omega)
  exact ⟨A, cap, xs, rfl, hq, hl, hc, hs, ho, hg, p', hp, hr⟩

set_option maxHeartbeats 1000000 in
theorem DrawTapsOk_any (A : Option Addr) (n cap : Nat) (w : World) (h : Code w A n cap) :
    Calls Try.prog 32 #[.slice A n cap] w fun e w' => ∃ B c xs, e = .returned (.slice B (List.length xs) c) ∧ xs.length ≤ c ∧ Sig w' B xs.length xs ∧ Below w.heap.size w w' := by
  go_enter Try.func32, Try.ntmps32
  go_wp2_with fail
  refine (open_any _ _ _ _ h).mono ?_
  rintro e w1 ⟨rfl, hb1, hr1⟩
  go_wp2_with fail
  refine (pick_any _ _ _ _ hr1 (by omega) (by omega)).mono ?_
  rintro e w2 ⟨k, k1, k2, rfl, hg2, hr2⟩
  have hb2 := Below.grow hb1 hg2 hb1.size (Nat.le_refl _)
  obtain ⟨k, rfl⟩ := Int.eq_ofNat_of_zero_le k1
  go_wp2_with fail
  refine (signal_any _ _ _ _ _ hr2 (by omega) (by omega) (.inr (by omega))).mono ?_
  intro e w3 hs
  obtain ⟨B, c, xs, rfl, hq, hl, hc, hsig, ho, hg3, p', hp', hr3⟩ := hs.sig
  have hb3 := Below.grow hb2 hg3 hb2.size (Nat.le_refl _)
  clear hq hr3 hs ho
  go_wp2_with fail
  go_ret
  exact ⟨B, c, xs, rfl, hc, hsig, hb3⟩

def tapsOk (xs : List Num) : Bool := decide (1 ≤ xs.length) && decide (xs.length ≤ 5) && xs.all finN
theorem sigOk_short {xs : List Num} (h : xs.length ≤ 16) : sigOk xs = xs.all finN := by unfold sigOk; simp [h]

set_option maxHeartbeats 400000 in
theorem TapsOk_any (A : Option Addr) (n cap : Nat) (xs : List Num) (w : World) (h : Sig w A n xs) :
    Calls Try.prog 33 #[.slice A n cap] w fun e w' => e = .returned (.bool (tapsOk xs)) ∧ ∃ d, w.drewN d = w' := by
  have hl := h.1
  have hn := h.2.1
  unfold tapsOk
  rw [hl]
  by_cases h1 : 1 ≤ n
  · by_cases h5 : n ≤ 5
    · have d1 : (decide (1 ≤ n) && decide (n ≤ 5)) = true := by simp [h1, h5]
      rw [d1, Bool.true_and, ← sigOk_short (by omega)]
      clear d1 hl
      go_enter Try.func33, Try.ntmps33
      go_wp2_with (go_at_call 74; refine (SignalOk_any _ _ _ _ _ h).mono ?_; rintro e w' ⟨rfl, d, rfl⟩)
      go_ret
      exact ⟨rfl, _, rfl⟩
    · have d1 : (decide (1 ≤ n) && decide (n ≤ 5)) = false := by simp [h5]
      rw [d1, Bool.false_and]
      have d2 : decide (n ≤ 5) = false := by simp [h5]
      clear d1 hl h
      go_enter Try.func33, Try.ntmps33
      go_wp2_with fail
      go_ret
      exact ⟨rfl, 0, rfl⟩
  · have d1 : (decide (1 ≤ n) && decide (n ≤ 5)) = false := by simp [h1]
    rw [d1, Bool.false_and]
    have d2 : decide (1 ≤ n) = false := by simp [h1]
    clear d1 hl h
    go_enter Try.func33, Try.ntmps33
    go_wp2_with fail
    go_ret
    exact ⟨rfl, 0, rfl⟩

set_option maxHeartbeats 400000 in
theorem sTapsOk_any (A : Option Addr) (n cap : Nat) (xs : List Num) (w : World) (h : Sig w A n xs) :
    Calls Try.prog 34 #[.slice A n cap] w fun e w' => e = .returned (.bool (tapsOk xs)) ∧ ∃ d, w.drewN d = w' := by
  have hl := h.1
  have hn := h.2.1
  have key : tapsOk xs = (sigOk xs && (decide ((1 : Int) ≤ n) && decide ((n : Int) ≤ 5))) := by
    unfold tapsOk sigOk
    rw [hl, Bool.eq_iff_iff]
    simp only [Bool.and_eq_true, decide_eq_true_eq]
    constructor
    · rintro ⟨⟨a, b⟩, c⟩
      exact ⟨⟨by omega, c⟩, by omega, by omega⟩
    · rintro ⟨⟨a, c⟩, b1, b2⟩
      exact ⟨⟨by omega, by omega⟩, c⟩
  have HK := Lib.hid key
  clear key hl
  rcases Bool.eq_false_or_eq_true (sigOk xs) with hs | hs
  · have HS := Lib.hid hs
    clear hs
    go_enter Try.func34, Try.ntmps34
    go_wp2_with fail
    refine (sSignalOk_any _ _ _ _ _ h).mono ?_
    rw [HS.out]
    rintro e w' ⟨rfl, d, rfl⟩
    go_wp2_with fail
    refine (l1In_any _ _ _ _).mono ?_
    rintro e w' ⟨rfl, rfl⟩
    go_wp2_with fail
    go_ret
    exact ⟨ret_bool (by rw [HK.out, HS.out, Bool.true_and]), _, rfl⟩
  · have HS := Lib.hid hs
    clear hs
    go_enter Try.func34, Try.ntmps34
    go_wp2_with fail
    refine (sSignalOk_any _ _ _ _ _ h).mono ?_
    rw [HS.out]
    rintro e w' ⟨rfl, d, rfl⟩
    go_wp2_with fail
    go_ret
    exact ⟨ret_bool (by rw [HK.out, HS.out, Bool.false_and]), _, rfl⟩

theorem Sig.shorter {w : World} {A : Option Addr} {n : Nat} {xs : List Num} (h : Sig w A n xs) (m : Nat) (hm : m ≤ n) : Sig w A m (xs.take m) := by
  refine ⟨by rw [List.length_take, h.1]; omega, by have := h.2.1; omega, fun k hk => ?_⟩
  obtain ⟨b, o, e, hb, hc⟩ := h.2.2 k (by omega)
  refine ⟨b, o, e, hb, ?_⟩
  rw [hc]
  have hl := h.1
  simp [List.getD, hk]

theorem Sig.one (w : World) (z : Num) : Sig (w.alloc (.cells #[C z] 34)) (some ⟨w.heap.size, 0, none⟩) 1 [z] := by
  refine ⟨rfl, by omega, fun k hk => ⟨w.heap.size, 0, rfl, by simp, ?_⟩⟩
  obtain rfl : k = 0 := by omega
  exact cell_of_row _ w.heap.size 0 #[C z] 34 (0, 0) (heap_alloc_new w _)

theorem taps_one : tapsOk [(1065353216, 0)] = true := by decide +kernel
theorem taps_nil : tapsOk [] = false := rfl

theorem taps_shorter {xs : List Num} (h : tapsOk xs = true) (h2 : 2 ≤ xs.length) : tapsOk (xs.take (xs.length - 1)) = true := by
  unfold tapsOk at *
  simp only [Bool.and_eq_true, decide_eq_true_eq] at *
  refine ⟨⟨by rw [List.length_take]; omega, by rw [List.length_take]; omega⟩, ?_⟩
  rw [List.all_eq_true] at *
  intro x hx
  exact h.2 x (List.mem_of_mem_take hx)

set_option maxHeartbeats 400000 in
theorem TapsOk_long (A : Option Addr) (n cap : Nat) (w : World) (hn : 1048576 < n) (hm : n ≤ maxLen) :
    Calls Try.prog 7 #[.slice A n cap] w fun e w' => e = .returned (.bool true) ∧ Below w.heap.size w w' := by
  unfold maxLen at hm
  go_enter Try.func7, Try.ntmps7
  go_wp2_with fail
  go_ret
  exact ⟨rfl, Below.refl _ _⟩

theorem below_drewN {B : Nat} {a w : World} (h : Below B a w) (n : Nat) : Below B a (w.drewN n) := ⟨h.os, h.tape, h.output, h.size, h.block⟩

set_option maxHeartbeats 2000000 in
theorem FnTapsOk_walk (A : Option Addr) (n cap : Nat) (w : World) (h : Code w A n cap) :
    Calls Try.prog 7 #[.slice A n cap] w fun e w' => e = .returned (.bool true) ∧ Below w.heap.size w w' := by
  rcases Nat.lt_or_ge 1048576 n with hn | hn
  · exact TapsOk_long A n cap w hn h.2.1
  have hm := h.2.1
  unfold maxLen at hm
  go_enter Try.func7, Try.ntmps7
  go_wp2_with fail
  refine (DrawTapsOk_any _ _ _ _ h).mono ?_
  rintro e w1 ⟨B, c, xs, rfl, hc, hs, hb⟩
  have HS := Lib.hid hs
  have hl2 := hs.2.1
  clear h hs
  rcases Bool.eq_false_or_eq_true (tapsOk xs) with ht | ht
  · have HT := Lib.hid ht
    clear ht
    by_cases h2 : xs.length < 2
    · have d2 : decide (xs.length < 2) = true := by simpa using h2
      go_wp2_with fail
      refine (TapsOk_any _ _ _ _ _ HS.out).mono ?_
      rw [HT.out]
      rintro e w' ⟨rfl, d, rfl⟩
      go_wp2_with fail
      refine (sTapsOk_any _ _ _ _ _ (HS.out.drewN _)).mono ?_
      rw [HT.out]
      rintro e w' ⟨rfl, d', rfl⟩
      go_wp2_with fail
      refine (TapsOk_any _ _ _ [(1065353216, 0)] _ (Sig.one _ _)).mono ?_
      rw [taps_one]
      rintro e w' ⟨rfl, d'', rfl⟩
      go_wp2_with fail
      refine (TapsOk_any _ _ _ [] _ (Sig.nil _ _)).mono ?_
      rw [taps_nil]
      rintro e w' ⟨rfl, d3, rfl⟩
      go_wp2_with fail
      refine (alive_any _).mono ?_
      rintro e w' ⟨rfl, rfl⟩
      go_wp2_with fail
      go_ret
      refine ⟨rfl, ?_⟩
      repeat (first | exact hb | refine below_drewN ?_ _ | refine Below.alloc ?_ (by simp; have := hb.size; omega) _)
    · have d2 : decide (xs.length < 2) = false := by simpa using h2
      obtain ⟨b, o, rfl, hbb, _⟩ := HS.out.2.2 0 (by omega)
      go_wp2_with fail
      refine (TapsOk_any _ _ _ _ _ HS.out).mono ?_
      rw [HT.out]
      rintro e w' ⟨rfl, d, rfl⟩
      go_wp2_with fail
      refine (sTapsOk_any _ _ _ _ _ (HS.out.drewN _)).mono ?_
      rw [HT.out]
      rintro e w' ⟨rfl, d', rfl⟩
      go_wp2_with fail
      refine (TapsOk_any _ _ _ [(1065353216, 0)] _ (Sig.one _ _)).mono ?_
      rw [taps_one]
      rintro e w' ⟨rfl, d'', rfl⟩
      go_wp2_with fail
      refine (TapsOk_any _ _ _ [] _ (Sig.nil _ _)).mono ?_
      rw [taps_nil]
      rintro e w' ⟨rfl, d3, rfl⟩
      go_wp2_with fail
      refine (TapsOk_any _ _ _ (xs.take (xs.length - 1)) _ ?_).mono ?_
      · have h1 := HS.out.shorter (xs.length - 1) (by omega)
        repeat (first | exact h1 | refine Sig.drewN ?_ _ | refine Sig.alloc ?_ _)
      rw [taps_shorter HT.out (by omega)]
      rintro e w' ⟨rfl, d4, rfl⟩
      go_wp2_with fail
      refine (alive_any _).mono ?_
      rintro e w' ⟨rfl, rfl⟩
      go_wp2_with fail
      go_ret
      refine ⟨rfl, ?_⟩
      repeat (first | exact hb | refine below_drewN ?_ _ | refine Below.alloc ?_ (by simp; have := hb.size; omega) _)
  · have HT := Lib.hid ht
    clear ht
    go_wp2_with fail
    refine (TapsOk_any _ _ _ _ _ HS.out).mono ?_
    rw [HT.out]
    rintro e w' ⟨rfl, d, rfl⟩
    go_wp2_with fail
    refine (sTapsOk_any _ _ _ _ _ (HS.out.drewN _)).mono ?_
    rw [HT.out]
    rintro e w' ⟨rfl, d', rfl⟩
    go_wp2_with fail
    refine (TapsOk_any _ _ _ [(1065353216, 0)] _ (Sig.one _ _)).mono ?_
    rw [taps_one]
    rintro e w' ⟨rfl, d'', rfl⟩
    go_wp2_with fail
    refine (TapsOk_any _ _ _ [] _ (Sig.nil _ _)).mono ?_
    rw [taps_nil]
    rintro e w' ⟨rfl, d3, rfl⟩
    go_wp2_with fail
    refine (alive_any _).mono ?_
    rintro e w' ⟨rfl, rfl⟩
    go_wp2_with fail
    go_ret
    refine ⟨rfl, ?_⟩
    repeat (first | exact hb | refine below_drewN ?_ _ | refine Below.alloc ?_ (by simp; have := hb.size; omega) _)
end Go.Proofs.Ytcnlgoghnlcndaa
