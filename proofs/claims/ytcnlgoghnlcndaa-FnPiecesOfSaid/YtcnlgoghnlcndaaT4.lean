/- Walks: SizeOk, TransformOf (impl and spec). -/
import Derived.Test.YtcnlgoghnlcndaaT3
import Derived.Test.YtcnlgoghnlcndaaSn
namespace Go.Proofs.Ytcnlgoghnlcndaa
open Go.RowKit Ieee

/-! A drawn signal is calm. -/
theorem nm_small {a b : Nat} (h : Small a b) : Nm (a, b) 1 := by
  refine ⟨h.1, h.2.1, ?_⟩
  have h1 := sq_le h.2.2.1
  have h2 := sq_le h.2.2.2
  have h3 : (12 * p2 149) * (12 * p2 149) + (12 * p2 149) * (12 * p2 149) ≤ (1 * p2 253) * (1 * p2 253) := by decide +kernel
  have h4 : ((12 * p2 149 : Nat) : Int) * ((12 * p2 149 : Nat) : Int) + ((12 * p2 149 : Nat) : Int) * ((12 * p2 149 : Nat) : Int) ≤ ((1 * p2 253 : Nat) : Int) * ((1 * p2 253 : Nat) : Int) := by exact_mod_cast h3
  exact Int.le_trans (Int.add_le_add h1 h2) h4
theorem nm_drawn {a b : Nat} (h : Drawn a b) (hf : finC a b = true) : Nm (a, b) 14841000 := by
  rcases h with h | ⟨h1, h2, h3⟩
  · rw [hf] at h; cases h
  · refine ⟨h1, h2, Int.le_trans h3 ?_⟩
    have h4 : HH * HH ≤ (14841000 * p2 253) * (14841000 * p2 253) := by decide +kernel
    exact_mod_cast h4

theorem sum_set_ones (n j m : Nat) : (((List.replicate n 1).set j m).sum : Nat) ≤ n + m := by
  induction n generalizing j with
  | zero => simp
  | succ n ih =>
    rw [List.replicate_succ]
    cases j with
    | zero => simp [List.set_cons_zero]; omega
    | succ j => simp only [List.set_cons_succ, List.sum_cons]; have := ih j; omega

theorem DrawnSig.calm {xs : List Num} (h : DrawnSig xs) (hs : sigOk xs = true) : Calm xs := by
  obtain ⟨hl, hall⟩ := sigOk_parts hs
  refine ⟨hl, ?_⟩
  rcases h with h | ⟨ys, j, z, rfl, hz, hy⟩
  · omega
  · rw [List.length_set] at hl ⊢
    refine ⟨(List.replicate ys.length 1).set j 14841000, by simp, fun i hi => ?_, ?_⟩
    · by_cases e : j = i
      · subst e
        have hf : finN z = true := by
          have := List.all_eq_true.1 hall z (by
            rw [List.mem_iff_getElem]
            exact ⟨j, by simpa using hi, by simp⟩)
          exact this
        have e1 : (ys.set j z).getD j (0, 0) = z := by simp [List.getD, hi]
        have e2 : ((List.replicate ys.length 1).set j 14841000).getD j 0 = 14841000 := by simp [List.getD, hi]
        rw [e1, e2]
        exact nm_drawn hz hf
      · have e1 : (ys.set j z).getD i (0, 0) = ys[i] := by simp [List.getD, e, hi]
        have e2 : ((List.replicate ys.length 1).set j 14841000).getD i 0 = 1 := by simp [List.getD, e, hi]
        rw [e1, e2]
        exact nm_small (hy _ (List.getElem_mem hi))
    · have := sum_set_ones ys.length j 14841000
      omega

/-! SizeOk -/
def sizeOk (xs : List Num) : Bool := powB xs.length && sigOk xs

set_option maxHeartbeats 1000000 in
theorem SizeOk_any (A : Option Addr) (n cap : Nat) (xs : List Num) (w : World) (h : Sig w A n xs) :
    Calls Try.prog 108 #[.slice A n cap] w fun e w' => e = .returned (.bool (sizeOk xs)) ∧ ∃ d, w.drewN d = w' := by
  have hl := h.1
  have H := Lib.hid h
  unfold sizeOk
  rw [hl]
  clear h hl
  rcases Bool.eq_false_or_eq_true (powB n) with hp | hp
  · have HP := Lib.hid hp
    rw [hp, Bool.true_and]
    clear hp
    go_enter Try.func108, Try.ntmps108
    go_wp2_with fail
    refine (powerOfTwo_any _ _).mono ?_
    rw [HP.out]
    rintro e w' ⟨rfl, rfl⟩
    go_wp2_with fail
    refine (SignalOk_any _ _ _ _ _ H.out).mono ?_
    rintro e w' ⟨rfl, d, rfl⟩
    go_wp2_with fail
    go_ret
    exact ⟨rfl, _, rfl⟩
  · have HP := Lib.hid hp
    rw [hp, Bool.false_and]
    clear hp
    go_enter Try.func108, Try.ntmps108
    go_wp2_with fail
    refine (powerOfTwo_any _ _).mono ?_
    rw [HP.out]
    rintro e w' ⟨rfl, rfl⟩
    go_wp2_with fail
    go_ret
    exact ⟨rfl, 0, rfl⟩

theorem pow_tests {n : Nat} (h : powB n = true) : ((n : Int) == 1) = true ∨ (((n : Int) == 1) = false ∧ ((n : Int) == 2) = true) ∨ (((n : Int) == 1) = false ∧ ((n : Int) == 2) = false ∧ ((n : Int) == 4) = true) ∨
    (((n : Int) == 1) = false ∧ ((n : Int) == 2) = false ∧ ((n : Int) == 4) = false ∧ ((n : Int) == 8) = true) ∨ (((n : Int) == 1) = false ∧ ((n : Int) == 2) = false ∧ ((n : Int) == 4) = false ∧ ((n : Int) == 8) = false ∧ ((n : Int) == 16) = true) := by
  rcases pow_cases h with e | e | e | e | e <;> (obtain rfl : n = _ := Int.ofNat.inj (e.trans (by rfl : (_ : Int) = ((_ : Nat) : Int)))) <;> decide

set_option maxHeartbeats 4000000 in
theorem sSizeOk_any (A : Option Addr) (n cap : Nat) (xs : List Num) (w : World) (h : Sig w A n xs) :
    Calls Try.prog 76 #[.slice A n cap] w fun e w' => e = .returned (.bool (sizeOk xs)) ∧ ∃ d, w.drewN d = w' := by
  have hl := h.1
  have H := Lib.hid h
  unfold sizeOk
  rw [hl]
  clear h hl
  rcases Bool.eq_false_or_eq_true (sigOk xs) with hs | hs
  · have HS := Lib.hid hs
    rw [hs, Bool.and_true]
    clear hs
    rcases Bool.eq_false_or_eq_true (powB n) with hp | hp
    · have ht := pow_tests hp
      rw [hp]
      clear hp
      rcases ht with h1 | ⟨h1, h2⟩ | ⟨h1, h2, h3⟩ | ⟨h1, h2, h3, h4⟩ | ⟨h1, h2, h3, h4, h5⟩
      all_goals
        go_enter Try.func76, Try.ntmps76
        go_wp2_with fail
        refine (sSignalOk_any _ _ _ _ _ H.out).mono ?_
        rw [HS.out]
        rintro e w' ⟨rfl, d, rfl⟩
        go_wp2_with fail
        go_ret
        exact ⟨rfl, _, rfl⟩
    · obtain ⟨h1, h2, h3, h4, h5⟩ := pow_none hp
      rw [hp]
      clear hp
      go_enter Try.func76, Try.ntmps76
      go_wp2_with fail
      refine (sSignalOk_any _ _ _ _ _ H.out).mono ?_
      rw [HS.out]
      rintro e w' ⟨rfl, d, rfl⟩
      go_wp2_with fail
      go_ret
      exact ⟨rfl, _, rfl⟩
  · have HS := Lib.hid hs
    rw [hs, Bool.and_false]
    clear hs
    go_enter Try.func76, Try.ntmps76
    go_wp2_with fail
    refine (sSignalOk_any _ _ _ _ _ H.out).mono ?_
    rw [HS.out]
    rintro e w' ⟨rfl, d, rfl⟩
    go_wp2_with fail
    go_ret
    exact ⟨rfl, _, rfl⟩
end Go.Proofs.Ytcnlgoghnlcndaa
