/- The walk of the law FnFlushed: true at every code. -/
import Derived.Test.YtcnlgoghnlcndaaW7
namespace Go.Proofs.Ytcnlgoghnlcndaa
open Go.RowKit Ieee

theorem flP_flP (a : Nat) : flP (flP a) = flP a := by
  unfold flP
  rcases Bool.eq_false_or_eq_true (lowB a) with h | h
  · rw [h]; simp
  · rw [h]; simp [h]
theorem order_refl {a : Nat} (h : fin single a = true) : (FloatKind.f32.format.order a a == some .eq) = true := by
  show (single.order a a == _) = _
  rw [cmp_eq single h h]; simp
theorem flP_eq {a : Nat} (h : fin single a = true) : (FloatKind.f32.format.order (flP a) a == some .eq) = !(!isZ a && lowB a) := by
  rw [← eq_flP h]
  show (single.order (flP a) a == _) = (single.order a (flP a) == _)
  rw [cmp_eq single h (flP_fin h), cmp_eq single (flP_fin h) h]
  simp only [eq_comm]
theorem sub_flP (a : Nat) : (!isZ (flP a) && lowB (flP a)) = false := by
  unfold flP
  rcases Bool.eq_false_or_eq_true (lowB a) with h | h
  · rw [h]; simp only [if_true]; decide +kernel
  · rw [h]; simp [h]

set_option maxHeartbeats 1000000 in
theorem law_long (A : Option Addr) (n cap : Nat) (w : World) (hn : 1048576 < n) (hm : n ≤ maxLen) :
    Calls Try.prog 9 #[.slice A n cap] w fun e w' => e = .returned (.bool true) ∧ Below w.heap.size w w' := by
  unfold maxLen at hm
  go_enter Try.func9, Try.ntmps9
  go_wp2_with fail
  go_ret
  exact ⟨rfl, Below.refl _ _⟩

set_option maxHeartbeats 2000000 in
theorem FnFlushed_walk (A : Option Addr) (n cap : Nat) (w : World) (h : Code w A n cap) :
    Calls Try.prog 9 #[.slice A n cap] w fun e w' => e = .returned (.bool true) ∧ Below w.heap.size w w' := by
  rcases Nat.lt_or_ge 1048576 n with hn | hn
  · exact law_long A n cap w hn h.2.1
  have hm := h.2.1
  unfold maxLen at hm
  go_enter Try.func9, Try.ntmps9
  go_wp2_with fail
  refine (DrawFlushed_any _ _ _ _ h).mono ?_
  rintro e w1 ⟨a, b, hd, rfl, hb⟩
  clear hd
  rcases Bool.eq_false_or_eq_true (finC a b) with hf | hf
  · obtain ⟨ha, hb'⟩ := finC_parts hf
    have q1 := Lib.hid (flP_eq ha)
    have q2 := Lib.hid (flP_eq hb')
    have s1 := order_refl (flP_fin ha)
    have s2 := order_refl (flP_fin hb')
    have f1 := Lib.hid (flP_flP a)
    have f2 := Lib.hid (flP_flP b)
    have HA := Lib.hid ha
    have HB := Lib.hid hb'
    clear ha hb' hf
    go_wp2_with fail
    refine (Flushed_yes _ _ _ HA.out HB.out).mono ?_
    rintro e w' ⟨rfl, n1, rfl⟩
    go_wp2_with fail
    refine (sFlushed_yes _ _ _ HA.out HB.out).mono ?_
    rintro e w' ⟨rfl, rfl⟩
    go_wp2_with fail
    refine (sameBits_eq _ _ _ _ _ (flP_fin HA.out) (flP_fin HB.out) (flP_fin HA.out) (flP_fin HB.out) rfl rfl).mono ?_
    rintro e w' ⟨rfl, rfl⟩
    go_wp2_with fail
    refine (sfinite_yes _ _ _ HA.out HB.out).mono ?_
    rintro e w' ⟨rfl, rfl⟩
    go_wp2_with fail
    refine (Flushed_yes _ _ _ (flP_fin HA.out) (flP_fin HB.out)).mono ?_
    rw [f1.out, f2.out]
    rintro e w' ⟨rfl, n2, rfl⟩
    go_wp2_with fail
    refine (Subnormal_yes _ _ _ (flP_fin HA.out) (flP_fin HB.out)).mono ?_
    rw [sub_flP, sub_flP]
    rintro e w' ⟨rfl, rfl⟩
    go_wp2_with fail
    refine (Subnormal_yes _ _ _ HA.out HB.out).mono ?_
    rintro e w' ⟨rfl, rfl⟩
    go_wp2_with fail
    go_ret
    refine ⟨ret_bool ?_, ?_⟩
    · rw [q1.out, q2.out]
      generalize isZ a = c1
      generalize isZ b = c2
      generalize lowB a = c3
      generalize lowB b = c4
      cases c1 <;> cases c2 <;> cases c3 <;> cases c4 <;> rfl
    · exact ⟨hb.os, hb.tape, hb.output, hb.size, hb.block⟩
  · have s1 := order_refl fin_zero
    go_wp2_with fail
    refine (Flushed_no _ _ _ hf).mono ?_
    rintro e w' ⟨rfl, n1, rfl⟩
    go_wp2_with fail
    refine (sFlushed_no _ _ _ hf).mono ?_
    rintro e w' ⟨rfl, n2, rfl⟩
    go_wp2_with fail
    refine (sameBits_eq _ _ _ _ _ fin_zero fin_zero fin_zero fin_zero rfl rfl).mono ?_
    rintro e w' ⟨rfl, rfl⟩
    go_wp2_with fail
    refine (sFinite_any _ _ _).mono ?_
    rw [hf]
    rintro e w' ⟨rfl, n3, rfl⟩
    go_wp2_with fail
    refine (alive_any _).mono ?_
    rintro e w' ⟨rfl, rfl⟩
    go_wp2_with fail
    go_ret
    exact ⟨rfl, hb.os, hb.tape, hb.output, hb.size, hb.block⟩
end Go.Proofs.Ytcnlgoghnlcndaa
