/- The walk of the law FnRingsFor: true at every code. -/
import Derived.Test.YtcnlgoghnlcndaaW11
import Derived.Test.YtcnlgoghnlcndaaLRd
import Derived.Test.YtcnlgoghnlcndaaLTapsOk
namespace Go.Proofs.Ytcnlgoghnlcndaa
open Go.RowKit Ieee

theorem rings_neg {m : Int} {fl : Bool} (h : rings m fl < 0) : rings m fl = -1 := by
  unfold rings at h ⊢
  split
  · rfl
  · rename_i hn; rw [if_neg hn] at h; omega

set_option maxRecDepth 100000 in
set_option maxHeartbeats 2000000 in
theorem FnRingsFor_walk (A : Option Addr) (n cap : Nat) (w : World) (h : Code w A n cap) :
    Calls Try.prog 4 #[.slice A n cap] w fun e w' => e = .returned (.bool true) ∧ Below w.heap.size w w' := by
  have hm := h.2.1
  unfold maxLen at hm
  rcases Nat.lt_or_ge 1048576 n with hn | hn
  · go_enter Try.func4, Try.ntmps4
    go_wp2_with fail
    go_ret
    exact ⟨rfl, Below.refl _ _⟩
  have H := Lib.hid h
  clear h
  go_enter Try.func4, Try.ntmps4
  go_wp2_with fail
  refine (DrawRingsFor_any _ _ _ _ H.out).mono ?_
  rintro e w1 ⟨m, fl, rfl, hb⟩
  go_wp2_with fail
  refine (RingsFor_any _ _ _).mono ?_
  rintro e w' ⟨rfl, d1, rfl⟩
  have hneg := @rings_neg m fl
  have hle := rings_le m
  have H500 := Lib.hid rings_500
  have H5m := Lib.hid rings_m500
  have H0 := Lib.hid rings_0
  generalize hR : rings m fl = T at *
  go_wp2_with fail
  refine (sRingsFor_any _ _ _).mono ?_
  rw [hR]
  rintro e w' ⟨rfl, d2, rfl⟩
  by_cases ht : T < 0
  · obtain rfl := hneg ht
    clear hR hle
    go_wp2_with fail
    refine (alive_any _).mono ?_
    rintro e w' ⟨rfl, rfl⟩
    go_wp2_with fail
    go_ret
    refine ⟨rfl, ?_⟩
    repeat (first | exact hb | refine below_drewN ?_ _ | exact below_drewN hb _)
  · go_wp2_with fail
    refine (RingsFor_any _ _ _).mono ?_
    rintro e w' ⟨rfl, d3, rfl⟩
    go_wp2_with fail
    refine (RingsFor_any _ _ _).mono ?_
    rintro e w' ⟨rfl, d4, rfl⟩
    go_wp2_with fail
    refine (RingsFor_any _ _ _).mono ?_
    rw [H500.out]
    rintro e w' ⟨rfl, d5, rfl⟩
    go_wp2_with fail
    refine (RingsFor_any _ _ _).mono ?_
    rw [H5m.out]
    rintro e w' ⟨rfl, d6, rfl⟩
    go_wp2_with fail
    refine (RingsFor_any _ _ _).mono ?_
    rw [H0.out]
    rintro e w' ⟨rfl, d7, rfl⟩
    go_wp2_with fail
    go_ret
    refine ⟨rfl, ?_⟩
    repeat (first | exact hb | refine below_drewN ?_ _ | exact below_drewN hb _)
end Go.Proofs.Ytcnlgoghnlcndaa
