/- Walks: drawn signals with numbers; WithNoughts (impl and spec). -/
import Derived.Test.YtcnlgoghnlcndaaWn
import Derived.Test.YtcnlgoghnlcndaaLTapsOk
namespace Go.Proofs.Ytcnlgoghnlcndaa
open Go.RowKit Ieee

def ptF (j : Int) : Nat := if j = 0 then 0 else if j = 1 then 1 else if j = 2 then 2 else if j = 3 then 4 else if j = 4 then 4 else if j = 5 then 8 else if j = 6 then 16 else if j = 7 then 3 else 5
theorem ptF_le (j : Int) : ptF j ≤ 16 := by unfold ptF; repeat' split
                                            all_goals omega

set_option maxHeartbeats 1000000 in
theorem points_any (R p : Nat) (w : World) (h : RdAt w R p) (hp : p < 900000) :
    Calls Try.prog 101 #[.pointer (some ⟨R, 0, none⟩)] w fun e w' => ∃ n : Nat, n ≤ 16 ∧ e = .returned (.int .i64 n) ∧ w.grownBy w' (some R) ∧ RdAt w' R (p + 1) := by
  have hlt := h.lt
  go_enter Try.func101, Try.ntmps101
  go_wp2_with fail
  refine (pick_any _ _ _ _ (h.alloc _) (by omega) (by omega)).mono ?_
  rintro e w2 ⟨j, j1, j2, rfl, hg2, hr2⟩
  obtain ⟨v, v2, hv⟩ : ∃ v : Nat, v ≤ 16 ∧ w2.cell? ⟨w.heap.size, j.toNat, none⟩ = some (.int .i64 v) := by
    have hc := cell_new_grown hlt hg2
    obtain ⟨j, rfl⟩ := Int.eq_ofNat_of_zero_le j1
    have : j = 0 ∨ j = 1 ∨ j = 2 ∨ j = 3 ∨ j = 4 ∨ j = 5 ∨ j = 6 ∨ j = 7 ∨ j = 8 := by omega
    rcases this with rfl | rfl | rfl | rfl | rfl | rfl | rfl | rfl | rfl
    · exact ⟨0, by omega, hc 0⟩
    · exact ⟨1, by omega, hc 1⟩
    · exact ⟨2, by omega, hc 2⟩
    · exact ⟨4, by omega, hc 3⟩
    · exact ⟨4, by omega, hc 4⟩
    · exact ⟨8, by omega, hc 5⟩
    · exact ⟨16, by omega, hc 6⟩
    · exact ⟨3, by omega, hc 7⟩
    · exact ⟨5, by omega, hc 8⟩
  go_wp2_with fail
  go_ret
  exact ⟨v, v2, rfl, grown_trans (World.grownBy_alloc w _ _) hg2, hr2⟩

set_option maxHeartbeats 2000000 in
theorem DrawWithNoughts_any (A : Option Addr) (n cap : Nat) (w : World) (h : Code w A n cap) :
    Calls Try.prog 42 #[.slice A n cap] w fun e w' => ∃ B c xs m, e = .returned (.tuple #[.slice B (List.length xs) c, .int .i64 m]) ∧ -10 ≤ m ∧ m ≤ 100 ∧ DrawnSig xs ∧ xs.length ≤ c ∧ c ≤ maxLen ∧ Sig w' B xs.length xs ∧ Below w.heap.size w w' := by
  go_enter Try.func42, Try.ntmps42
  go_wp2_with fail
  refine (open_any _ _ _ _ h).mono ?_
  rintro e w1 ⟨rfl, hb1, hr1⟩
  go_wp2_with fail
  refine (points_any _ _ _ hr1 (by omega)).mono ?_
  rintro e w2 ⟨k, k1, rfl, hg2, hr2⟩
  have hb2 := Below.grow hb1 hg2 hb1.size (Nat.le_refl _)
  go_wp2_with fail
  refine (signal_any _ _ _ _ _ hr2 (by omega) (by omega) (.inr (by omega))).mono ?_
  intro e w3 hs
  obtain ⟨v, xs, rfl, hq, ho, hl, hg3, p', hp', hr3⟩ := hs
  obtain ⟨B, c, rfl, hc, hcm, hsig0⟩ := own_form (T := C) (0, 0) ho (by omega)
  have hb3 := Below.grow hb2 hg3 hb2.size (Nat.le_refl _)
  have hbase : w.heap.size < w2.heap.size := hr2.lt
  unfold maxLen at hcm
  go_wp2_with fail
  refine (pick_any _ _ _ _ hr3 (by omega) (by omega)).mono ?_
  rintro e w4 ⟨j, j1, j2, rfl, hg4, hr4⟩
  have ho4 := own_pick ho hg4 hbase
  have hb4 := Below.grow hb3 hg4 hb3.size (Nat.le_refl _)
  go_wp2_with fail
  refine (pick_any _ _ _ _ hr4 (by omega) (by omega)).mono ?_
  rintro e w5 ⟨i, i1, i2, rfl, hg5, hr5⟩
  have ho5 := own_pick ho4 hg5 hbase
  have hb5 := Below.grow hb4 hg5 hb4.size (Nat.le_refl _)
  obtain ⟨B', c', hv, _, _, hsig⟩ := own_form (T := C) (0, 0) ho5 (by omega)
  cases hv
  have HQ := Lib.hid hq.1
  have HS := Lib.hid hsig
  clear hq hsig ho ho4 ho5 hsig0 hg2 hg3 hg4 hg5 hr1 hr2 hr3 hr4 hr5 hb1 hb2 hb3 hb4
  go_wp2_with fail
  go_ret2
  refine ⟨B, c, xs, _, rfl, ?_, ?_, HQ.out, hc, by unfold maxLen; omega, Sig.rw HS.out, hb5⟩
  · omega
  · omega
end Go.Proofs.Ytcnlgoghnlcndaa
