/- Walks: the drawn numbers: l20Part, l20Num, l20Tiny. -/
import Derived.Test.YtcnlgoghnlcndaaW4
namespace Go.Proofs.Ytcnlgoghnlcndaa
open Go.RowKit Ieee

theorem RdAt.alloc {w : World} {R p : Nat} (h : RdAt w R p) (o : Obj) : RdAt (w.alloc o) R p :=
  h.keep fun k hk => Below.heap_alloc w o k (Nat.lt_of_le_of_lt hk h.lt)
theorem RdAt.drew {w : World} {R p : Nat} (h : RdAt w R p) : RdAt w.drew R p := h
theorem RdAt.drewN {w : World} {R p : Nat} (h : RdAt w R p) (n : Nat) : RdAt (w.drewN n) R p := h

theorem grown_trans {a b c : World} {r : Option Nat} (h : a.grownBy b r) (k : b.grownBy c r) : a.grownBy c r :=
  ⟨k.os.trans h.os, k.tape.trans h.tape, k.output.trans h.output, Nat.le_trans h.size k.size, fun i hi hn => (k.block i (Nat.lt_of_lt_of_le hi h.size) hn).trans (h.block i hi hn)⟩
theorem grown_alloc {a w : World} {row : Option Nat} (h : a.grownBy w row) (o : Obj) : a.grownBy (w.alloc o) row := grown_trans h (World.grownBy_alloc w o row)
theorem grown_drewN {a w : World} {row : Option Nat} (h : a.grownBy w row) (n : Nat) : a.grownBy (w.drewN n) row := ⟨h.os, h.tape, h.output, h.size, h.block⟩
theorem grown_drew {a w : World} {row : Option Nat} (h : a.grownBy w row) : a.grownBy w.drew row := ⟨h.os, h.tape, h.output, h.size, h.block⟩

/-- A cell of a block that was just laid, behind a pick. -/
theorem cell_new_grown {w w' : World} {R : Nat} (hR : R < w.heap.size) {cs : Array Value} {t : TypeId} (hg : (w.alloc (.cells cs t)).grownBy w' (some R)) (i : Nat) : w'.cell? ⟨w.heap.size, i, none⟩ = cs[i]? := by
  have hn : (w.alloc (.cells cs t)).heap[w.heap.size]? = some (.cells cs t (0, 0)) := heap_alloc_new w _
  have h1 : w'.heap[w.heap.size]? = some (.cells cs t (0, 0)) := (hg.block w.heap.size (by simp) (by simp; omega)).trans hn
  exact cell_of_row w' _ i cs t (0, 0) h1

set_option maxHeartbeats 1000000 in
theorem part_any (R p : Nat) (w : World) (h : RdAt w R p) (hp : p < 999000) :
    Calls Try.prog 123 #[.pointer (some ⟨R, 0, none⟩)] w fun e w' => ∃ n : Int, -10999 ≤ n ∧ n ≤ 10999 ∧ e = .returned (.int .i64 n) ∧ w.grownBy w' (some R) ∧ ∃ p', p' ≤ p + 2 ∧ RdAt w' R p' := by
  go_enter Try.func123, Try.ntmps123
  go_wp2_with fail
  refine (pick_any _ _ _ _ h (by omega) (by omega)).mono ?_
  rintro e w1 ⟨k, k1, k2, rfl, hg, hr⟩
  have hlt := hr.lt
  by_cases c0 : k = 0
  · subst c0
    go_wp2_with fail
    go_ret
    exact ⟨0, by omega, by omega, rfl, hg, p + 1, by omega, hr⟩
  · have b0 : (k == 0) = false := by simpa using c0
    by_cases c1 : k = 1
    · subst c1
      go_wp2_with fail
      refine (pick_any _ _ _ _ (hr.alloc _) (by omega) (by omega)).mono ?_
      rintro e w2 ⟨j, j1, j2, rfl, hg2, hr2⟩
      obtain ⟨v, v1, v2, hv⟩ : ∃ v : Int, -10999 ≤ v ∧ v ≤ 10999 ∧ w2.cell? ⟨w1.heap.size, j.toNat, none⟩ = some (.int .i64 v) := by
        have hc := cell_new_grown hlt hg2
        obtain ⟨j, rfl⟩ := Int.eq_ofNat_of_zero_le j1
        have : j = 0 ∨ j = 1 ∨ j = 2 ∨ j = 3 := by omega
        rcases this with rfl | rfl | rfl | rfl
        · exact ⟨1000, by omega, by omega, hc 0⟩
        · exact ⟨-1000, by omega, by omega, hc 1⟩
        · exact ⟨500, by omega, by omega, hc 2⟩
        · exact ⟨-250, by omega, by omega, hc 3⟩
      go_wp2_with fail
      go_ret
      exact ⟨v, v1, v2, rfl, grown_trans (grown_alloc hg _) hg2, p + 1 + 1, by omega, hr2⟩
    · have b1 : (k == 1) = false := by simpa using c1
      by_cases c2 : k = 2
      · subst c2
        go_wp2_with fail
        refine (pick_any _ _ _ _ hr (by omega) (by omega)).mono ?_
        rintro e w2 ⟨j, j1, j2, rfl, hg2, hr2⟩
        go_wp2_with fail
        go_ret
        exact ⟨(j - 10) * 1000, by omega, by omega, rfl, grown_trans hg hg2, p + 1 + 1, by omega, hr2⟩
      · have b2 : (k == 2) = false := by simpa using c2
        go_wp2_with fail
        refine (pick_any _ _ _ _ hr (by omega) (by omega)).mono ?_
        rintro e w2 ⟨j, j1, j2, rfl, hg2, hr2⟩
        go_wp2_with fail
        go_ret
        exact ⟨j * 40 - 5000, by omega, by omega, rfl, grown_trans hg hg2, p + 1 + 1, by omega, hr2⟩
end Go.Proofs.Ytcnlgoghnlcndaa
