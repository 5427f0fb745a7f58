/- Walk: DrawWindowOf. -/
import Derived.Test.YtcnlgoghnlcndaaWs
namespace Go.Proofs.Ytcnlgoghnlcndaa
open Go.RowKit Ieee

def wpF (j : Int) : Int := if j = 0 then 2 else if j = 1 then 4 else if j = 2 then 8 else if j = 3 then 16 else if j = 4 then 16 else if j = 5 then 3 else 0
def wpCells : Array Value := #[.int .i64 2, .int .i64 4, .int .i64 8, .int .i64 16, .int .i64 16, .int .i64 3, .int .i64 0]
theorem wp_all (W : World) : AllC (W.alloc (Obj.cells #[.int .i64 2, .int .i64 4, .int .i64 8, .int .i64 16, .int .i64 16, .int .i64 3, .int .i64 0] 3)) W.heap.size (fun j => .int .i64 (wpF j)) 7 := by
  intro j h1 h2
  obtain ⟨j, rfl⟩ := Int.eq_ofNat_of_zero_le h1
  show (W.alloc (Obj.cells wpCells 3)).cell? ⟨W.heap.size, j, none⟩ = _
  rw [cell_of_row _ W.heap.size j wpCells 3 (0, 0) (heap_alloc_new W _)]
  have : j = 0 ∨ j = 1 ∨ j = 2 ∨ j = 3 ∨ j = 4 ∨ j = 5 ∨ j = 6 := by omega
  rcases this with rfl | rfl | rfl | rfl | rfl | rfl | rfl <;> rfl
theorem wp_at (W : World) : ∀ j : Int, 0 ≤ j → j < 7 → (W.alloc (Obj.cells #[.int .i64 2, .int .i64 4, .int .i64 8, .int .i64 16, .int .i64 16, .int .i64 3, .int .i64 0] 3)).cell? ⟨W.heap.size, j.toNat, none⟩ = some (.int .i64 (wpF j)) := (wp_all W).out
theorem wp_grown {W w' : World} {R : Nat} (hg : (W.alloc (Obj.cells #[.int .i64 2, .int .i64 4, .int .i64 8, .int .i64 16, .int .i64 16, .int .i64 3, .int .i64 0] 3)).grownBy w' (some R)) (hne : R < W.heap.size) : AllC w' W.heap.size (fun j => .int .i64 (wpF j)) 7 := AllC.grown (wp_all W) hg (by omega)

theorem gdrew {a w' : World} {r : Option Nat} (h : a.drew.grownBy w' r) : a.grownBy w' r := ⟨h.os, h.tape, h.output, h.size, h.block⟩
set_option maxHeartbeats 8000000 in
theorem DrawWindowOf_any (A : Option Addr) (n cap : Nat) (w : World) (h : Code w A n cap) :
    Calls Try.prog 35 #[.slice A n cap] w fun e w' => ∃ (m k : Int), e = .returned (.tuple #[.int .i64 m, .int .i64 k]) ∧ Below w.heap.size w w' := by
  go_enter Try.func35, Try.ntmps35
  go_wp2_with fail
  refine (open_any _ _ _ _ h).mono ?_
  rintro e w1 ⟨rfl, hb1, hr1⟩
  go_wp2_with fail
  have hr1' := hr1.drew
  have hlt := hr1.lt
  have hlt2 : w.heap.size < w1.drew.heap.size := hlt
  have hb1' : Below w.heap.size w w1.drew := ⟨hb1.os, hb1.tape, hb1.output, hb1.size, hb1.block⟩
  have hc0 := wp_at w1
  go_region_with ((go_at_call 89; refine (pick_any _ _ _ _ (by first | assumption | exact RdAt.alloc (by assumption) _ | exact RdAt.drew (RdAt.alloc (by assumption) _)) (by omega) (by omega)).mono ?_; rintro e w' ⟨j, j1, j2, rfl, hg, hr⟩; have hlt' := hr.lt; have hc := wp_at w'; first | (have ha := wp_grown hg (by omega); have hc' := ha.out) | (have ha := wp_grown (gdrew hg) (by omega); have hc' := ha.out) | (have ha' := AllC.grown (by assumption) hg (by omega); have hc'' := ha'.out) | skip))
  all_goals
    clear hc0
    try clear hc
    try clear hc''
    try clear hc'
    go_wp2_with fail
    go_ret2
    refine ⟨_, _, rfl, ?_⟩
    repeat (first | exact hb1' | exact hb1 | refine Below.drew ?_ | refine Below.alloc ?_ (by first | omega | (simp; omega)) _ | refine Below.grow ?_ (by assumption) (by first | omega | (simp; omega)) (Nat.le_refl _))
end Go.Proofs.Ytcnlgoghnlcndaa
