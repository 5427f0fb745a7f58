/- Walk: DrawRingsFor. -/
import Derived.Test.YtcnlgoghnlcndaaW7
namespace Go.Proofs.Ytcnlgoghnlcndaa
open Go.RowKit Ieee

def rf (k j : Int) : Int := if j = 0 then 0 else if j = 1 then 500 else if j = 2 then -500 else if j = 3 then 250 else if j = 4 then 100 else if j = 5 then 750 else if j = 6 then 900 else if j = 7 then 1000 else if j = 8 then -1000 else k
def rfCells (k : Int) : Array Value := #[.int .i64 0, .int .i64 500, .int .i64 (-500), .int .i64 250, .int .i64 100, .int .i64 750, .int .i64 900, .int .i64 1000, .int .i64 (-1000), .int .i64 k]

theorem rf_all (W : World) (k : Int) : AllC (W.alloc (Obj.cells #[.int .i64 0, .int .i64 500, .int .i64 (-500), .int .i64 250, .int .i64 100, .int .i64 750, .int .i64 900, .int .i64 1000, .int .i64 (-1000), .int .i64 k] 3)) W.heap.size (fun j => .int .i64 (rf k j)) 10 := by
  intro j h1 h2
  obtain ⟨j, rfl⟩ := Int.eq_ofNat_of_zero_le h1
  show (W.alloc (Obj.cells (rfCells k) 3)).cell? ⟨W.heap.size, j, none⟩ = _
  rw [cell_of_row _ W.heap.size j (rfCells k) 3 (0, 0) (heap_alloc_new W _)]
  have : j = 0 ∨ j = 1 ∨ j = 2 ∨ j = 3 ∨ j = 4 ∨ j = 5 ∨ j = 6 ∨ j = 7 ∨ j = 8 ∨ j = 9 := by omega
  rcases this with rfl | rfl | rfl | rfl | rfl | rfl | rfl | rfl | rfl | rfl <;> rfl

theorem rf_at (W : World) : ∀ k j : Int, 0 ≤ j → j < 10 → (W.alloc (Obj.cells #[.int .i64 0, .int .i64 500, .int .i64 (-500), .int .i64 250, .int .i64 100, .int .i64 750, .int .i64 900, .int .i64 1000, .int .i64 (-1000), .int .i64 k] 3)).cell? ⟨W.heap.size, j.toNat, none⟩ = some (.int .i64 (rf k j)) := fun k => (rf_all W k).out
theorem rf_grown {W w' : World} {k : Int} {R : Nat} (hg : (W.alloc (Obj.cells #[.int .i64 0, .int .i64 500, .int .i64 (-500), .int .i64 250, .int .i64 100, .int .i64 750, .int .i64 900, .int .i64 1000, .int .i64 (-1000), .int .i64 k] 3)).grownBy w' (some R)) (hne : R < W.heap.size) : AllC w' W.heap.size (fun j => .int .i64 (rf k j)) 10 := AllC.grown (rf_all W k) hg (by omega)

set_option maxHeartbeats 4000000 in
theorem DrawRingsFor_any (A : Option Addr) (n cap : Nat) (w : World) (h : Code w A n cap) :
    Calls Try.prog 22 #[.slice A n cap] w fun e w' => ∃ (m : Int) (fl : Bool), e = .returned (.tuple #[.int .i64 m, .bool fl]) ∧ Below w.heap.size w w' := by
  go_enter Try.func22, Try.ntmps22
  go_wp2_with fail
  refine (open_any _ _ _ _ h).mono ?_
  rintro e w1 ⟨rfl, hb1, hr1⟩
  go_wp2_with fail
  have hr1' := hr1.drew
  have hlt := hr1.lt
  have hlt2 : w.heap.size < w1.drew.heap.size := hlt
  have hb1' : Below w.heap.size w w1.drew := ⟨hb1.os, hb1.tape, hb1.output, hb1.size, hb1.block⟩
  go_region_with ((go_at_call 89; refine (pick_any _ _ _ _ (by first | assumption | exact RdAt.alloc (by assumption) _) (by omega) (by omega)).mono ?_; rintro e w' ⟨j, j1, j2, rfl, hg, hr⟩; have hlt' := hr.lt; have hc := rf_at w'; first | (have ha := rf_grown hg (by omega); have hc' := ha.out) | (have ha' := AllC.grown (by assumption) hg (by omega); have hc'' := ha'.out) | skip))
  all_goals
    try clear hc
    try clear hc''
    try clear hc'
    go_wp2_with fail
    go_ret2
    refine ⟨_, _, rfl, ?_⟩
    repeat (first | exact hb1' | refine Below.alloc ?_ (by first | omega | (simp; omega)) _ | refine Below.grow ?_ (by assumption) (by first | omega | (simp; omega)) (Nat.le_refl _))
end Go.Proofs.Ytcnlgoghnlcndaa
