/- Walk: DrawPieceOf. -/
import Derived.Test.YtcnlgoghnlcndaaSg
import Derived.Test.YtcnlgoghnlcndaaLWd
namespace Go.Proofs.Ytcnlgoghnlcndaa
open Go.RowKit Ieee

def ppF (j : Int) : Int := if j = 0 then 2 else if j = 1 then 4 else if j = 2 then 8 else if j = 3 then 16 else 5
def ppCells : Array Value := #[.int .i64 2, .int .i64 4, .int .i64 8, .int .i64 16, .int .i64 5]
theorem pp_all (W : World) : AllC (W.alloc (Obj.cells #[.int .i64 2, .int .i64 4, .int .i64 8, .int .i64 16, .int .i64 5] 3)) W.heap.size (fun j => .int .i64 (ppF j)) 5 := by
  intro j h1 h2
  obtain ⟨j, rfl⟩ := Int.eq_ofNat_of_zero_le h1
  show (W.alloc (Obj.cells ppCells 3)).cell? ⟨W.heap.size, j, none⟩ = _
  rw [cell_of_row _ W.heap.size j ppCells 3 (0, 0) (heap_alloc_new W _)]
  have : j = 0 ∨ j = 1 ∨ j = 2 ∨ j = 3 ∨ j = 4 := by omega
  rcases this with rfl | rfl | rfl | rfl | rfl <;> rfl
theorem pp_at (W : World) : ∀ j : Int, 0 ≤ j → j < 5 → (W.alloc (Obj.cells #[.int .i64 2, .int .i64 4, .int .i64 8, .int .i64 16, .int .i64 5] 3)).cell? ⟨W.heap.size, j.toNat, none⟩ = some (.int .i64 (ppF j)) := (pp_all W).out
theorem pp_grown {W w' : World} {R : Nat} (hg : (W.alloc (Obj.cells #[.int .i64 2, .int .i64 4, .int .i64 8, .int .i64 16, .int .i64 5] 3)).grownBy w' (some R)) (hne : R < W.heap.size) : AllC w' W.heap.size (fun j => .int .i64 (ppF j)) 5 := AllC.grown (pp_all W) hg (by omega)
theorem own_drew {w : World} {base e s n : Nat} {v : Value} {xs : List Value} (h : w.ownsRow base e s v n xs) : w.drew.ownsRow base e s v n xs := h

/-- A drawn signal, and two numbers. -/
def Draw3 (w : World) (lo hi : List Num → Int) (e : Ending) (w' : World) : Prop :=
  ∃ B c xs m k, e = .returned (.tuple #[.slice B (List.length xs) c, .int .i64 m, .int .i64 k]) ∧ lo xs ≤ m ∧ m ≤ hi xs ∧ DrawnSig xs ∧ xs.length ≤ c ∧ c ≤ maxLen ∧ Sig w' B xs.length xs ∧ Below w.heap.size w w'

theorem Draw3.mk {w w' : World} {lo hi : List Num → Int} {B : Option Addr} {c base : Nat} {xs : List Num} {m k : Int} (h1 : lo xs ≤ m) (h2 : m ≤ hi xs) (h3 : DrawnSig xs) (h4 : xs.length ≤ 41) (h5 : xs.length ≤ c) (h6 : c ≤ maxLen)
    (ho : w'.ownsRow base 34 1 (.slice B xs.length c) xs.length (xs.map C)) (hb : Below w.heap.size w w') : Draw3 w lo hi (.returned (.tuple #[.slice B (List.length xs) c, .int .i64 m, .int .i64 k])) w' := by
  obtain ⟨B', c', hv, _, _, hsig⟩ := own_form (T := C) (0, 0) ho (by omega)
  cases hv
  exact ⟨B, c, xs, m, k, rfl, h1, h2, h3, h5, h6, Sig.rw hsig, hb⟩

theorem wrap_bd {j i : Int} {N : Nat} (h1 : 0 ≤ j) (h2 : j ≤ N) (h3 : 0 ≤ i) (h4 : i < 20) (h5 : N ≤ 100) :
    -1 ≤ IntKind.i64.wrap (j - IntKind.i64.wrap (i.tdiv 19)) ∧ IntKind.i64.wrap (j - IntKind.i64.wrap (i.tdiv 19)) ≤ N := by
  rw [Int.tdiv_eq_ediv_of_nonneg h3, IntWalk.i64_in (i / 19) (by omega), IntWalk.i64_in _ (by omega)]
  omega
theorem pick_wrap (R p N : Nat) (w : World) (h : RdAt w R p) (hp : p < 1000000) (hN : N ≤ 100) :
    Calls Try.prog 89 #[.pointer (some ⟨R, 0, none⟩), .int .i64 (IntKind.i64.wrap ((N : Int) + 1))] w fun e w' => ∃ k : Int, 0 ≤ k ∧ k ≤ N ∧ e = .returned (.int .i64 k) ∧ w.grownBy w' (some R) ∧ RdAt w' R (p + 1) := by
  rw [IntWalk.i64_in _ (by omega)]
  exact (pick_any R p _ w h hp (by omega)).mono fun e w' ⟨k, a, b, c⟩ => ⟨k, a, by omega, c⟩

set_option maxHeartbeats 8000000 in
theorem DrawPieceOf_any (A : Option Addr) (n cap : Nat) (w : World) (h : Code w A n cap) :
    Calls Try.prog 47 #[.slice A n cap] w (Draw3 w (fun _ => -1) (fun xs => xs.length)) := by
  go_enter Try.func47, Try.ntmps47
  go_wp2_with fail
  refine (open_any _ _ _ _ h).mono ?_
  rintro e w1 ⟨rfl, hb1, hr1⟩
  go_wp2_with fail
  refine (points_any _ _ _ hr1 (by omega)).mono ?_
  rintro e w2 ⟨k, k1, rfl, hg2, hr2⟩
  have hb2 := Below.grow hb1 hg2 hb1.size (Nat.le_refl _)
  go_wp2_with fail
  refine (signal_any _ _ _ _ _ hr2 (by omega) (by omega) (.inr (by omega))).mono ?_
  intro e w3 hs
  obtain ⟨v, xs, rfl, hq, ho, hl, hg3, p', hp', hr3⟩ := hs
  obtain ⟨B, c, rfl, hc, hcm, hsig0⟩ := own_form (T := C) (0, 0) ho (by omega)
  have hb3 := Below.grow hb2 hg3 hb2.size (Nat.le_refl _)
  have hbase : w.heap.size < w2.heap.size := hr2.lt
  have hlt := hr3.lt
  have hcm' := hcm
  unfold maxLen at hcm'
  have HQ := Lib.hid hq.1
  have HO := Lib.hid ho
  clear hq hsig0 ho hg2 hg3 hr1 hr2 hb1 hb2
  generalize hN : xs.length = N at *
  have HN := Lib.hid hN
  clear hN
  go_wp2_with fail
  have hr3' := hr3.drew
  have hlt2 : w.heap.size < w3.drew.heap.size := hlt
  have hb3' : Below w.heap.size w w3.drew := ⟨hb3.os, hb3.tape, hb3.output, hb3.size, hb3.block⟩
  have hc0 := pp_at w3
  go_region_with ((go_at_call 89; (first | (with_reducible refine (pick_wrap _ _ N _ (by first | assumption | exact RdAt.alloc (by assumption) _ | exact RdAt.drew (RdAt.alloc (by assumption) _)) (by omega) (by omega)).mono ?_) | (with_reducible refine (pick_any _ _ _ _ (by first | assumption | exact RdAt.alloc (by assumption) _ | exact RdAt.drew (RdAt.alloc (by assumption) _)) (by omega) (by omega)).mono ?_)); rintro e w' ⟨j, j1, j2, rfl, hg, hr⟩; have hlt' := hr.lt; have hc := pp_at w'; first | (have ha := pp_grown hg (by omega); have hc' := ha.out) | (have ha := pp_grown (gdrew hg) (by omega); have hc' := ha.out) | (have ha' := AllC.grown (by assumption) hg (by omega); have hc'' := ha'.out) | skip))
  all_goals
    clear hc0
    try clear hc
    try clear hc''
    try clear hc'
    go_wp2_with fail
    go_ret3
    have HN' := HN.out
    subst HN'
    have hl100 : xs.length ≤ 100 := Nat.le_trans hl (by decide)
    refine Draw3.mk (base := w2.heap.size) ?_ ?_ HQ.out hl hc hcm ?_ ?_
    · exact (wrap_bd (by assumption) (by assumption) (by assumption) (by assumption) hl100).1
    · exact (wrap_bd (by assumption) (by assumption) (by assumption) (by assumption) hl100).2
    · repeat (first | with_reducible exact HO.out | with_reducible refine own_drew ?_ | with_reducible refine World.ownsRow.alloc ?_ _ | with_reducible refine own_pick ?_ (by assumption) hbase)
    · repeat (first | exact hb3' | exact hb3 | refine Below.drew ?_ | refine Below.alloc ?_ (by first | omega | (simp; omega)) _ | refine Below.grow ?_ (by assumption) (by first | omega | (simp; omega)) (Nat.le_refl _))
end Go.Proofs.Ytcnlgoghnlcndaa
