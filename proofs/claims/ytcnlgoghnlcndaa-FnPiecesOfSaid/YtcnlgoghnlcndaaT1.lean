/- Walks: remainder, powerOfTwo, pieceSize, the table of turns (impl and spec). -/
import Derived.Test.YtcnlgoghnlcndaaW9
namespace Go.Proofs.Ytcnlgoghnlcndaa
open Go.RowKit Ieee

theorem ret_i {k : IntKind} {a b : Int} (h : a = b) : Ending.returned (.int k a) = .returned (.int k b) := by rw [h]
set_option maxHeartbeats 400000 in
theorem remainder_any (k n : Int) (w : World) (h1 : -100000 ≤ k) (h2 : k ≤ 100000) (hn : 1 ≤ n) (hn2 : n ≤ 100000) :
    Calls Try.prog 102 #[.int .i64 k, .int .i64 n] w fun e w' => e = .returned (.int .i64 (k % n)) ∧ w = w' := by
  have t1 : k.tmod n = if 0 ≤ k then k % n else -((-k) % n) := by
    split
    · rw [Int.tmod_eq_emod_of_nonneg (by assumption)]
    · have : k.tmod n = -((-k).tmod n) := by rw [Int.neg_tmod, Int.neg_neg]
      rw [this, Int.tmod_eq_emod_of_nonneg (by omega)]
  have b1 := Int.emod_nonneg k (show n ≠ 0 by omega)
  have b2 := Int.emod_lt_of_pos k (show 0 < n by omega)
  by_cases h0 : 0 ≤ k
  · rw [if_pos h0] at t1
    have HN : Hid (k.tmod n = k % n) := t1
    clear t1
    go_enter Try.func102, Try.ntmps102
    go_wp2_with fail
    go_ret
    exact ⟨rfl, rfl⟩
  · rw [if_neg h0] at t1
    have b3 := Int.emod_nonneg (-k) (show n ≠ 0 by omega)
    have b4 := Int.emod_lt_of_pos (-k) (show 0 < n by omega)
    by_cases hz : (-k) % n = 0
    · have e : k % n = 0 := by
        have := Int.emod_add_mul_ediv (-k) n
        rw [hz, Int.zero_add] at this
        have e2 : k = n * (-(-k / n)) := by rw [Int.mul_neg, this, Int.neg_neg]
        rw [e2, Int.mul_emod_right]
      rw [hz] at t1
      rw [e]
      have t2 : k.tmod n = 0 := t1
      clear t1 hz e b1 b2 b3 b4
      have hx : ¬ (0 ≤ k) := h0
      go_enter Try.func102, Try.ntmps102
      go_wp2_with fail
      go_ret
      exact ⟨rfl, rfl⟩
    · have e : k % n = n - (-k) % n := by
        have := Int.emod_add_mul_ediv (-k) n
        have e2 : k = (n - (-k) % n) + n * (-(-k / n) - 1) := by rw [Int.mul_sub, Int.mul_neg, Int.mul_one]; omega
        conv => lhs; rw [e2]
        rw [Int.add_mul_emod_self_left]
        exact Int.emod_eq_of_lt (by omega) (by omega)
      rw [e]
      generalize (-k) % n = r at *
      clear e b1 b2
      go_enter Try.func102, Try.ntmps102
      go_wp2_with fail
      go_ret
      exact ⟨ret_i (by omega), rfl⟩

/-! The table of turns. -/
def turnT : List (Nat × Nat) := [(1065353216, 0), (1064076126, 1053028117), (1060439283, 1060439283), (1053028117, 1064076126), (0, 1065353216), (3200511765, 1064076126), (3207922931, 1060439283), (3211559774, 1053028117),
  (3212836864, 0), (3211559774, 3200511765), (3207922931, 3207922931), (3200511765, 3211559774), (0, 3212836864), (1053028117, 3211559774), (1060439283, 3207922931), (1064076126, 3200511765)]
def tn (j : Nat) : Nat × Nat := turnT.getD j (0, 0)
def inTurn (k : Int) : Bool := decide (-9999 ≤ k) && decide (k ≤ 9999)
/-- What TurnOf gives. -/
def turn (k : Int) : Nat × Nat := tn (k % 16).toNat

def turnCells : Array Value := #[.complex .f32 1065353216 0, .complex .f32 1064076126 1053028117, .complex .f32 1060439283 1060439283, .complex .f32 1053028117 1064076126, .complex .f32 0 1065353216, .complex .f32 3200511765 1064076126, .complex .f32 3207922931 1060439283, .complex .f32 3211559774 1053028117,
  .complex .f32 3212836864 0, .complex .f32 3211559774 3200511765, .complex .f32 3207922931 3207922931, .complex .f32 3200511765 3211559774, .complex .f32 0 3212836864, .complex .f32 1053028117 3211559774, .complex .f32 1060439283 3207922931, .complex .f32 1064076126 3200511765]

theorem turn_cell (w : World) (t : TypeId) (j : Nat) (hj : j < 16) : (w.alloc (.cells turnCells t)).cell? ⟨w.heap.size, j, none⟩ = some (.complex .f32 (tn j).1 (tn j).2) := by
  rw [cell_of_row _ w.heap.size j turnCells t (0, 0) (heap_alloc_new w _)]
  have : j = 0 ∨ j = 1 ∨ j = 2 ∨ j = 3 ∨ j = 4 ∨ j = 5 ∨ j = 6 ∨ j = 7 ∨ j = 8 ∨ j = 9 ∨ j = 10 ∨ j = 11 ∨ j = 12 ∨ j = 13 ∨ j = 14 ∨ j = 15 := by omega
  rcases this with rfl | rfl | rfl | rfl | rfl | rfl | rfl | rfl | rfl | rfl | rfl | rfl | rfl | rfl | rfl | rfl <;> rfl

set_option maxHeartbeats 1000000 in
theorem TurnOf_any (k : Int) (w : World) (h1 : -9999 ≤ k) (h2 : k ≤ 9999) :
    Calls Try.prog 92 #[.int .i64 k] w fun e w' => e = .returned (.complex .f32 (turn k).1 (turn k).2) ∧ w.grownBy w' none := by
  have b1 := Int.emod_nonneg k (show (16 : Int) ≠ 0 by omega)
  have b2 := Int.emod_lt_of_pos k (show (0 : Int) < 16 by omega)
  obtain ⟨j, hj⟩ := Int.eq_ofNat_of_zero_le b1
  have hjt : turn k = tn j := by unfold turn; rw [hj]; rfl
  rw [hjt]
  have hc := turn_cell w 107 j (by omega)
  have hc2 := turn_cell w 34 j (by omega)
  unfold turnCells at hc hc2
  have HJ := Lib.hid hj
  have hj16 : j < 16 := by omega
  clear hj hjt b1 b2
  go_enter Try.func92, Try.ntmps92
  go_wp2_with fail
  refine (remainder_any k 16 _ (by omega) (by omega) (by omega) (by omega)).mono ?_
  rw [HJ.out]
  rintro e w' ⟨rfl, rfl⟩
  go_wp2_with fail
  go_ret
  exact ⟨rfl, World.grownBy_alloc w _ _⟩

/-! spec.TurnOf -/
theorem tmod16 (k : Int) : -16 < k.tmod 16 ∧ k.tmod 16 < 16 ∧ (k.tmod 16) % 16 = k % 16 := by
  by_cases h : 0 ≤ k
  · rw [Int.tmod_eq_emod_of_nonneg h]; omega
  · have : k.tmod 16 = -((-k).tmod 16) := by rw [Int.neg_tmod, Int.neg_neg]
    rw [this, Int.tmod_eq_emod_of_nonneg (by omega)]; omega
theorem emod_twice (k : Int) : (k.tmod 16 + 16).tmod 16 = k % 16 := by
  have t1 := tmod16 k
  rw [Int.tmod_eq_emod_of_nonneg (by omega)]
  omega

set_option maxHeartbeats 1000000 in
theorem table_any (w : World) : Calls Try.prog 121 #[] w fun e w' => e = .returned (.slice (some ⟨w.heap.size, 0, none⟩) 16 16) ∧ w.alloc (.cells turnCells 34) = w' := by
  unfold turnCells
  go_enter Try.func121, Try.ntmps121
  go_wp2_with fail
  go_ret
  exact ⟨rfl, rfl⟩

set_option maxHeartbeats 1000000 in
theorem sTurnOf_any (k : Int) (w : World) (h1 : -9999 ≤ k) (h2 : k ≤ 9999) :
    Calls Try.prog 90 #[.int .i64 k] w fun e w' => e = .returned (.complex .f32 (turn k).1 (turn k).2) ∧ w.grownBy w' none := by
  have b1 := Int.emod_nonneg k (show (16 : Int) ≠ 0 by omega)
  have b2 := Int.emod_lt_of_pos k (show (0 : Int) < 16 by omega)
  have e3 := emod_twice k
  obtain ⟨j, hj⟩ := Int.eq_ofNat_of_zero_le b1
  have hjt : turn k = tn j := by unfold turn; rw [hj]; rfl
  rw [hjt]
  have hc2 := turn_cell w 34 j (by omega)
  have hj16 : j < 16 := by omega
  have hw : IntKind.i64.wrap (k.tmod 16 + 16) = k.tmod 16 + 16 := IntWalk.i64_in _ (by have := tmod16 k; omega)
  rw [hj] at e3
  clear hj hjt b1 b2
  go_enter Try.func90, Try.ntmps90
  go_wp2_with fail
  refine (l1In_yes k (-9999) 9999 _ h1 h2).mono ?_
  rintro e w' ⟨rfl, rfl⟩
  go_wp2_with fail
  refine (table_any _).mono ?_
  rintro e w' ⟨rfl, rfl⟩
  go_wp2_with fail
  go_ret
  exact ⟨rfl, World.grownBy_alloc w _ _⟩

/-! The sizes of pieces and transforms. -/
def powB (n : Int) : Bool := n == 1 || n == 2 || n == 4 || n == 8 || n == 16
theorem ret_b {a b : Bool} (h : a = b) : Ending.returned (.bool a) = .returned (.bool b) := by rw [h]
theorem pow_cases {n : Int} (h : powB n = true) : n = 1 ∨ n = 2 ∨ n = 4 ∨ n = 8 ∨ n = 16 := by
  unfold powB at h; simpa [or_assoc] using h
theorem pow_none {n : Int} (h : powB n = false) : (n == 1) = false ∧ (n == 2) = false ∧ (n == 4) = false ∧ (n == 8) = false ∧ (n == 16) = false := by
  unfold powB at h
  simpa [and_assoc] using h

set_option maxHeartbeats 400000 in
theorem powerOfTwo_any (n : Int) (w : World) : Calls Try.prog 122 #[.int .i64 n] w fun e w' => e = .returned (.bool (powB n)) ∧ w = w' := by
  rcases Bool.eq_false_or_eq_true (powB n) with h | h
  · rw [h]
    rcases pow_cases h with rfl | rfl | rfl | rfl | rfl
    all_goals
      clear h
      go_enter Try.func122, Try.ntmps122
      go_wp2_with fail
      go_ret
      exact ⟨rfl, rfl⟩
  · rw [h]
    obtain ⟨h1, h2, h3, h4, h5⟩ := pow_none h
    clear h
    go_enter Try.func122, Try.ntmps122
    go_wp2_with fail
    go_ret
    exact ⟨rfl, rfl⟩

def pieceB (n : Int) : Bool := n == 2 || n == 4 || n == 8 || n == 16
theorem piece_cases {n : Int} (h : pieceB n = true) : n = 2 ∨ n = 4 ∨ n = 8 ∨ n = 16 := by
  unfold pieceB at h; simpa [or_assoc] using h

set_option maxHeartbeats 400000 in
theorem pieceSize_any (n : Int) (w : World) : Calls Try.prog 91 #[.int .i64 n] w fun e w' => e = .returned (.bool (pieceB n)) ∧ w = w' := by
  by_cases h1 : n = 1
  · subst h1
    go_enter Try.func91, Try.ntmps91
    go_wp2_with fail
    go_ret
    exact ⟨rfl, rfl⟩
  · have e : pieceB n = powB n := by
      unfold pieceB powB
      have : (n == 1) = false := by simpa using h1
      rw [this, Bool.false_or]
    rw [e]
    have b1 : (n == 1) = false := by simpa using h1
    have b2 : (n != 1) = true := by simpa using h1
    clear h1 e
    go_enter Try.func91, Try.ntmps91
    go_wp2_with fail
    refine (powerOfTwo_any _ _).mono ?_
    rintro e w' ⟨rfl, rfl⟩
    go_wp2_with fail
    go_ret
    exact ⟨rfl, rfl⟩
end Go.Proofs.Ytcnlgoghnlcndaa
