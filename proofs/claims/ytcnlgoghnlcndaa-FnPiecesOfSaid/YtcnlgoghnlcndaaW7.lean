/- Walks: l20Tiny, DrawFlushed, DrawSubnormal. -/
import Derived.Test.YtcnlgoghnlcndaaW6
namespace Go.Proofs.Ytcnlgoghnlcndaa
open Go.RowKit Ieee

theorem t1 : floatBits .quo .f32 8388608 1073741824 = some 4194304 := by decide +kernel
theorem t2 : floatBits .quo .f32 (Op.negFloat .f32 8388608) 1082130432 = some 2149580800 := by decide +kernel
theorem t3 : floatBits .mul .f32 8388608 1073741824 = some 16777216 := by decide +kernel
theorem t4 : floatBits .quo .f32 8388608 1258291200 = some 1 := by decide +kernel

/-- Block G holds floats 'tf 0' .. 'tf 7'. -/
def AllC (w : World) (G : Nat) (f : Int → Value) (n : Int) : Prop := ∀ j : Int, 0 ≤ j → j < n → w.cell? ⟨G, j.toNat, none⟩ = some (f j)
theorem AllC.out {w : World} {G : Nat} {f : Int → Value} {n : Int} (h : AllC w G f n) : ∀ j : Int, 0 ≤ j → j < n → w.cell? ⟨G, j.toNat, none⟩ = some (f j) := h
theorem AllC.grown {w w' : World} {G R : Nat} {f : Int → Value} {n : Int} (h : AllC w G f n) (hg : w.grownBy w' (some R)) (hne : G ≠ R) : AllC w' G f n :=
  fun j h1 h2 => hg.cell (h j h1 h2) (by simpa using hne)

def tf (j : Int) : Nat := if j = 0 then 8388608 else if j = 1 then 2155872256 else if j = 2 then 4194304 else if j = 3 then 2149580800 else if j = 4 then 16777216 else if j = 5 then 0 else if j = 6 then 1065353216 else 1
theorem tf_small : ∀ j : Int, fin single (tf j) = true ∧ (iv single (tf j)).natAbs ≤ 12 * p2 149 := by
  intro j
  unfold tf
  repeat' split
  all_goals decide +kernel
theorem tf_drawn (i j : Int) : Drawn (tf i) (tf j) := Small.drawn ⟨(tf_small i).1, (tf_small j).1, (tf_small i).2, (tf_small j).2⟩
theorem neg_least : Op.negFloat .f32 8388608 = 2155872256 := by decide +kernel

def tinyCells : Array Value := #[.float .f32 8388608, .float .f32 (Op.negFloat .f32 8388608), .float .f32 4194304, .float .f32 2149580800, .float .f32 16777216, .float .f32 0, .float .f32 1065353216, .float .f32 1]

set_option maxHeartbeats 4000000 in
theorem tiny_any (R p : Nat) (w : World) (h : RdAt w R p) (hp : p < 900000) :
    Calls Try.prog 99 #[.pointer (some ⟨R, 0, none⟩)] w fun e w' => ∃ a b : Nat, Drawn a b ∧ e = .returned (.complex .f32 a b) ∧ w.grownBy w' (some R) ∧ RdAt w' R (p + 2) := by
  have k1 := fun W : World => run_float_arith (P := Try.prog) W .quo 43 .f32 8388608 1073741824 _ t1
  have k2 := fun W : World => run_float_arith (P := Try.prog) W .quo 43 .f32 (Op.negFloat .f32 8388608) 1082130432 _ t2
  have k3 := fun W : World => run_float_arith (P := Try.prog) W .mul 43 .f32 8388608 1073741824 _ t3
  have k4 := fun W : World => run_float_arith (P := Try.prog) W .quo 43 .f32 8388608 1258291200 _ t4
  have hlt := h.lt
  go_enter Try.func99, Try.ntmps99
  go_wp2_with fail
  refine (least_any _).mono ?_
  rintro e w' ⟨rfl, rfl⟩
  go_wp2_with fail
  have hne : w.heap.size ≠ R := by omega
  have ha : AllC (w.alloc (Obj.cells tinyCells 43)).drew w.heap.size (fun j => .float .f32 (tf j)) 8 := by
    intro j h1 h2
    obtain ⟨j, rfl⟩ := Int.eq_ofNat_of_zero_le h1
    show (w.alloc (Obj.cells tinyCells 43)).cell? ⟨w.heap.size, j, none⟩ = _
    rw [cell_of_row _ w.heap.size j tinyCells 43 (0, 0) (heap_alloc_new w _)]
    have : j = 0 ∨ j = 1 ∨ j = 2 ∨ j = 3 ∨ j = 4 ∨ j = 5 ∨ j = 6 ∨ j = 7 := by omega
    rcases this with rfl | rfl | rfl | rfl | rfl | rfl | rfl | rfl <;> first | rfl | exact congrArg (fun x => some (Value.float .f32 x)) neg_least
  have hr : RdAt (w.alloc (Obj.cells tinyCells 43)).drew R p := (h.alloc _).drew
  have hgr : w.grownBy (w.alloc (Obj.cells tinyCells 43)).drew (some R) := grown_drew (World.grownBy_alloc w _ _)
  unfold tinyCells at ha hr hgr
  generalize w.alloc _ = W at *
  generalize w.heap.size = G at *
  clear k1 k2 k3 k4
  have hc := ha.out
  go_region_with ((go_at_call 89; refine (pick_any _ _ _ _ (by assumption) (by omega) (by omega)).mono ?_; rintro e w' ⟨j, j1, j2, rfl, hg, hr⟩; have ha' := AllC.grown (by assumption) hg hne; have hc' := ha'.out))
  all_goals
    clear hc hc'
    go_wp2_with fail
    go_ret
    exact ⟨_, _, tf_drawn _ _, rfl, grown_trans (grown_trans hgr (by assumption)) hg, hr⟩

/-! DrawFlushed, DrawSubnormal: a number. -/
/-- What comes in: a slice of bytes. -/
def Code (w : World) (A : Option Addr) (n cap : Nat) : Prop :=
  n ≤ cap ∧ n ≤ maxLen ∧ (0 < n → ∃ b o, A = some ⟨b, o, none⟩ ∧ b < w.heap.size ∧ ∀ i, i < n → ∃ v : Int, 0 ≤ v ∧ v ≤ 255 ∧ w.cell? ⟨b, o + i, none⟩ = some (.int .u8 v))

theorem Code.keep {w w' : World} {A : Option Addr} {n cap : Nat} (h : Code w A n cap) (hb : Below w.heap.size w w') : Code w' A n cap := by
  refine ⟨h.1, h.2.1, fun h0 => ?_⟩
  obtain ⟨b, o, e, hbR, hc⟩ := h.2.2 h0
  refine ⟨b, o, e, Nat.lt_of_lt_of_le hbR hb.size, fun i hi => ?_⟩
  obtain ⟨v, v1, v2, v3⟩ := hc i hi
  exact ⟨v, v1, v2, (hb.cell (p := ⟨b, o + i, none⟩) hbR).trans v3⟩

theorem rd_new {w : World} {A : Option Addr} {n m cap : Nat} (h : Code w A n cap) (hm : m ≤ n) (hm2 : m ≤ 2000) : RdAt (w.alloc (.cells #[.slice A m cap, .int .i64 0] 105)) w.heap.size 0 := by
  refine ⟨A, m, cap, heap_alloc_new w _, hm2, fun h0 => ?_⟩
  obtain ⟨b, o, e, hbR, hc⟩ := h.2.2 (by omega)
  refine ⟨b, o, e, hbR, fun i hi => ?_⟩
  obtain ⟨v, v1, v2, v3⟩ := hc i (by omega)
  exact ⟨v, v1, v2, (World.cell?_alloc_lt w _ _ hbR).trans v3⟩

theorem open_any (A : Option Addr) (n cap : Nat) (w : World) (h : Code w A n cap) :
    Calls Try.prog 88 #[.slice A n cap] w fun e w' => e = .returned (.pointer (some ⟨w.heap.size, 0, none⟩)) ∧ Below w.heap.size w w' ∧ RdAt w' w.heap.size 0 := by
  rcases Nat.lt_or_ge 2000 n with hn | hn
  · obtain ⟨b, o, rfl, _⟩ := h.2.2 (by omega)
    refine (open_long b o n cap w hn h.1).mono fun e w' ⟨he, hw⟩ => ⟨he, ?_⟩
    subst hw
    exact ⟨(Below.refl _ _).alloc (Nat.le_refl _) _, rd_new h (by omega) (Nat.le_refl _)⟩
  · refine (open_short A n cap w hn).mono fun e w' ⟨he, hw⟩ => ⟨he, ?_⟩
    subst hw
    exact ⟨(Below.refl _ _).alloc (Nat.le_refl _) _, rd_new h (Nat.le_refl _) hn⟩

theorem Below.grow {B R : Nat} {a w w' : World} (h : Below B a w) (hg : w.grownBy w' (some R)) (hB : B ≤ w.heap.size) (hR : B ≤ R) : Below B a w' :=
  h.grown hg hB (fun k hk => by cases hk; exact hR)

set_option maxHeartbeats 1000000 in
theorem DrawFlushed_any (A : Option Addr) (n cap : Nat) (w : World) (h : Code w A n cap) :
    Calls Try.prog 37 #[.slice A n cap] w fun e w' => ∃ a b : Nat, Drawn a b ∧ e = .returned (.complex .f32 a b) ∧ Below w.heap.size w w' := by
  go_enter Try.func37, Try.ntmps37
  go_wp2_with fail
  refine (open_any _ _ _ _ h).mono ?_
  rintro e w1 ⟨rfl, hb1, hr1⟩
  go_wp2_with fail
  refine (pick_any _ _ _ _ hr1 (by omega) (by omega)).mono ?_
  rintro e w2 ⟨k, k1, k2, rfl, hg2, hr2⟩
  have hb2 := Below.grow hb1 hg2 hb1.size (Nat.le_refl _)
  by_cases c0 : k = 0
  · subst c0
    go_wp2_with fail
    refine (num_any _ _ _ _ hr2 (by omega) (by omega) (by omega)).mono ?_
    rintro e w3 ⟨a, b, hd, rfl, hg3, p', hp', hr3⟩
    go_wp2_with fail
    go_ret
    exact ⟨a, b, hd, rfl, Below.grow hb2 hg3 hb2.size (Nat.le_refl _)⟩
  · have b0 : (k == 0) = false := by simpa using c0
    go_wp2_with fail
    refine (tiny_any _ _ _ hr2 (by omega)).mono ?_
    rintro e w3 ⟨a, b, hd, rfl, hg3, hr3⟩
    go_wp2_with fail
    go_ret
    exact ⟨a, b, hd, rfl, Below.grow hb2 hg3 hb2.size (Nat.le_refl _)⟩

set_option maxHeartbeats 1000000 in
theorem DrawSubnormal_any (A : Option Addr) (n cap : Nat) (w : World) (h : Code w A n cap) :
    Calls Try.prog 29 #[.slice A n cap] w fun e w' => ∃ a b : Nat, Drawn a b ∧ e = .returned (.complex .f32 a b) ∧ Below w.heap.size w w' := by
  go_enter Try.func29, Try.ntmps29
  go_wp2_with fail
  refine (DrawFlushed_any _ _ _ _ h).mono ?_
  rintro e w1 ⟨a, b, hd, rfl, hb⟩
  go_wp2_with fail
  go_ret
  exact ⟨a, b, hd, rfl, hb⟩
end Go.Proofs.Ytcnlgoghnlcndaa
