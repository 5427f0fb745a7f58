/- Rows written at any place; walk: evenAndOdd. -/
import Derived.Test.YtcnlgoghnlcndaaFt
import Derived.Test.YtcnlgoghnlcndaaWs
namespace Go.Proofs.Ytcnlgoghnlcndaa
open Go.RowKit Ieee

/-- A row of n numbers that the call has made, and what stands in it. -/
def RowSt (n : Nat) (ws : List Num) (w wr : World) : Prop :=
  ws.length = n ∧ wr.ownsRow w.heap.size 34 1 (.slice (some ⟨w.heap.size, 0, none⟩) n n) n (ws.map C) ∧ w.grownBy wr none
theorem RowSt.start {n : Nat} {w wr : World} (h1 : wr.ownsRow w.heap.size 34 1 (.slice (some ⟨w.heap.size, 0, none⟩) n n) n ((List.replicate n ((0, 0) : Num)).map C)) (h2 : w.grownBy wr none) : RowSt n (List.replicate n (0, 0)) w wr :=
  ⟨by simp, h1, h2⟩
theorem RowSt.drewN {n : Nat} {ws : List Num} {w wr : World} (h : RowSt n ws w wr) (d : Nat) : RowSt n ws w (wr.drewN d) := ⟨h.1, h.2.1, grown_drewN h.2.2 d⟩
theorem RowSt.grow {n : Nat} {ws : List Num} {w wr w' : World} (h : RowSt n ws w wr) (hg : wr.grownBy w' none) : RowSt n ws w w' :=
  ⟨h.1, h.2.1.kept hg (.inr (by simp [Value.ownBlock])), grown_trans h.2.2 hg⟩
theorem RowSt.put {n : Nat} {ws : List Num} {w wr : World} (h : RowSt n ws w wr) (k : Nat) (z : Num) : RowSt n (ws.set k z) w (wr.setCell ⟨w.heap.size, k, none⟩ (C z)) := by
  obtain ⟨a, c, d⟩ := h
  obtain ⟨h1, h2⟩ := c.stored k (C z)
  refine ⟨by simp [a], ?_, gr_own0 d h2 (fun g e => by cases e; exact Nat.le_refl _)⟩
  rw [List.map_set]; exact h1
theorem RowSt.cell {n : Nat} {ws : List Num} {w wr : World} (h : RowSt n ws w wr) (j : Nat) (hj : j < n) : wr.cell? ⟨w.heap.size, j, none⟩ = some (C (ws.getD j (0, 0))) ∧ wr.frozen? ⟨w.heap.size, j, none⟩ = false := by
  obtain ⟨a, c, d⟩ := h
  refine ⟨?_, c.frozenAt j⟩
  rw [c.cellAt j (by omega), List.getElem?_map]
  have : j < ws.length := by omega
  simp [List.getD, this]
theorem RowSt.lt {n : Nat} {ws : List Num} {w wr : World} (h : RowSt n ws w wr) : w.heap.size < wr.heap.size := by
  obtain ⟨a, c, d⟩ := h
  rcases c.2 with ⟨h', _⟩ | ⟨g', cap', cur, h', hb, hg, _⟩
  · simp at h'
  · simp only [Value.slice.injEq, Option.some.injEq, Addr.mk.injEq, and_true, true_and] at h'
    obtain ⟨rfl, rfl⟩ := h'
    exact (Array.getElem?_eq_some_iff.1 hg).1
/-- A part of the row reads as a signal. -/
theorem RowSt.sig {n : Nat} {ws : List Num} {w wr : World} (h : RowSt n ws w wr) {o m : Nat} {xs : List Num} (hm : o + m ≤ n) (hn : n ≤ 100) (hl : xs.length = m) (hx : ∀ k, k < m → ws.getD (o + k) (0, 0) = xs.getD k (0, 0)) :
    Sig wr (some ⟨w.heap.size, o, none⟩) m xs := by
  refine ⟨hl, by omega, fun k hk => ⟨w.heap.size, o, rfl, h.lt, ?_⟩⟩
  rw [(h.cell (o + k) (by omega)).1, hx k hk]

def evL (h : Nat) (x : Nat → Num) : List Num := (List.range h).map (evX x)
def odL (h : Nat) (x : Nat → Num) : List Num := (List.range h).map (odX x)
def Halved (h i : Nat) (x : Nat → Num) (ws : List Num) : Prop := ∀ j, j < i → ws.getD j (0, 0) = evX x j ∧ ws.getD (h + j) (0, 0) = odX x j
theorem Halved.step {h i : Nat} {x : Nat → Num} {ws : List Num} (hi : i < h) (hl : ws.length = 2 * h) (H : Halved h i x ws) : Halved h (i + 1) x ((ws.set i (evX x i)).set (h + i) (odX x i)) := by
  intro j hj
  have e : ∀ (l : List Num) (a b : Nat) (z : Num), (l.set a z).getD b (0, 0) = if a = b ∧ a < l.length then z else l.getD b (0, 0) := by
    intro l a b z
    simp only [List.getD, List.getElem?_set]
    by_cases hab : a = b
    · subst hab
      by_cases ha : a < l.length
      · simp [ha]
      · simp [ha]
    · simp [hab]
  have hl2 : (ws.set i (evX x i)).length = 2 * h := by simp [hl]
  rw [e, e, e, e, hl2, hl]
  by_cases hji : j = i
  · subst hji
    rw [if_neg (by omega), if_pos (by omega), if_pos (by omega)]
    exact ⟨rfl, rfl⟩
  · rw [if_neg (by omega), if_neg (by omega), if_neg (by omega), if_neg (by omega)]
    exact H j (by omega)

/-- What evenAndOdd hands back. -/
def EvOd (h : Nat) (x : Nat → Num) (w : World) (e : Ending) (w' : World) : Prop :=
  ∃ g, e = .returned (.tuple #[.slice (some ⟨g, 0, none⟩) h h, .slice (some ⟨g, h, none⟩) h h]) ∧ Sig w' (some ⟨g, 0, none⟩) h (evL h x) ∧ Sig w' (some ⟨g, h, none⟩) h (odL h x) ∧ w.grownBy w' none

set_option maxRecDepth 100000 in
set_option maxHeartbeats 8000000 in
theorem evenAndOdd_any (A : Option Addr) (h cap : Nat) (xs : List Num) (w : World) (hs : Sig w A (2 * h) xs) (h1 : 1 ≤ h) (h8 : h ≤ 8) :
    Calls Try.prog 113 #[.slice A (2 * h : Nat) cap] w (EvOd h (atX xs) w) := by
  have H := Lib.hid hs
  clear hs
  obtain ⟨n, hn⟩ : ∃ n, 2 * h = n := ⟨_, rfl⟩
  rw [hn] at H ⊢
  have hd2 : (n : Int) / 2 = (h : Int) := by omega
  go_enter Try.func113, Try.ntmps113
  go_wp2_with (at_make; go_must (refine make_row (T := C) (0, 0) _ rfl _ _ 37 34 8 rfl Try.underlying37 info34 rfl (by decide) n n rfl rfl rfl (by omega) ?_); intro w1 ho hg; have hst : RowSt n (List.replicate n (0, 0)) w w1 := RowSt.start ho hg; clear ho hg)
  have b1 : (0 : Int) ≤ (h : Int) := by omega
  have b2 : (h : Int) ≤ (n : Int) := by omega
  have enh : n - h = h := by omega
  go_region
  go_wp2_with fail
  have hst' : RowSt n (List.replicate n (0, 0)) w w1.drew := hst.drewN 1
  clear hst
  go_loopw [27] (fun i wr => ∃ k : Nat, k ≤ h ∧ i = .int .i64 k ∧ ∃ ws, RowSt n ws w wr ∧ Hid (Halved h k (atX xs) ws)) (fun i _ => h - (intOf i).toNat)
  case atStart => exact ⟨0, Nat.zero_le _, rfl, _, hst', Lib.hid (fun j hj => absurd hj (by omega))⟩
  case round =>
    obtain ⟨k, hk, rfl, ws, hr, hh⟩ := hrel
    clear hst'
    by_cases hlt : k < h
    · have hgr := hr.2.2
      obtain ⟨b, o, rfl, hbs, hc1⟩ := (H.out.grown hgr).2.2 (2 * k) (by omega)
      obtain ⟨b', o', e', hbs', hc2⟩ := (H.out.grown hgr).2.2 (2 * k + 1) (by omega)
      cases e'
      obtain ⟨u1, f1⟩ := hr.cell k (by omega)
      obtain ⟨u2, f2⟩ := hr.cell (h + k) (by omega)
      have hlen := hr.1
      have HH := Lib.hid (Halved.step hlt (by omega) hh.out)
      have HR := Lib.hid ((hr.put k (evX (atX xs) k)).put (h + k) (odX (atX xs) k))
      have q1 : xs.getD (2 * k) (0, 0) = evX (atX xs) k := rfl
      have q2 : xs.getD (2 * k + 1) (0, 0) = odX (atX xs) k := rfl
      rw [q1] at hc1
      rw [q2] at hc2
      generalize evX (atX xs) k = z1 at *
      generalize odX (atX xs) k = z2 at *
      unfold C at hc1 hc2 u1 u2
      have i1 : (0 : Int) ≤ (k : Int) := by omega
      have i2 : (k : Int) < (h : Int) := by omega
      clear hr hh hgr q1 q2
      go_wp2_with fail
      go_region
      go_wp2_with fail
      go_roundw
      case rel => exact ⟨k + 1, by omega, by go_num, _, HR.out.drewN 1, HH⟩
      case measure => simp [intOf]; omega
    · obtain rfl : k = h := by omega
      go_wp2_with fail
      go_ret2
      refine ⟨w.heap.size, rfl, ?_, ?_, hr.2.2⟩
      · refine hr.sig (by omega) (by omega) (by simp [evL]) (fun j hj => ?_)
        rw [Nat.zero_add, (hh.out j hj).1]
        exact (getD_range (evX (atX xs)) (0, 0) hj).symm
      · refine hr.sig (by omega) (by omega) (by simp [odL]) (fun j hj => ?_)
        rw [(hh.out j hj).2]
        exact (getD_range (odX (atX xs)) (0, 0) hj).symm
end Go.Proofs.Ytcnlgoghnlcndaa
