/- Walks: PieceOf of spec where there is none; MovedOf. -/
import Derived.Test.YtcnlgoghnlcndaaPc
namespace Go.Proofs.Ytcnlgoghnlcndaa
open Go.RowKit Ieee

theorem own_keptN {w w' : World} {base E n : Nat} {v : Value} {xs : List Value} (h : w.ownsRow base E 1 v n xs) (hg : w.grownBy w' none) : w'.ownsRow base E 1 v n xs :=
  h.kept hg (by cases hv : v.ownBlock with | none => exact .inl rfl | some g => exact .inr (by simp))

set_option maxRecDepth 100000 in
set_option maxHeartbeats 4000000 in
theorem sPieceOf_no (A : Option Addr) (n cap : Nat) (f m : Int) (xs : List Num) (w : World) (h : Sig w A n xs) (hno : pieceOk xs f m = false) :
    Calls Try.prog 49 #[.slice A n cap, .int .i64 f, .int .i64 m] w (Made 34 C [] w) := by
  have hl := h.1
  have hn100 := h.2.1
  have HN := fun d => Lib.hid (made_nil_drew 34 C w d)
  rcases Bool.eq_false_or_eq_true (sigOk xs) with hs | hs
  · by_cases hin : 0 ≤ f ∧ f < xs.length
    · have hp : pieceB m = false := by
        rcases Bool.eq_false_or_eq_true (pieceB m) with hp | hp
        · exact absurd hin (pieceOk_no hno hs hp)
        · exact hp
      have hw : winOk 0 m = false := by rw [winOk_box]; exact hp
      rw [hl] at hin
      have HS := Lib.hid hs
      have HW := Lib.hid hw
      have H := Lib.hid h
      clear hs hl h hno hp hw
      go_enter Try.func49, Try.ntmps49
      go_wp2_with fail
      refine (sSignalOk_any A n cap xs _ (H.out.alloc _)).mono ?_
      rw [HS.out]
      rintro e w' ⟨rfl, d, rfl⟩
      go_wp2_with fail
      refine (l1In_yes _ _ _ _ (by omega) (by omega)).mono ?_
      rintro e w' ⟨rfl, rfl⟩
      go_wp2_with fail
      refine (sWindowOf_no 0 m _ HW.out).mono ?_
      intro e w2 hmd
      obtain ⟨B, c, rfl, hc, hcm, hr, ho, hg⟩ := hmd.out 0 (by simp)
      simp only [List.length_nil] at hc ⊢
      have hfin : Hid (Made 34 C ([] : List Num) w (.returned (.slice (some ⟨w.heap.size, 0, none⟩) 0 0)) w2) := by
        obtain ⟨v, e, a, b⟩ := (HN d).out
        cases e
        exact ⟨_, rfl, own_keptN a hg, grown_trans b hg⟩
      clear hmd hr ho hg HN
      go_wp2_with fail
      go_ret
      exact hfin.out
    · rw [hl] at hin
      have HS := Lib.hid hs
      have H := Lib.hid h
      clear hs hl h hno
      go_enter Try.func49, Try.ntmps49
      go_wp2_with fail
      refine (sSignalOk_any A n cap xs _ (H.out.alloc _)).mono ?_
      rw [HS.out]
      rintro e w' ⟨rfl, d, rfl⟩
      go_wp2_with fail
      refine (l1In_no _ _ _ _ (by omega)).mono ?_
      rintro e w' ⟨rfl, rfl⟩
      go_wp2_with fail
      go_ret
      exact (HN d).out
  · have HS := Lib.hid hs
    have H := Lib.hid h
    clear hs hl h hno
    go_enter Try.func49, Try.ntmps49
    go_wp2_with fail
    refine (sSignalOk_any A n cap xs _ (H.out.alloc _)).mono ?_
    rw [HS.out]
    rintro e w' ⟨rfl, d, rfl⟩
    go_wp2_with fail
    go_ret
    exact (HN d).out

/-! MovedOf -/
def movedN (xs : List Num) (b : Int) (j : Nat) : Num := xs.getD (((j : Int) - b) % (xs.length : Int)).toNat (0, 0)
def movedL (xs : List Num) (b : Int) : List Num := (List.range xs.length).map (movedN xs b)

/-- The state of the loop: k numbers stand at their new places. -/
def MoveSt (xs : List Num) (by' : Int) (n : Nat) (w : World) (k : Nat) (wr : World) : Prop :=
  ∃ ys : List Num, ys.length = n ∧ (∀ i : Nat, i < k → ys[(((i : Int) + by') % (n : Int)).toNat]? = some (xs.getD i (0, 0))) ∧ wr.ownsRow w.heap.size 34 1 (.slice (some ⟨w.heap.size, 0, none⟩) n n) n (ys.map C) ∧ w.grownBy wr none

theorem mod_inj {i k n : Nat} {b : Int} (hi : i < n) (hk : k < n) (h : (((i : Int) + b) % (n : Int)).toNat = (((k : Int) + b) % (n : Int)).toNat) : i = k := by
  have h1 := Int.emod_nonneg ((i : Int) + b) (show (n : Int) ≠ 0 by omega)
  have h2 := Int.emod_nonneg ((k : Int) + b) (show (n : Int) ≠ 0 by omega)
  have h3 : ((i : Int) + b) % n = ((k : Int) + b) % n := by omega
  have h4 : ((i : Int) - k) % n = 0 := by
    have := Int.emod_emod_of_dvd
    have e : (i : Int) - k = ((i : Int) + b) - ((k : Int) + b) := by omega
    rw [e, Int.sub_emod, h3, Int.sub_self, Int.zero_emod]
  have h5 := Int.emod_add_mul_ediv ((i : Int) - k) n
  rw [h4] at h5
  have h6 : (n : Int) * (((i : Int) - k) / n) = (i : Int) - k := by omega
  generalize ((i : Int) - k) / n = q at *
  have h7 : q = 0 := by
    rcases Int.lt_trichotomy q 0 with hq | hq | hq
    · have : (n : Int) * q ≤ (n : Int) * (-1) := Int.mul_le_mul_of_nonneg_left (by omega) (by omega)
      omega
    · exact hq
    · have : (n : Int) * 1 ≤ (n : Int) * q := Int.mul_le_mul_of_nonneg_left (by omega) (by omega)
      omega
  rw [h7, Int.mul_zero] at h6
  omega

theorem MoveSt.step {xs : List Num} {b : Int} {n k r : Nat} {w wr : World} (h : MoveSt xs b n w k wr) (hk : k < n) (hr : (((k : Int) + b) % (n : Int)).toNat = r) (hrn : r < n) :
    MoveSt xs b n w (k + 1) (wr.setCell ⟨w.heap.size, r, none⟩ (C (xs.getD k (0, 0)))) := by
  obtain ⟨ys, a, c, d, e⟩ := h
  obtain ⟨h1, h2⟩ := d.stored r (C (xs.getD k (0, 0)))
  refine ⟨ys.set r (xs.getD k (0, 0)), by simp [a], ?_, by rw [List.map_set]; exact h1, gr_own0 e h2 (fun g e => by cases e; exact Nat.le_refl _)⟩
  intro i hi
  rw [List.getElem?_set]
  by_cases hik : i = k
  · subst hik
    rw [hr, if_pos rfl, if_pos (by omega)]
  · rw [if_neg (fun e' => hik (mod_inj (b := b) (n := n) (by omega) hk (by rw [← e', ← hr])))]
    exact c i (by omega)
theorem MoveSt.cell {xs : List Num} {b : Int} {n k : Nat} {w wr : World} (h : MoveSt xs b n w k wr) (j : Nat) (hj : j < n) : (∃ u, wr.cell? ⟨w.heap.size, j, none⟩ = some u) ∧ wr.frozen? ⟨w.heap.size, j, none⟩ = false := by
  obtain ⟨ys, a, c, d, e⟩ := h
  refine ⟨?_, d.frozenAt j⟩
  have := d.cellAt j (by omega)
  have hlen : j < (ys.map C).length := by simp [a, hj]
  exact ⟨_, this.trans (List.getElem?_eq_getElem hlen)⟩
theorem MoveSt.done {xs : List Num} {b : Int} {n k : Nat} {w wr : World} (h : MoveSt xs b n w k wr) (hl : xs.length = n) (hk : n ≤ k) : Made 34 C (movedL xs b) w (.returned (.slice (some ⟨w.heap.size, 0, none⟩) n n)) wr := by
  obtain ⟨ys, a, c, d, e⟩ := h
  have hy : ys = movedL xs b := by
    apply List.ext_getElem?
    intro j
    unfold movedL
    by_cases hj : j < n
    · have h1 := Int.emod_nonneg ((j : Int) - b) (show (n : Int) ≠ 0 by omega)
      have h2 := Int.emod_lt_of_pos ((j : Int) - b) (show (0 : Int) < n by omega)
      have h3 := c (((j : Int) - b) % (n : Int)).toNat (by omega)
      have e1 : (((((j : Int) - b) % (n : Int)).toNat : Nat) : Int) = ((j : Int) - b) % (n : Int) := by omega
      rw [e1] at h3
      have e2 : ((((j : Int) - b) % (n : Int) + b) % (n : Int)).toNat = j := by
        rw [Int.emod_add_emod, Int.sub_add_cancel, Int.emod_eq_of_lt (by omega) (by omega)]
        omega
      rw [e2] at h3
      rw [h3]
      simp [movedN, hl, hj]
    · rw [List.getElem?_eq_none (by omega), List.getElem?_eq_none (by simp; omega)]
  subst hy
  refine ⟨_, rfl, ?_, e⟩
  rw [a]; exact d

set_option maxRecDepth 100000 in
set_option maxHeartbeats 4000000 in
theorem MovedOf_yes (A : Option Addr) (n cap : Nat) (b : Int) (xs : List Num) (w : World) (h : Sig w A n xs) (hs : sigOk xs = true) (hb : -99 ≤ b ∧ b ≤ 99) :
    Calls Try.prog 50 #[.slice A n cap, .int .i64 b] w (Made 34 C (movedL xs b) w) := by
  have hl := h.1
  have hn16 : n ≤ 16 := by have := (sigOk_parts hs).1; omega
  have H := Lib.hid h
  have HS := Lib.hid hs
  have HL := Lib.hid hl
  clear h hs hl
  go_enter Try.func50, Try.ntmps50
  go_wp2_with fail
  refine (SignalOk_any _ _ _ _ _ H.out).mono ?_
  rw [HS.out]
  rintro e w' ⟨rfl, d, rfl⟩
  go_wp2_with (at_make; go_must (refine make_row (T := C) (0, 0) _ rfl _ _ 37 34 8 rfl Try.underlying37 info34 rfl (by decide) n n rfl rfl rfl (by omega) ?_); intro w1 ho hg; have hst : MoveSt xs b n w 0 w1 := ⟨_, by simp, fun i hi => absurd hi (by omega), ho, ⟨hg.os, hg.tape, hg.output, hg.size, hg.block⟩⟩; clear ho hg)
  go_loopw [24] (fun i wr => ∃ k : Nat, k ≤ n ∧ i = .int .i64 k ∧ MoveSt xs b n w k wr) (fun i _ => n - (intOf i).toNat)
  case atStart => exact ⟨0, Nat.zero_le _, rfl, hst⟩
  case round =>
    obtain ⟨k, hk, rfl, h⟩ := hrel
    clear hst
    by_cases hlt : k < n
    · obtain ⟨_, _, _, _, hgr⟩ := id h
      obtain ⟨b', o, rfl, hbs, hcell⟩ := (H.out.grown hgr).2.2 k hlt
      have r1 := Int.emod_nonneg ((k : Int) + b) (show (n : Int) ≠ 0 by omega)
      have r2 := Int.emod_lt_of_pos ((k : Int) + b) (show (0 : Int) < n by omega)
      obtain ⟨r, hr⟩ := Int.eq_ofNat_of_zero_le r1
      obtain ⟨⟨u, hu⟩, hfz⟩ := h.cell r (by omega)
      have hs2 := h.step hlt (r := r) (by rw [hr]; rfl) (by omega)
      generalize xs.getD k (0, 0) = z at *
      unfold C at hcell hs2
      have HS2 := Lib.hid hs2
      have HR := Lib.hid hr
      have hrn : r < n := by omega
      clear hs2 hgr h r1 r2 hr
      go_wp2_with fail
      refine (remainder_any ((k : Int) + b) n _ (by omega) (by omega) (by omega) (by omega)).mono ?_
      rw [HR.out]
      rintro e w' ⟨rfl, rfl⟩
      go_wp2_with fail
      go_roundw
      case rel => exact ⟨k + 1, by omega, by go_num, HS2.out⟩
      case measure => simp [intOf]; omega
    · go_wp2_with fail
      go_ret
      exact h.done HL.out (by omega)
end Go.Proofs.Ytcnlgoghnlcndaa
