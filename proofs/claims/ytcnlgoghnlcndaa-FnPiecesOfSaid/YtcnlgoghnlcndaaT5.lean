/- Walks: TransformOf (impl and spec). -/
import Derived.Test.YtcnlgoghnlcndaaT4
namespace Go.Proofs.Ytcnlgoghnlcndaa
open Go.RowKit Ieee

/-- The number k of the spectrum. -/
def dftN (xs : List Num) (k : Nat) : Num := sumK xs (fT (16 / (xs.length : Int) * -(k : Int))) xs.length
def dftL (xs : List Num) : List Num := (List.range xs.length).map (dftN xs)
theorem dftL_length (xs : List Num) : (dftL xs).length = xs.length := by simp [dftL]
theorem dftN_fin {xs : List Num} (h : Calm xs) (k : Nat) : finN (dftN xs k) = true := sumK_fin h _ (fT_lt _) (Nat.le_refl _)
theorem dftL_fin {xs : List Num} (h : Calm xs) : (dftL xs).all finN = true := by
  rw [List.all_eq_true]
  intro z hz
  obtain ⟨k, _, rfl⟩ := List.mem_map.1 hz
  exact dftN_fin h k

/-- A made row and a truth. -/
def MadeT {α : Type} (E : TypeId) (T : α → Value) (xs : List α) (ok : Bool) (w : World) (e : Ending) (w' : World) : Prop :=
  ∃ v : Value, e = .returned (.tuple #[v, .bool ok]) ∧ w'.ownsRow w.heap.size E 1 v xs.length (xs.map T) ∧ w.grownBy w' none
theorem MadeT.out {α : Type} {E : TypeId} {T : α → Value} {xs : List α} {ok : Bool} {w w' : World} {e : Ending} (d : α) (h : MadeT E T xs ok w e w') (hn : xs.length ≤ 100) :
    ∃ A cap, e = .returned (.tuple #[.slice A xs.length cap, .bool ok]) ∧ xs.length ≤ cap ∧ cap ≤ maxLen ∧ Rw T d w' A xs.length xs ∧ w'.ownsRow w.heap.size E 1 (.slice A xs.length cap) xs.length (xs.map T) ∧ w.grownBy w' none := by
  obtain ⟨v, rfl, ho, hg⟩ := h
  obtain ⟨A, cap, rfl, hc, hm, hr⟩ := own_form d ho hn
  exact ⟨A, cap, rfl, hc, hm, hr, ho, hg⟩

theorem fill_start {α : Type} {E : TypeId} {T : α → Value} {f : Nat → α} {n d : Nat} {w wr : World} (z : α) (h1 : wr.ownsRow (w.drewN d).heap.size E 1 (.slice (some ⟨(w.drewN d).heap.size, 0, none⟩) n n) n ((List.replicate n z).map T)) (h2 : (w.drewN d).grownBy wr none) : FillSt E T f n w 0 wr :=
  FillSt.start z h1 ⟨h2.os, h2.tape, h2.output, h2.size, h2.block⟩
theorem FillSt.doneT {α : Type} {E : TypeId} {T : α → Value} {f : Nat → α} {n : Nat} {w wr : World} {k : Nat} (h : FillSt E T f n w k wr) (hk : n ≤ k) : MadeT E T ((List.range n).map f) true w (.returned (.tuple #[.slice (some ⟨w.heap.size, 0, none⟩) n n, .bool true])) wr := by
  obtain ⟨v, e, ho, hg⟩ := h.done hk
  cases e
  exact ⟨_, rfl, ho, hg⟩

theorem sizeOk_parts {xs : List Num} (h : sizeOk xs = true) : powB xs.length = true ∧ sigOk xs = true ∧ 1 ≤ xs.length ∧ xs.length ≤ 16 := by
  unfold sizeOk at h
  simp only [Bool.and_eq_true] at h
  refine ⟨h.1, h.2, ?_, (sigOk_parts h.2).1⟩
  rcases pow_cases h.1 with e | e | e | e | e <;> omega

set_option maxRecDepth 100000 in
set_option maxHeartbeats 4000000 in
theorem TransformOf_yes (A : Option Addr) (n cap : Nat) (xs : List Num) (w : World) (h : Sig w A n xs) (hs : sizeOk xs = true) (hc : Calm xs) :
    Calls Try.prog 79 #[.slice A n cap] w (MadeT 34 C (dftL xs) true w) := by
  have hl := h.1
  obtain ⟨_, _, hn1, hn16⟩ := sizeOk_parts hs
  rw [hl] at hn1 hn16
  have H := Lib.hid h
  have HL := Lib.hid hl
  have HS := Lib.hid hs
  have HC := Lib.hid hc
  clear h hl hs hc
  go_enter Try.func79, Try.ntmps79
  go_wp2_with fail
  refine (SizeOk_any _ _ _ _ _ H.out).mono ?_
  rw [HS.out]
  rintro e w' ⟨rfl, d, rfl⟩
  go_wp2_with (at_make; go_must (refine make_row (T := C) (0, 0) _ rfl _ _ 37 34 8 rfl Try.underlying37 info34 rfl (by decide) n n rfl rfl rfl (by omega) ?_); intro w1 ho hg; have hst : FillSt 34 C (dftN xs) n w 0 w1 := fill_start (0, 0) ho hg; clear ho hg)
  go_loopw [16] (fun i wr => ∃ k : Nat, k ≤ n ∧ i = .int .i64 k ∧ FillSt 34 C (dftN xs) n w k wr) (fun i _ => n - (intOf i).toNat)
  case atStart => exact ⟨0, Nat.zero_le _, rfl, hst⟩
  case round =>
    obtain ⟨k, hk, rfl, h⟩ := hrel
    clear hst
    by_cases hlt : k < n
    · obtain ⟨_, _, _, _, hgr⟩ := id h
      have hsig := Lib.hid (H.out.grown hgr)
      clear hgr
      go_wp2_with fail
      refine (turnedSum_any A n cap (-(k : Int)) xs _ hsig.out HC.out hn1 (by omega)).mono ?_
      rintro e w2 ⟨rfl, hg⟩
      have h2 := h.grow hg
      obtain ⟨⟨u, hu⟩, hf⟩ := h2.cell k hlt
      have hs2 := h2.step hlt
      have e1 : dftN xs k = sumK xs (fT (16 / (n : Int) * -(k : Int))) xs.length := by unfold dftN; rw [HL.out]
      rw [e1] at hs2
      have HS2 := Lib.hid hs2
      clear hs2 h h2 hg e1
      obtain ⟨S, hS⟩ : ∃ S, sumK xs (fT (16 / (n : Int) * -(k : Int))) xs.length = S := ⟨_, rfl⟩
      rw [hS] at HS2 ⊢
      clear hS
      unfold C at HS2 ⊢
      go_wp2_with fail
      go_roundw
      case rel => exact ⟨k + 1, by omega, by go_num, HS2.out⟩
      case measure => simp [intOf]; omega
    · go_wp2_with fail
      go_ret2
      have hd := h.doneT (by omega)
      unfold dftL
      rw [HL.out]
      exact hd

set_option maxRecDepth 100000 in
set_option maxHeartbeats 4000000 in
theorem TransformOf_no (A : Option Addr) (n cap : Nat) (xs : List Num) (w : World) (h : Sig w A n xs) (hs : sizeOk xs = false) :
    Calls Try.prog 79 #[.slice A n cap] w fun e w' => e = .returned (.tuple #[.slice none 0 0, .bool false]) ∧ ∃ d, w.drewN d = w' := by
  have H := Lib.hid h
  have HS := Lib.hid hs
  clear h hs
  go_enter Try.func79, Try.ntmps79
  go_wp2_with fail
  refine (SizeOk_any _ _ _ _ _ H.out).mono ?_
  rw [HS.out]
  rintro e w' ⟨rfl, d, rfl⟩
  go_wp2_with fail
  go_ret2
  exact ⟨rfl, _, rfl⟩
end Go.Proofs.Ytcnlgoghnlcndaa
