/- Walks: PieceOf (impl and spec), MovedOf. -/
import Derived.Test.YtcnlgoghnlcndaaSn
import Derived.Test.YtcnlgoghnlcndaaT6
namespace Go.Proofs.Ytcnlgoghnlcndaa
open Go.RowKit Ieee

/-- The number of a piece at a place. -/
def pieceN (xs : List Num) (f : Nat) (i : Nat) : Num := xs.getD ((f + i) % xs.length) (0, 0)
def pieceL (xs : List Num) (f n : Nat) : List Num := (List.range n).map (pieceN xs f)
def pieceOk (xs : List Num) (f n : Int) : Bool := sigOk xs && pieceB n && decide (0 ≤ f) && decide (f < xs.length)

theorem pieceOk_in {xs : List Num} {f n : Int} (h : pieceOk xs f n = true) : sigOk xs = true ∧ pieceB n = true ∧ ∃ k : Nat, f = k ∧ k < xs.length := by
  unfold pieceOk at h
  simp only [Bool.and_eq_true, decide_eq_true_eq] at h
  exact ⟨h.1.1.1, h.1.1.2, f.toNat, by omega, by omega⟩

set_option maxRecDepth 100000 in
set_option maxHeartbeats 4000000 in
theorem PieceOf_yes (A : Option Addr) (n cap f m : Nat) (xs : List Num) (w : World) (h : Sig w A n xs) (hs : sigOk xs = true) (hp : pieceB m = true) (hf : f < n) :
    Calls Try.prog 48 #[.slice A n cap, .int .i64 f, .int .i64 m] w (Made 34 C (pieceL xs f m) w) := by
  have hl := h.1
  have hn16 : n ≤ 16 := by have := (sigOk_parts hs).1; omega
  have hm16 : m ≤ 16 := by rcases piece_cases hp with e | e | e | e <;> omega
  have H := Lib.hid h
  have HS := Lib.hid hs
  have HL := Lib.hid hl
  have HP := Lib.hid hp
  clear h hs hl hp
  go_enter Try.func48, Try.ntmps48
  go_wp2_with fail
  refine (SignalOk_any _ _ _ _ _ H.out).mono ?_
  rw [HS.out]
  rintro e w' ⟨rfl, d, rfl⟩
  go_wp2_with fail
  refine (pieceSize_any _ _).mono ?_
  rw [HP.out]
  rintro e w' ⟨rfl, rfl⟩
  go_wp2_with (at_make; go_must (refine make_row (T := C) (0, 0) _ rfl _ _ 37 34 8 rfl Try.underlying37 info34 rfl (by decide) m m rfl rfl rfl (by omega) ?_); intro w1 ho hg; have hst : FillSt 34 C (pieceN xs f) m w 0 w1 := fill_start (0, 0) ho hg; clear ho hg)
  go_loopw [31] (fun i wr => ∃ k : Nat, k ≤ m ∧ i = .int .i64 k ∧ FillSt 34 C (pieceN xs f) m w k wr) (fun i _ => m - (intOf i).toNat)
  case atStart => exact ⟨0, Nat.zero_le _, rfl, hst⟩
  case round =>
    obtain ⟨k, hk, rfl, h⟩ := hrel
    clear hst
    by_cases hlt : k < m
    · obtain ⟨_, _, _, _, hgr⟩ := id h
      have hmod : (f + k) % n < n := Nat.mod_lt _ (by omega)
      obtain ⟨b, o, rfl, hbs, hcell⟩ := (H.out.grown hgr).2.2 ((f + k) % n) hmod
      obtain ⟨⟨u, hu⟩, hfz⟩ := h.cell k hlt
      have hs2 := h.step hlt
      have e1 : pieceN xs f k = xs.getD ((f + k) % n) (0, 0) := by unfold pieceN; rw [HL.out]
      rw [e1] at hs2
      have e2 : ((f : Int) + (k : Int)) % (n : Int) = (((f + k) % n : Nat) : Int) := by simp
      generalize xs.getD ((f + k) % n) (0, 0) = z at *
      generalize (f + k) % n = r at *
      unfold C at hcell hs2
      have HS2 := Lib.hid hs2
      clear hs2 e1 hgr h
      go_wp2_with fail
      go_roundw
      case rel => exact ⟨k + 1, by omega, by go_num, HS2.out⟩
      case measure => simp [intOf]; omega
    · go_wp2_with fail
      go_ret
      exact h.done (by omega)

theorem pieceOk_no {xs : List Num} {f n : Int} (h : pieceOk xs f n = false) (hs : sigOk xs = true) (hp : pieceB n = true) : ¬ (0 ≤ f ∧ f < xs.length) := by
  unfold pieceOk at h
  rw [hs, hp] at h
  simp only [Bool.true_and, Bool.and_eq_false_iff, decide_eq_false_iff_not] at h
  omega

set_option maxRecDepth 100000 in
set_option maxHeartbeats 4000000 in
theorem PieceOf_no (A : Option Addr) (n cap : Nat) (f m : Int) (xs : List Num) (w : World) (h : Sig w A n xs) (hno : pieceOk xs f m = false) :
    Calls Try.prog 48 #[.slice A n cap, .int .i64 f, .int .i64 m] w fun e w' => e = .returned (.slice none 0 0) ∧ ∃ d, w.drewN d = w' := by
  have hl := h.1
  rcases Bool.eq_false_or_eq_true (sigOk xs) with hs | hs
  · rcases Bool.eq_false_or_eq_true (pieceB m) with hp | hp
    · have h3 := pieceOk_no hno hs hp
      rw [hl] at h3
      have HS := Lib.hid hs
      have HP := Lib.hid hp
      have H := Lib.hid h
      clear hs hl h hno hp
      by_cases h4 : f < 0
      · go_enter Try.func48, Try.ntmps48
        go_wp2_with fail
        refine (SignalOk_any _ _ _ _ _ H.out).mono ?_
        rw [HS.out]
        rintro e w' ⟨rfl, d, rfl⟩
        go_wp2_with fail
        refine (pieceSize_any _ _).mono ?_
        rw [HP.out]
        rintro e w' ⟨rfl, rfl⟩
        go_wp2_with fail
        go_ret
        exact ⟨rfl, _, rfl⟩
      · have h5 : (n : Int) ≤ f := by omega
        go_enter Try.func48, Try.ntmps48
        go_wp2_with fail
        refine (SignalOk_any _ _ _ _ _ H.out).mono ?_
        rw [HS.out]
        rintro e w' ⟨rfl, d, rfl⟩
        go_wp2_with fail
        refine (pieceSize_any _ _).mono ?_
        rw [HP.out]
        rintro e w' ⟨rfl, rfl⟩
        go_wp2_with fail
        go_ret
        exact ⟨rfl, _, rfl⟩
    · have HS := Lib.hid hs
      have HP := Lib.hid hp
      have H := Lib.hid h
      clear hs hl h hno hp
      go_enter Try.func48, Try.ntmps48
      go_wp2_with fail
      refine (SignalOk_any _ _ _ _ _ H.out).mono ?_
      rw [HS.out]
      rintro e w' ⟨rfl, d, rfl⟩
      go_wp2_with fail
      refine (pieceSize_any _ _).mono ?_
      rw [HP.out]
      rintro e w' ⟨rfl, rfl⟩
      go_wp2_with fail
      go_ret
      exact ⟨rfl, _, rfl⟩
  · have HS := Lib.hid hs
    have H := Lib.hid h
    clear hs hl h hno
    go_enter Try.func48, Try.ntmps48
    go_wp2_with fail
    refine (SignalOk_any _ _ _ _ _ H.out).mono ?_
    rw [HS.out]
    rintro e w' ⟨rfl, d, rfl⟩
    go_wp2_with fail
    go_ret
    exact ⟨rfl, _, rfl⟩

theorem winOk_box (m : Int) : winOk 0 m = pieceB m := by unfold winOk; simp

set_option maxRecDepth 100000 in
set_option maxHeartbeats 4000000 in
theorem sPieceOf_yes (A : Option Addr) (n cap f m : Nat) (xs : List Num) (w : World) (h : Sig w A n xs) (hs : sigOk xs = true) (hp : pieceB m = true) (hf : f < n) :
    Calls Try.prog 49 #[.slice A n cap, .int .i64 f, .int .i64 m] w (Made 34 C (pieceL xs f m) w) := by
  have hl := h.1
  have hn16 : n ≤ 16 := by have := (sigOk_parts hs).1; omega
  have hm16 : 2 ≤ m ∧ m ≤ 16 := by rcases piece_cases hp with e | e | e | e <;> omega
  have hw : winOk 0 m = true := by rw [winOk_box]; exact hp
  have hwl : (winL 0 m).length = m := by simp [winL]
  have H := Lib.hid h
  have HS := Lib.hid hs
  have HL := Lib.hid hl
  have HW := Lib.hid hw
  have HWL := Lib.hid hwl
  have hst := fun d => Lib.hid (AppSt.start0 (E := 34) (T := C) (f := pieceN xs f) (w := w) (d := d))
  clear h hs hl hp hw hwl
  go_enter Try.func49, Try.ntmps49
  go_wp2_with fail
  refine (sSignalOk_any A n cap xs _ (H.out.alloc _)).mono ?_
  rw [HS.out]
  rintro e w' ⟨rfl, d, rfl⟩
  go_wp2_with fail
  refine (l1In_yes _ _ _ _ (by omega) (by omega)).mono ?_
  rintro e w' ⟨rfl, rfl⟩
  go_wp2_with fail
  refine (sWindowOf_yes 0 m _ HW.out).mono ?_
  intro e w2 hmd
  obtain ⟨B, c, rfl, hc, hcm, hr, ho, hg⟩ := hmd.out 0 (by rw [HWL.out]; omega)
  rw [HWL.out] at hc ⊢
  have hst2 := Lib.hid ((hst d).out.grow hg)
  clear hmd hr ho hg
  unfold maxLen at hcm
  have hm0 : ((m : Int) == 0) = false := by simp; omega
  go_wp2_with fail
  go_loopw [7, 8] (fun v i wr => ∃ k : Nat, k ≤ m ∧ i = .int .i64 k ∧ AppSt 34 C (pieceN xs f) w v k wr) (fun _ i _ => m - (intOf i).toNat)
  case atStart => exact ⟨0, Nat.zero_le _, rfl, hst2.out⟩
  case round =>
    obtain ⟨k, hk, rfl, h⟩ := hrel
    clear hst hst2
    by_cases hlt : k < m
    · have hmod : (f + k) % n < n := Nat.mod_lt _ (by omega)
      obtain ⟨b, o, rfl, hbs, hcell⟩ := (H.out.grown h.2).2.2 ((f + k) % n) hmod
      have e1 : pieceN xs f k = xs.getD ((f + k) % n) (0, 0) := by unfold pieceN; rw [HL.out]
      have e2 : ((f : Int) + (k : Int)) % (n : Int) = (((f + k) % n : Nat) : Int) := by simp
      have hsz := h.size
      generalize xs.getD ((f + k) % n) (0, 0) = z at *
      generalize (f + k) % n = r at *
      have HE := Lib.hid e1
      unfold C at hcell
      clear e1
      go_wp2_with (at_builtin; go_must (refine append_row (T := C) _ rfl _ _ 37 34 (.complex .f32 0 0) 8 rfl Try.underlying37 info34 rfl (by decide) w.heap.size u7 k _ z rfl rfl h.1 rfl (by omega) hsz ?_); intro v' w' ho' hg')
      go_roundw
      case rel => exact ⟨k + 1, by omega, by go_num, h.step (by rw [HE.out]; exact ho') (by rw [HE.out]; exact hg')⟩
      case measure => simp [intOf]; omega
    · have hkm : k = m := by omega
      have hd := Lib.hid (h.done (n := m) hkm)
      clear hkm
      go_wp2_with fail
      go_ret
      exact hd.out
end Go.Proofs.Ytcnlgoghnlcndaa
