/- Walks: TransformOf of spec. -/
import Derived.Test.YtcnlgoghnlcndaaT5
namespace Go.Proofs.Ytcnlgoghnlcndaa
open Go.RowKit Ieee

theorem AppSt.start0 {α : Type} {E : TypeId} {T : α → Value} {f : Nat → α} {w : World} {d : Nat} : AppSt E T f w (.slice (some ⟨w.heap.size, 0, none⟩) 0 0) 0 ((w.alloc (.cells #[] E)).drewN d) :=
  ⟨World.ownsRow_made w #[] 0 (Nat.le_refl _) (Nat.zero_le _) rfl, grown_drewN (World.grownBy_alloc w _ _) d⟩
theorem AppSt.doneT {α : Type} {E : TypeId} {T : α → Value} {f : Nat → α} {w wr : World} {v : Value} {k n : Nat} (h : AppSt E T f w v k wr) (hk : k = n) : MadeT E T ((List.range n).map f) true w (.returned (.tuple #[v, .bool true])) wr := by
  subst hk
  exact ⟨v, rfl, by simpa using h.1, h.2⟩
theorem madeT_nil {α : Type} (E : TypeId) (T : α → Value) (w : World) (d : Nat) : MadeT E T [] false w (.returned (.tuple #[.slice (some ⟨w.heap.size, 0, none⟩) 0 0, .bool false])) ((w.alloc (.cells #[] E)).drewN d) :=
  ⟨_, rfl, World.ownsRow_made w #[] 0 (Nat.le_refl _) (Nat.zero_le _) rfl, grown_drewN (World.grownBy_alloc w _ _) d⟩

set_option maxRecDepth 100000 in
set_option maxHeartbeats 4000000 in
theorem sTransformOf_no (A : Option Addr) (n cap : Nat) (xs : List Num) (w : World) (h : Sig w A n xs) (hs : sizeOk xs = false) :
    Calls Try.prog 106 #[.slice A n cap] w (MadeT 34 C [] false w) := by
  have H := Lib.hid h
  have HS := Lib.hid hs
  have HN := fun d => Lib.hid (madeT_nil 34 C w d)
  clear h hs
  go_enter Try.func106, Try.ntmps106
  go_wp2_with fail
  refine (sSizeOk_any A n cap xs _ (H.out.alloc _)).mono ?_
  rw [HS.out]
  rintro e w' ⟨rfl, d, rfl⟩
  go_wp2_with fail
  go_ret2
  exact (HN d).out

set_option maxRecDepth 100000 in
set_option maxHeartbeats 4000000 in
theorem sTransformOf_yes (A : Option Addr) (n cap : Nat) (xs : List Num) (w : World) (h : Sig w A n xs) (hs : sizeOk xs = true) (hc : Calm xs) :
    Calls Try.prog 106 #[.slice A n cap] w (MadeT 34 C (dftL xs) true w) := by
  have hl := h.1
  obtain ⟨_, _, hn1, hn16⟩ := sizeOk_parts hs
  rw [hl] at hn1 hn16
  have q0 : 0 ≤ 16 / (n : Int) ∧ 16 / (n : Int) ≤ 16 := ⟨Int.ediv_nonneg (by omega) (by omega), Int.ediv_le_self _ (by omega)⟩
  have w0 : wrap64 (16 / (n : Int)) = 16 / (n : Int) := IntWalk.wrap64_in _ (by omega)
  have H := Lib.hid h
  have HL := Lib.hid hl
  have HS := Lib.hid hs
  have HC := Lib.hid hc
  have Q0 := Lib.hid q0
  clear h hl hs hc q0
  have hst := fun d => Lib.hid (AppSt.start0 (E := 34) (T := C) (f := dftN xs) (w := w) (d := d))
  go_enter Try.func106, Try.ntmps106
  go_wp2_with fail
  refine (sSizeOk_any A n cap xs _ (H.out.alloc _)).mono ?_
  rw [HS.out]
  rintro e w' ⟨rfl, d, rfl⟩
  go_wp2_with fail
  go_loopw [4, 5] (fun v i wr => ∃ k : Nat, k ≤ n ∧ i = .int .i64 k ∧ AppSt 34 C (dftN xs) w v k wr) (fun _ i _ => n - (intOf i).toNat)
  case atStart => exact ⟨0, Nat.zero_le _, rfl, (hst d).out⟩
  case round =>
    obtain ⟨k, hk, rfl, h⟩ := hrel
    clear hst
    by_cases hlt : k < n
    · have hsig := Lib.hid (H.out.grown h.2)
      have q1 := mul_rng (a := -(k : Int)) (j := 16 / (n : Int)) (B := 16) (J := 16) (by omega) Q0.out (by omega)
      have w1 : wrap64 (-(k : Int) * (16 / (n : Int))) = -(k : Int) * (16 / (n : Int)) := IntWalk.wrap64_in _ (by omega)
      have HR := Lib.hid q1
      clear q1
      go_wp2_with fail
      refine (l2Sum_any A n cap (-(k : Int) * (16 / (n : Int))) xs _ hsig.out HC.out ?_).mono ?_
      · have := HR.out; omega
      rintro e w2 ⟨rfl, hg⟩
      have h2 := h.grow hg
      have hsz := h2.size
      have e1 : dftN xs k = sumK xs (fT (-(k : Int) * (16 / (n : Int)))) xs.length := by unfold dftN; rw [HL.out, Int.mul_comm]
      rw [← e1]
      clear h hg e1 w1
      generalize hS : dftN xs k = S at *
      have HSS := Lib.hid hS
      clear hS
      unfold C
      go_wp2_with (at_builtin; go_must (refine append_row (T := C) _ rfl _ _ 37 34 (.complex .f32 0 0) 8 rfl Try.underlying37 info34 rfl (by decide) w.heap.size u4 k _ S rfl rfl h2.1 rfl (by omega) hsz ?_); intro v' w' ho' hg')
      go_roundw
      case rel => exact ⟨k + 1, by omega, by go_num, h2.step (by rw [HSS.out]; exact ho') (by rw [HSS.out]; exact hg')⟩
      case measure => simp [intOf]; omega
    · have hkn : k = n := by omega
      have hd := h.doneT (n := n) hkn
      have HD := Lib.hid hd
      clear hkn hd
      go_wp2_with fail
      go_ret2
      unfold dftL
      rw [HL.out]
      exact HD.out
end Go.Proofs.Ytcnlgoghnlcndaa
