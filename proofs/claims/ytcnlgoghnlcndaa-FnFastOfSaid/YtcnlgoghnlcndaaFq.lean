/- Walk: FastOf (impl), whole. -/
import Derived.Test.YtcnlgoghnlcndaaFo
namespace Go.Proofs.Ytcnlgoghnlcndaa
open Go.RowKit Ieee

theorem FastOf_yes : ∀ m, m ≤ 4 → ∀ (A : Option Addr) (cap : Nat) (xs : List Num) (w : World), Sig w A (2 ^ m) xs → sizeOk xs = true → CalmF m (atX xs) →
    Calls Try.prog 66 #[.slice A (2 ^ m : Nat) cap] w (MadeT 34 C (faL m (atX xs)) true w) := by
  intro m
  induction m with
  | zero =>
    intro _ A cap xs w h hs _
    exact FastOf_one A cap xs w h hs
  | succ m ih =>
    intro hm A cap xs w h hs hc
    have e : 2 ^ (m + 1) = 2 * 2 ^ m := by rw [Nat.pow_succ, Nat.mul_comm]
    rw [e] at h ⊢
    exact FastOf_step m (2 ^ m) rfl (by omega) A cap xs w h hs hc (fun A cap xs w => ih (by omega) A cap xs w)

set_option maxRecDepth 100000 in
set_option maxHeartbeats 2000000 in
theorem FastOf_no (A : Option Addr) (n cap : Nat) (xs : List Num) (w : World) (h : Sig w A n xs) (hs : sizeOk xs = false) :
    Calls Try.prog 66 #[.slice A n cap] w fun e w' => e = .returned (.tuple #[.slice none 0 0, .bool false]) ∧ ∃ d, w.drewN d = w' := by
  have H := Lib.hid h
  have HS := Lib.hid hs
  clear h hs
  go_enter Try.func66, Try.ntmps66
  go_wp2_with fail
  refine (SizeOk_any _ _ _ _ _ H.out).mono ?_
  rw [HS.out]
  rintro e w' ⟨rfl, d, rfl⟩
  go_wp2_with fail
  go_ret2
  exact ⟨rfl, _, rfl⟩
end Go.Proofs.Ytcnlgoghnlcndaa
