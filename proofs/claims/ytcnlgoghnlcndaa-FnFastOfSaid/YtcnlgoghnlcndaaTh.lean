/- Walk: FastOf (spec), whole. -/
import Derived.Test.YtcnlgoghnlcndaaTf
namespace Go.Proofs.Ytcnlgoghnlcndaa
open Go.RowKit Ieee

theorem l3Fast_yes : ∀ m, m ≤ 4 → ∀ (A : Option Addr) (cap : Nat) (xs : List Num) (w : World), Sig w A (2 ^ m) xs → CalmF m (atX xs) →
    Calls Try.prog 119 #[.slice A (2 ^ m : Nat) cap] w (MadeT 34 C (faL m (atX xs)) true w) := by
  intro m
  induction m with
  | zero =>
    intro _ A cap xs w h _
    exact l3Fast_one A cap xs w h
  | succ m ih =>
    intro hm A cap xs w h hc
    have e : 2 ^ (m + 1) = 2 * 2 ^ m := by rw [Nat.pow_succ, Nat.mul_comm]
    rw [e] at h ⊢
    exact l3Fast_step m (2 ^ m) rfl (by omega) A cap xs w h hc (fun A cap xs w => ih (by omega) A cap xs w)

set_option maxRecDepth 100000 in
set_option maxHeartbeats 4000000 in
theorem sFastOf_yes (m n : Nat) (hn : 2 ^ m = n) (hm : m ≤ 4) (A : Option Addr) (cap : Nat) (xs : List Num) (w : World) (h : Sig w A n xs) (hs : sizeOk xs = true) (hc : CalmF m (atX xs)) :
    Calls Try.prog 78 #[.slice A n cap] w (MadeT 34 C (faL m (atX xs)) true w) := by
  have hn16 : n ≤ 16 := by rw [← hn]; exact pow_le16 hm
  have LF := Lib.hid (fun (W : World) (hW : Sig W A n xs) => (by subst hn; exact l3Fast_yes m hm A cap xs W hW hc : Calls Try.prog 119 #[.slice A n cap] W (MadeT 34 C (faL m (atX xs)) true W)))
  have HL : Hid ((faL m (atX xs)).length = n) := Lib.hid ((faL_length m (atX xs)).trans hn)
  generalize faL m (atX xs) = ys at *
  have H := Lib.hid h
  have HS := Lib.hid hs
  clear h hs hc
  go_enter Try.func78, Try.ntmps78
  go_wp2_with fail
  refine (sSizeOk_any A n cap xs _ H.out).mono ?_
  rw [HS.out]
  rintro e w' ⟨rfl, d, rfl⟩
  go_wp2_with fail
  refine (LF.out _ (H.out.drewN d)).mono ?_
  rintro e w2 ⟨v, rfl, ho, hg⟩
  have HO := Lib.hid ho
  have HG := Lib.hid hg
  clear ho hg
  go_wp2_with fail
  go_ret2
  exact ⟨v, rfl, HO.out, ⟨HG.out.os, HG.out.tape, HG.out.output, HG.out.size, HG.out.block⟩⟩

set_option maxRecDepth 100000 in
set_option maxHeartbeats 4000000 in
theorem sFastOf_no (A : Option Addr) (n cap : Nat) (xs : List Num) (w : World) (h : Sig w A n xs) (hs : sizeOk xs = false) :
    Calls Try.prog 78 #[.slice A n cap] w (MadeT 34 C [] false w) := by
  have H := Lib.hid h
  have HS := Lib.hid hs
  have HN := fun d => Lib.hid (madeT_nil 34 C w d)
  clear h hs
  go_enter Try.func78, Try.ntmps78
  go_wp2_with fail
  refine (sSizeOk_any A n cap xs _ H.out).mono ?_
  rw [HS.out]
  rintro e w' ⟨rfl, d, rfl⟩
  go_wp2_with fail
  go_ret2
  exact (HN d).out
end Go.Proofs.Ytcnlgoghnlcndaa
