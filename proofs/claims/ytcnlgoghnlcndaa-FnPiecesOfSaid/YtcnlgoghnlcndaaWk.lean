/- Walks: wholeSignal. -/
import Derived.Test.YtcnlgoghnlcndaaWi
import Derived.Test.YtcnlgoghnlcndaaW8
namespace Go.Proofs.Ytcnlgoghnlcndaa
open Go.RowKit Ieee

def AllWhole (xs : List Num) (most : Int) : Prop := ∀ k, k < xs.length → Whole (xs.getD k (0, 0)) most
def WSigRes (xs : List Num) (most : Int) (w : World) (e : Ending) (w' : World) : Prop := ∃ b : Bool, e = .returned (.bool b) ∧ (b = true → AllWhole xs most) ∧ ∃ d, w.drewN d = w'

set_option maxHeartbeats 4000000 in
theorem wholeSignal_any (A : Option Addr) (n cap : Nat) (most : Int) (xs : List Num) (w : World) (h : Sig w A n xs) (h1 : 0 ≤ most) (h2 : most ≤ 1000000) :
    Calls Try.prog 59 #[.slice A n cap, .int .i64 most] w (WSigRes xs most w) := by
  have hn := h.2.1
  have HL := Lib.hid h.1
  have HX := Lib.hid h.2.2
  clear h
  go_enter Try.func59, Try.ntmps59
  go_wp2_with fail
  go_loopw [5] (fun i wr => ∃ k : Nat, k ≤ n ∧ i = .int .i64 k ∧ Hid (∀ j, j < k → Whole (xs.getD j (0, 0)) most) ∧ ∃ d, w.drewN d = wr) (fun i _ => n - (intOf i).toNat)
  case atStart => exact ⟨0, Nat.zero_le _, rfl, (fun j hj => absurd hj (by omega)), 0, rfl⟩
  case round =>
    obtain ⟨k, hk, rfl, hall, d, rfl⟩ := hrel
    by_cases hlt : k < n
    · obtain ⟨b, o, rfl, hbs, hcell⟩ := HX.out k hlt
      obtain ⟨p, q, hpq⟩ : ∃ p q, xs.getD k (0, 0) = (p, q) := ⟨_, _, rfl⟩
      rw [hpq] at hcell
      unfold C at hcell
      simp only at hcell
      have HP := Lib.hid hpq
      clear hpq
      go_wp2_with fail
      refine (whole_any _ _ _ _ h1 h2).mono ?_
      rintro e w' ⟨c, rfl, hw, d2, rfl⟩
      have HW := Lib.hid hw
      clear hw
      cases c
      · go_wp2_with fail
        go_ret
        exact ⟨false, rfl, (fun h => by cases h), d + d2, by first | rfl | rw [World.drewN_drewN]⟩
      · go_wp2_with fail
        go_roundw
        case rel =>
          refine ⟨k + 1, by omega, by go_num, ?_, d + d2, by first | rfl | rw [World.drewN_drewN]⟩
          intro j hj
          by_cases e : j = k
          · subst e; rw [HP.out]; exact HW.out trivial
          · exact hall.out j (by omega)
        case measure => simp [intOf]; omega
    · have hkn : k = n := by omega
      have HK := Lib.hid hkn
      clear hkn
      go_wp2_with fail
      go_ret
      exact ⟨true, rfl, (fun _ j hj => hall.out j (by have := HK.out; have := HL.out; omega)), d, rfl⟩
end Go.Proofs.Ytcnlgoghnlcndaa
