/- The walk of the law FnExactRingsFor: true at every input. -/
import Derived.Test.YtcnlgoghnlcndaaLRingsFor
namespace Go.Proofs.Ytcnlgoghnlcndaa
open Go.RowKit Ieee

set_option maxHeartbeats 1000000 in
theorem FnExactRingsFor_walk (m : Int) (fl : Bool) (w : World) :
    Calls Try.prog 3 #[.int .i64 m, .bool fl] w fun e w' => e = .returned (.bool true) ∧ Below w.heap.size w w' := by
  go_enter Try.func3, Try.ntmps3
  go_wp2_with fail
  refine (sRingsFor_any _ _ _).mono ?_
  rintro e w' ⟨rfl, d1, rfl⟩
  go_wp2_with fail
  refine (RingsFor_any _ _ _).mono ?_
  rintro e w' ⟨rfl, d2, rfl⟩
  go_wp2_with fail
  go_ret
  refine ⟨rfl, ?_⟩
  repeat (first | exact Below.refl _ _ | refine below_drewN ?_ _)
end Go.Proofs.Ytcnlgoghnlcndaa
