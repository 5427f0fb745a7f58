/- Closed facts of the row of FnFromPairs, one by one, and joined. -/
import Derived.Test.YtcnlgoghnlcndaaFa

namespace Go.Proofs.Ytcnlgoghnlcndaa
namespace FnFromPairsP
theorem andI {a b : Bool} (ha : a = true) (hb : b = true) : (a && b) = true := by rw [ha, hb]; rfl
theorem k1 : Rows.fnFromPairsRow.wf (OpenSpec.ofChange Rows.fnFromPairsSpec) = true := by kernel_rfl
theorem k4 : Try.f15.params.all (Try.prog.readableRec ·) = true := by kernel_rfl
theorem k5 : namedTie Try.prog Rows.fnFromPairsRow.named Rows.fnFromPairsSpec.vars = true := by kernel_rfl
theorem k6 : (Rows.fnFromPairsRow.stops == []) = true := by kernel_rfl
theorem k8 : (Rows.fnFromPairsRow.knobs == []) = true := by kernel_rfl
theorem k10 : (Rows.fnFromPairsRow.inPlace == Try.prog.inPlace 15) = true := by kernel_rfl
theorem k11 : (Rows.fnFromPairsRow.unfollowed == Try.prog.unfollowed 15) = true := by kernel_rfl
theorem k12 : (Rows.fnFromPairsRow.recurses == Try.prog.recurses 15) = true := by kernel_rfl
theorem k13 : (Rows.fnFromPairsRow.named == Try.prog.varsNamed 15) = true := by kernel_rfl
theorem k14 : (Rows.fnFromPairsRow.maps == (Try.f15.params.toList ++ Rows.fnFromPairsSpec.plain.varTypes Try.prog).any (Try.prog.mapsRec ·)) = true := by kernel_rfl
theorem k15 : (Rows.fnFromPairsRow.ifaces == (Try.f15.params.toList ++ Rows.fnFromPairsSpec.plain.varTypes Try.prog).any (Try.prog.ifacesRec ·)) = true := by kernel_rfl
theorem k16 : (Rows.fnFromPairsRow.mapsOut == Try.prog.mapsAmong Try.f15.resultTypes.toList) = true := by kernel_rfl
theorem k17 : (Rows.fnFromPairsRow.loops == (Try.f15.params.toList ++ Rows.fnFromPairsSpec.plain.varTypes Try.prog).any (Try.prog.loopsFrom ·)) = true := by kernel_rfl
theorem k18 : (Rows.fnFromPairsRow.wideKeys == (Try.f15.params.toList ++ Rows.fnFromPairsSpec.plain.varTypes Try.prog ++ Try.f15.resultTypes.toList).any (Try.prog.wideKeysFrom ·)) = true := by kernel_rfl
theorem k19 : Rows.fnFromPairsSpec.vars.all (Try.prog.varReadable ·) = true := by kernel_rfl
theorem k20 : Try.f15.resultTypes.all (fun t => Try.prog.readableRec t && decide (t < Try.prog.types.size)) = true := by kernel_rfl
theorem k21 : (Rows.fnFromPairsRow.ifacesOut == Try.f15.resultTypes.toList.any (Try.prog.ifacesRec ·)) = true := by kernel_rfl
theorem k22 : (Rows.fnFromPairsRow.loopsOut == Try.f15.resultTypes.toList.any (Try.prog.loopsFrom ·)) = true := by kernel_rfl
theorem k24 : Rows.fnFromPairsRow.shortTexts.isNone = true := by kernel_rfl
theorem k29 : (Rows.fnFromPairsRow.kinds == (if Rows.fnFromPairsRow.domain.isEmpty then [] else Try.f15.params.toList.map fun t => match Try.prog.underlying t with | some (.int k) => some k | _ => none)) = true := by kernel_rfl
theorem k30 : (Rows.fnFromPairsRow.pinned == Rows.fnFromPairsRow.pinnedBy) = true := by kernel_rfl
theorem k31 : (Rows.fnFromPairsRow.veiled == (Try.f15.params.toList ++ Rows.fnFromPairsSpec.plain.varTypes Try.prog ++ Try.f15.resultTypes.toList).any (Try.prog.veiledRec ·)) = true := by kernel_rfl
theorem k32 : Rows.fnFromPairsRow.veiledFits Try.prog Try.f15.params.toList (Try.f15.params.toList ++ Rows.fnFromPairsSpec.plain.varTypes Try.prog ++ Try.f15.resultTypes.toList) = true := by kernel_rfl
set_option maxRecDepth 100000 in
theorem closed : joinedFacts Try.prog 15 Try.f15 Rows.fnFromPairsSpec Rows.fnFromPairsRow = true :=
  (andI (andI (andI (andI (andI (andI (andI (andI (andI (andI (andI (andI (andI (andI (andI (andI (andI (andI (andI (andI (andI (andI (andI (andI (andI (andI (andI (andI (andI (andI (andI k1 fa_laidOut) fa_mapsRowed) k4) k5) k6) fa_stops) k8) fa_knobs) k10) k11) k12) k13) k14) k15) k16) k17) k18) k19) k20) k21) k22) fa_plainKeys) k24) fa_heard) fb_mayEnter) fa_lifts) fa_make) k29) k30) k31) k32)
theorem own : ownKnob Try.prog.godebug = none := by kernel_rfl
theorem instF : Try.f15.isInstance Try.prog Rows.fnFromPairsRow.origin Rows.fnFromPairsRow.targs := of_decide_eq_true (by kernel_rfl)
theorem wrapF : Try.f15.isWrapper Try.prog Rows.fnFromPairsRow.wrapper Rows.fnFromPairsRow.mainSum := by unfold Func.isWrapper; first | (rw [if_pos (by decide +kernel)]; kernel_rfl) | (rw [if_neg (by decide +kernel)]; exact ⟨rfl, rfl⟩)
theorem namedF : Try.prog.funcNamed Rows.fnFromPairsRow.func = some 15 := by kernel_rfl
end FnFromPairsP
end Go.Proofs.Ytcnlgoghnlcndaa
