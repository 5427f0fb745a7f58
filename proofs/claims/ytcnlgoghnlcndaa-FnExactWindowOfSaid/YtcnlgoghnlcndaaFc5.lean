/- Closed facts of the row of FnExactWindowOf, one by one, and joined. -/
import Derived.Test.YtcnlgoghnlcndaaFa

namespace Go.Proofs.Ytcnlgoghnlcndaa
namespace FnExactWindowOfP
theorem andI {a b : Bool} (ha : a = true) (hb : b = true) : (a && b) = true := by rw [ha, hb]; rfl
theorem k1 : Rows.fnExactWindowOfRow.wf (OpenSpec.ofChange Rows.fnExactWindowOfSpec) = true := by kernel_rfl
theorem k4 : Try.f5.params.all (Try.prog.readableRec ·) = true := by kernel_rfl
theorem k5 : namedTie Try.prog Rows.fnExactWindowOfRow.named Rows.fnExactWindowOfSpec.vars = true := by kernel_rfl
theorem k6 : (Rows.fnExactWindowOfRow.stops == []) = true := by kernel_rfl
theorem k8 : (Rows.fnExactWindowOfRow.knobs == []) = true := by kernel_rfl
theorem k10 : (Rows.fnExactWindowOfRow.inPlace == Try.prog.inPlace 5) = true := by kernel_rfl
theorem k11 : (Rows.fnExactWindowOfRow.unfollowed == Try.prog.unfollowed 5) = true := by kernel_rfl
theorem k12 : (Rows.fnExactWindowOfRow.recurses == Try.prog.recurses 5) = true := by kernel_rfl
theorem k13 : (Rows.fnExactWindowOfRow.named == Try.prog.varsNamed 5) = true := by kernel_rfl
theorem k14 : (Rows.fnExactWindowOfRow.maps == (Try.f5.params.toList ++ Rows.fnExactWindowOfSpec.plain.varTypes Try.prog).any (Try.prog.mapsRec ·)) = true := by kernel_rfl
theorem k15 : (Rows.fnExactWindowOfRow.ifaces == (Try.f5.params.toList ++ Rows.fnExactWindowOfSpec.plain.varTypes Try.prog).any (Try.prog.ifacesRec ·)) = true := by kernel_rfl
theorem k16 : (Rows.fnExactWindowOfRow.mapsOut == Try.prog.mapsAmong Try.f5.resultTypes.toList) = true := by kernel_rfl
theorem k17 : (Rows.fnExactWindowOfRow.loops == (Try.f5.params.toList ++ Rows.fnExactWindowOfSpec.plain.varTypes Try.prog).any (Try.prog.loopsFrom ·)) = true := by kernel_rfl
theorem k18 : (Rows.fnExactWindowOfRow.wideKeys == (Try.f5.params.toList ++ Rows.fnExactWindowOfSpec.plain.varTypes Try.prog ++ Try.f5.resultTypes.toList).any (Try.prog.wideKeysFrom ·)) = true := by kernel_rfl
theorem k19 : Rows.fnExactWindowOfSpec.vars.all (Try.prog.varReadable ·) = true := by kernel_rfl
theorem k20 : Try.f5.resultTypes.all (fun t => Try.prog.readableRec t && decide (t < Try.prog.types.size)) = true := by kernel_rfl
theorem k21 : (Rows.fnExactWindowOfRow.ifacesOut == Try.f5.resultTypes.toList.any (Try.prog.ifacesRec ·)) = true := by kernel_rfl
theorem k22 : (Rows.fnExactWindowOfRow.loopsOut == Try.f5.resultTypes.toList.any (Try.prog.loopsFrom ·)) = true := by kernel_rfl
theorem k24 : Rows.fnExactWindowOfRow.shortTexts.isNone = true := by kernel_rfl
theorem k29 : (Rows.fnExactWindowOfRow.kinds == (if Rows.fnExactWindowOfRow.domain.isEmpty then [] else Try.f5.params.toList.map fun t => match Try.prog.underlying t with | some (.int k) => some k | _ => none)) = true := by kernel_rfl
theorem k30 : (Rows.fnExactWindowOfRow.pinned == Rows.fnExactWindowOfRow.pinnedBy) = true := by kernel_rfl
theorem k31 : (Rows.fnExactWindowOfRow.veiled == (Try.f5.params.toList ++ Rows.fnExactWindowOfSpec.plain.varTypes Try.prog ++ Try.f5.resultTypes.toList).any (Try.prog.veiledRec ·)) = true := by kernel_rfl
theorem k32 : Rows.fnExactWindowOfRow.veiledFits Try.prog Try.f5.params.toList (Try.f5.params.toList ++ Rows.fnExactWindowOfSpec.plain.varTypes Try.prog ++ Try.f5.resultTypes.toList) = true := by kernel_rfl
set_option maxRecDepth 100000 in
theorem closed : joinedFacts Try.prog 5 Try.f5 Rows.fnExactWindowOfSpec Rows.fnExactWindowOfRow = true :=
  (andI (andI (andI (andI (andI (andI (andI (andI (andI (andI (andI (andI (andI (andI (andI (andI (andI (andI (andI (andI (andI (andI (andI (andI (andI (andI (andI (andI (andI (andI (andI k1 fa_laidOut) fa_mapsRowed) k4) k5) k6) fa_stops) k8) fa_knobs) k10) k11) k12) k13) k14) k15) k16) k17) k18) k19) k20) k21) k22) fa_plainKeys) k24) fa_heard) fb_mayEnter) fa_lifts) fa_make) k29) k30) k31) k32)
theorem own : ownKnob Try.prog.godebug = none := by kernel_rfl
theorem instF : Try.f5.isInstance Try.prog Rows.fnExactWindowOfRow.origin Rows.fnExactWindowOfRow.targs := of_decide_eq_true (by kernel_rfl)
theorem wrapF : Try.f5.isWrapper Try.prog Rows.fnExactWindowOfRow.wrapper Rows.fnExactWindowOfRow.mainSum := by unfold Func.isWrapper; first | (rw [if_pos (by decide +kernel)]; kernel_rfl) | (rw [if_neg (by decide +kernel)]; exact ⟨rfl, rfl⟩)
theorem namedF : Try.prog.funcNamed Rows.fnExactWindowOfRow.func = some 5 := by kernel_rfl
end FnExactWindowOfP
end Go.Proofs.Ytcnlgoghnlcndaa
