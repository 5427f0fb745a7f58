/- Closed facts of the row of FnWindowed, one by one, and joined. -/
import Derived.Test.YtcnlgoghnlcndaaFa

namespace Go.Proofs.Ytcnlgoghnlcndaa
namespace FnWindowedP
theorem andI {a b : Bool} (ha : a = true) (hb : b = true) : (a && b) = true := by rw [ha, hb]; rfl
theorem k1 : Rows.fnWindowedRow.wf (OpenSpec.ofChange Rows.fnWindowedSpec) = true := by kernel_rfl
theorem k4 : Try.f13.params.all (Try.prog.readableRec ·) = true := by kernel_rfl
theorem k5 : namedTie Try.prog Rows.fnWindowedRow.named Rows.fnWindowedSpec.vars = true := by kernel_rfl
theorem k6 : (Rows.fnWindowedRow.stops == []) = true := by kernel_rfl
theorem k8 : (Rows.fnWindowedRow.knobs == []) = true := by kernel_rfl
theorem k10 : (Rows.fnWindowedRow.inPlace == Try.prog.inPlace 13) = true := by kernel_rfl
theorem k11 : (Rows.fnWindowedRow.unfollowed == Try.prog.unfollowed 13) = true := by kernel_rfl
theorem k12 : (Rows.fnWindowedRow.recurses == Try.prog.recurses 13) = true := by kernel_rfl
theorem k13 : (Rows.fnWindowedRow.named == Try.prog.varsNamed 13) = true := by kernel_rfl
theorem k14 : (Rows.fnWindowedRow.maps == (Try.f13.params.toList ++ Rows.fnWindowedSpec.plain.varTypes Try.prog).any (Try.prog.mapsRec ·)) = true := by kernel_rfl
theorem k15 : (Rows.fnWindowedRow.ifaces == (Try.f13.params.toList ++ Rows.fnWindowedSpec.plain.varTypes Try.prog).any (Try.prog.ifacesRec ·)) = true := by kernel_rfl
theorem k16 : (Rows.fnWindowedRow.mapsOut == Try.prog.mapsAmong Try.f13.resultTypes.toList) = true := by kernel_rfl
theorem k17 : (Rows.fnWindowedRow.loops == (Try.f13.params.toList ++ Rows.fnWindowedSpec.plain.varTypes Try.prog).any (Try.prog.loopsFrom ·)) = true := by kernel_rfl
theorem k18 : (Rows.fnWindowedRow.wideKeys == (Try.f13.params.toList ++ Rows.fnWindowedSpec.plain.varTypes Try.prog ++ Try.f13.resultTypes.toList).any (Try.prog.wideKeysFrom ·)) = true := by kernel_rfl
theorem k19 : Rows.fnWindowedSpec.vars.all (Try.prog.varReadable ·) = true := by kernel_rfl
theorem k20 : Try.f13.resultTypes.all (fun t => Try.prog.readableRec t && decide (t < Try.prog.types.size)) = true := by kernel_rfl
theorem k21 : (Rows.fnWindowedRow.ifacesOut == Try.f13.resultTypes.toList.any (Try.prog.ifacesRec ·)) = true := by kernel_rfl
theorem k22 : (Rows.fnWindowedRow.loopsOut == Try.f13.resultTypes.toList.any (Try.prog.loopsFrom ·)) = true := by kernel_rfl
theorem k24 : Rows.fnWindowedRow.shortTexts.isNone = true := by kernel_rfl
theorem k29 : (Rows.fnWindowedRow.kinds == (if Rows.fnWindowedRow.domain.isEmpty then [] else Try.f13.params.toList.map fun t => match Try.prog.underlying t with | some (.int k) => some k | _ => none)) = true := by kernel_rfl
theorem k30 : (Rows.fnWindowedRow.pinned == Rows.fnWindowedRow.pinnedBy) = true := by kernel_rfl
theorem k31 : (Rows.fnWindowedRow.veiled == (Try.f13.params.toList ++ Rows.fnWindowedSpec.plain.varTypes Try.prog ++ Try.f13.resultTypes.toList).any (Try.prog.veiledRec ·)) = true := by kernel_rfl
theorem k32 : Rows.fnWindowedRow.veiledFits Try.prog Try.f13.params.toList (Try.f13.params.toList ++ Rows.fnWindowedSpec.plain.varTypes Try.prog ++ Try.f13.resultTypes.toList) = true := by kernel_rfl
set_option maxRecDepth 100000 in
theorem closed : joinedFacts Try.prog 13 Try.f13 Rows.fnWindowedSpec Rows.fnWindowedRow = true :=
  (andI (andI (andI (andI (andI (andI (andI (andI (andI (andI (andI (andI (andI (andI (andI (andI (andI (andI (andI (andI (andI (andI (andI (andI (andI (andI (andI (andI (andI (andI (andI k1 fa_laidOut) fa_mapsRowed) k4) k5) k6) fa_stops) k8) fa_knobs) k10) k11) k12) k13) k14) k15) k16) k17) k18) k19) k20) k21) k22) fa_plainKeys) k24) fa_heard) fb_mayEnter) fa_lifts) fa_make) k29) k30) k31) k32)
theorem own : ownKnob Try.prog.godebug = none := by kernel_rfl
theorem instF : Try.f13.isInstance Try.prog Rows.fnWindowedRow.origin Rows.fnWindowedRow.targs := of_decide_eq_true (by kernel_rfl)
theorem wrapF : Try.f13.isWrapper Try.prog Rows.fnWindowedRow.wrapper Rows.fnWindowedRow.mainSum := by unfold Func.isWrapper; first | (rw [if_pos (by decide +kernel)]; kernel_rfl) | (rw [if_neg (by decide +kernel)]; exact ⟨rfl, rfl⟩)
theorem namedF : Try.prog.funcNamed Rows.fnWindowedRow.func = some 13 := by kernel_rfl
end FnWindowedP
end Go.Proofs.Ytcnlgoghnlcndaa
