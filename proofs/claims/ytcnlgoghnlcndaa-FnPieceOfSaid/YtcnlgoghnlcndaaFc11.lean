/- Closed facts of the row of FnPieceOf, one by one, and joined. -/
import Derived.Test.YtcnlgoghnlcndaaFa

namespace Go.Proofs.Ytcnlgoghnlcndaa
namespace FnPieceOfP
theorem andI {a b : Bool} (ha : a = true) (hb : b = true) : (a && b) = true := by rw [ha, hb]; rfl
theorem k1 : Rows.fnPieceOfRow.wf (OpenSpec.ofChange Rows.fnPieceOfSpec) = true := by kernel_rfl
theorem k4 : Try.f11.params.all (Try.prog.readableRec ·) = true := by kernel_rfl
theorem k5 : namedTie Try.prog Rows.fnPieceOfRow.named Rows.fnPieceOfSpec.vars = true := by kernel_rfl
theorem k6 : (Rows.fnPieceOfRow.stops == []) = true := by kernel_rfl
theorem k8 : (Rows.fnPieceOfRow.knobs == []) = true := by kernel_rfl
theorem k10 : (Rows.fnPieceOfRow.inPlace == Try.prog.inPlace 11) = true := by kernel_rfl
theorem k11 : (Rows.fnPieceOfRow.unfollowed == Try.prog.unfollowed 11) = true := by kernel_rfl
theorem k12 : (Rows.fnPieceOfRow.recurses == Try.prog.recurses 11) = true := by kernel_rfl
theorem k13 : (Rows.fnPieceOfRow.named == Try.prog.varsNamed 11) = true := by kernel_rfl
theorem k14 : (Rows.fnPieceOfRow.maps == (Try.f11.params.toList ++ Rows.fnPieceOfSpec.plain.varTypes Try.prog).any (Try.prog.mapsRec ·)) = true := by kernel_rfl
theorem k15 : (Rows.fnPieceOfRow.ifaces == (Try.f11.params.toList ++ Rows.fnPieceOfSpec.plain.varTypes Try.prog).any (Try.prog.ifacesRec ·)) = true := by kernel_rfl
theorem k16 : (Rows.fnPieceOfRow.mapsOut == Try.prog.mapsAmong Try.f11.resultTypes.toList) = true := by kernel_rfl
theorem k17 : (Rows.fnPieceOfRow.loops == (Try.f11.params.toList ++ Rows.fnPieceOfSpec.plain.varTypes Try.prog).any (Try.prog.loopsFrom ·)) = true := by kernel_rfl
theorem k18 : (Rows.fnPieceOfRow.wideKeys == (Try.f11.params.toList ++ Rows.fnPieceOfSpec.plain.varTypes Try.prog ++ Try.f11.resultTypes.toList).any (Try.prog.wideKeysFrom ·)) = true := by kernel_rfl
theorem k19 : Rows.fnPieceOfSpec.vars.all (Try.prog.varReadable ·) = true := by kernel_rfl
theorem k20 : Try.f11.resultTypes.all (fun t => Try.prog.readableRec t && decide (t < Try.prog.types.size)) = true := by kernel_rfl
theorem k21 : (Rows.fnPieceOfRow.ifacesOut == Try.f11.resultTypes.toList.any (Try.prog.ifacesRec ·)) = true := by kernel_rfl
theorem k22 : (Rows.fnPieceOfRow.loopsOut == Try.f11.resultTypes.toList.any (Try.prog.loopsFrom ·)) = true := by kernel_rfl
theorem k24 : Rows.fnPieceOfRow.shortTexts.isNone = true := by kernel_rfl
theorem k29 : (Rows.fnPieceOfRow.kinds == (if Rows.fnPieceOfRow.domain.isEmpty then [] else Try.f11.params.toList.map fun t => match Try.prog.underlying t with | some (.int k) => some k | _ => none)) = true := by kernel_rfl
theorem k30 : (Rows.fnPieceOfRow.pinned == Rows.fnPieceOfRow.pinnedBy) = true := by kernel_rfl
theorem k31 : (Rows.fnPieceOfRow.veiled == (Try.f11.params.toList ++ Rows.fnPieceOfSpec.plain.varTypes Try.prog ++ Try.f11.resultTypes.toList).any (Try.prog.veiledRec ·)) = true := by kernel_rfl
theorem k32 : Rows.fnPieceOfRow.veiledFits Try.prog Try.f11.params.toList (Try.f11.params.toList ++ Rows.fnPieceOfSpec.plain.varTypes Try.prog ++ Try.f11.resultTypes.toList) = true := by kernel_rfl
set_option maxRecDepth 100000 in
theorem closed : joinedFacts Try.prog 11 Try.f11 Rows.fnPieceOfSpec Rows.fnPieceOfRow = true :=
  (andI (andI (andI (andI (andI (andI (andI (andI (andI (andI (andI (andI (andI (andI (andI (andI (andI (andI (andI (andI (andI (andI (andI (andI (andI (andI (andI (andI (andI (andI (andI k1 fa_laidOut) fa_mapsRowed) k4) k5) k6) fa_stops) k8) fa_knobs) k10) k11) k12) k13) k14) k15) k16) k17) k18) k19) k20) k21) k22) fa_plainKeys) k24) fa_heard) fb_mayEnter) fa_lifts) fa_make) k29) k30) k31) k32)
theorem own : ownKnob Try.prog.godebug = none := by kernel_rfl
theorem instF : Try.f11.isInstance Try.prog Rows.fnPieceOfRow.origin Rows.fnPieceOfRow.targs := of_decide_eq_true (by kernel_rfl)
theorem wrapF : Try.f11.isWrapper Try.prog Rows.fnPieceOfRow.wrapper Rows.fnPieceOfRow.mainSum := by unfold Func.isWrapper; first | (rw [if_pos (by decide +kernel)]; kernel_rfl) | (rw [if_neg (by decide +kernel)]; exact ⟨rfl, rfl⟩)
theorem namedF : Try.prog.funcNamed Rows.fnPieceOfRow.func = some 11 := by kernel_rfl
end FnPieceOfP
end Go.Proofs.Ytcnlgoghnlcndaa
