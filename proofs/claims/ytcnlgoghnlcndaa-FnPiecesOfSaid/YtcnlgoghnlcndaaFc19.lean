/- Closed facts of the row of FnPiecesOf, one by one, and joined. -/
import Derived.Test.YtcnlgoghnlcndaaFa

namespace Go.Proofs.Ytcnlgoghnlcndaa
namespace FnPiecesOfP
theorem andI {a b : Bool} (ha : a = true) (hb : b = true) : (a && b) = true := by rw [ha, hb]; rfl
theorem k1 : Rows.fnPiecesOfRow.wf (OpenSpec.ofChange Rows.fnPiecesOfSpec) = true := by kernel_rfl
theorem k4 : Try.f19.params.all (Try.prog.readableRec ·) = true := by kernel_rfl
theorem k5 : namedTie Try.prog Rows.fnPiecesOfRow.named Rows.fnPiecesOfSpec.vars = true := by kernel_rfl
theorem k6 : (Rows.fnPiecesOfRow.stops == []) = true := by kernel_rfl
theorem k8 : (Rows.fnPiecesOfRow.knobs == []) = true := by kernel_rfl
theorem k10 : (Rows.fnPiecesOfRow.inPlace == Try.prog.inPlace 19) = true := by kernel_rfl
theorem k11 : (Rows.fnPiecesOfRow.unfollowed == Try.prog.unfollowed 19) = true := by kernel_rfl
theorem k12 : (Rows.fnPiecesOfRow.recurses == Try.prog.recurses 19) = true := by kernel_rfl
theorem k13 : (Rows.fnPiecesOfRow.named == Try.prog.varsNamed 19) = true := by kernel_rfl
theorem k14 : (Rows.fnPiecesOfRow.maps == (Try.f19.params.toList ++ Rows.fnPiecesOfSpec.plain.varTypes Try.prog).any (Try.prog.mapsRec ·)) = true := by kernel_rfl
theorem k15 : (Rows.fnPiecesOfRow.ifaces == (Try.f19.params.toList ++ Rows.fnPiecesOfSpec.plain.varTypes Try.prog).any (Try.prog.ifacesRec ·)) = true := by kernel_rfl
theorem k16 : (Rows.fnPiecesOfRow.mapsOut == Try.prog.mapsAmong Try.f19.resultTypes.toList) = true := by kernel_rfl
theorem k17 : (Rows.fnPiecesOfRow.loops == (Try.f19.params.toList ++ Rows.fnPiecesOfSpec.plain.varTypes Try.prog).any (Try.prog.loopsFrom ·)) = true := by kernel_rfl
theorem k18 : (Rows.fnPiecesOfRow.wideKeys == (Try.f19.params.toList ++ Rows.fnPiecesOfSpec.plain.varTypes Try.prog ++ Try.f19.resultTypes.toList).any (Try.prog.wideKeysFrom ·)) = true := by kernel_rfl
theorem k19 : Rows.fnPiecesOfSpec.vars.all (Try.prog.varReadable ·) = true := by kernel_rfl
theorem k20 : Try.f19.resultTypes.all (fun t => Try.prog.readableRec t && decide (t < Try.prog.types.size)) = true := by kernel_rfl
theorem k21 : (Rows.fnPiecesOfRow.ifacesOut == Try.f19.resultTypes.toList.any (Try.prog.ifacesRec ·)) = true := by kernel_rfl
theorem k22 : (Rows.fnPiecesOfRow.loopsOut == Try.f19.resultTypes.toList.any (Try.prog.loopsFrom ·)) = true := by kernel_rfl
theorem k24 : Rows.fnPiecesOfRow.shortTexts.isNone = true := by kernel_rfl
theorem k29 : (Rows.fnPiecesOfRow.kinds == (if Rows.fnPiecesOfRow.domain.isEmpty then [] else Try.f19.params.toList.map fun t => match Try.prog.underlying t with | some (.int k) => some k | _ => none)) = true := by kernel_rfl
theorem k30 : (Rows.fnPiecesOfRow.pinned == Rows.fnPiecesOfRow.pinnedBy) = true := by kernel_rfl
theorem k31 : (Rows.fnPiecesOfRow.veiled == (Try.f19.params.toList ++ Rows.fnPiecesOfSpec.plain.varTypes Try.prog ++ Try.f19.resultTypes.toList).any (Try.prog.veiledRec ·)) = true := by kernel_rfl
theorem k32 : Rows.fnPiecesOfRow.veiledFits Try.prog Try.f19.params.toList (Try.f19.params.toList ++ Rows.fnPiecesOfSpec.plain.varTypes Try.prog ++ Try.f19.resultTypes.toList) = true := by kernel_rfl
set_option maxRecDepth 100000 in
theorem closed : joinedFacts Try.prog 19 Try.f19 Rows.fnPiecesOfSpec Rows.fnPiecesOfRow = true :=
  (andI (andI (andI (andI (andI (andI (andI (andI (andI (andI (andI (andI (andI (andI (andI (andI (andI (andI (andI (andI (andI (andI (andI (andI (andI (andI (andI (andI (andI (andI (andI k1 fa_laidOut) fa_mapsRowed) k4) k5) k6) fa_stops) k8) fa_knobs) k10) k11) k12) k13) k14) k15) k16) k17) k18) k19) k20) k21) k22) fa_plainKeys) k24) fa_heard) fb_mayEnter) fa_lifts) fa_make) k29) k30) k31) k32)
theorem own : ownKnob Try.prog.godebug = none := by kernel_rfl
theorem instF : Try.f19.isInstance Try.prog Rows.fnPiecesOfRow.origin Rows.fnPiecesOfRow.targs := of_decide_eq_true (by kernel_rfl)
theorem wrapF : Try.f19.isWrapper Try.prog Rows.fnPiecesOfRow.wrapper Rows.fnPiecesOfRow.mainSum := by unfold Func.isWrapper; first | (rw [if_pos (by decide +kernel)]; kernel_rfl) | (rw [if_neg (by decide +kernel)]; exact ⟨rfl, rfl⟩)
theorem namedF : Try.prog.funcNamed Rows.fnPiecesOfRow.func = some 19 := by kernel_rfl
end FnPiecesOfP
end Go.Proofs.Ytcnlgoghnlcndaa
