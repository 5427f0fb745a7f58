/- Closed facts of the row of FnGreatestOf, one by one, and joined. -/
import Derived.Test.YtcnlgoghnlcndaaFa

namespace Go.Proofs.Ytcnlgoghnlcndaa
namespace FnGreatestOfP
theorem andI {a b : Bool} (ha : a = true) (hb : b = true) : (a && b) = true := by rw [ha, hb]; rfl
theorem k1 : Rows.fnGreatestOfRow.wf (OpenSpec.ofChange Rows.fnGreatestOfSpec) = true := by kernel_rfl
theorem k4 : Try.f12.params.all (Try.prog.readableRec ·) = true := by kernel_rfl
theorem k5 : namedTie Try.prog Rows.fnGreatestOfRow.named Rows.fnGreatestOfSpec.vars = true := by kernel_rfl
theorem k6 : (Rows.fnGreatestOfRow.stops == []) = true := by kernel_rfl
theorem k8 : (Rows.fnGreatestOfRow.knobs == []) = true := by kernel_rfl
theorem k10 : (Rows.fnGreatestOfRow.inPlace == Try.prog.inPlace 12) = true := by kernel_rfl
theorem k11 : (Rows.fnGreatestOfRow.unfollowed == Try.prog.unfollowed 12) = true := by kernel_rfl
theorem k12 : (Rows.fnGreatestOfRow.recurses == Try.prog.recurses 12) = true := by kernel_rfl
theorem k13 : (Rows.fnGreatestOfRow.named == Try.prog.varsNamed 12) = true := by kernel_rfl
theorem k14 : (Rows.fnGreatestOfRow.maps == (Try.f12.params.toList ++ Rows.fnGreatestOfSpec.plain.varTypes Try.prog).any (Try.prog.mapsRec ·)) = true := by kernel_rfl
theorem k15 : (Rows.fnGreatestOfRow.ifaces == (Try.f12.params.toList ++ Rows.fnGreatestOfSpec.plain.varTypes Try.prog).any (Try.prog.ifacesRec ·)) = true := by kernel_rfl
theorem k16 : (Rows.fnGreatestOfRow.mapsOut == Try.prog.mapsAmong Try.f12.resultTypes.toList) = true := by kernel_rfl
theorem k17 : (Rows.fnGreatestOfRow.loops == (Try.f12.params.toList ++ Rows.fnGreatestOfSpec.plain.varTypes Try.prog).any (Try.prog.loopsFrom ·)) = true := by kernel_rfl
theorem k18 : (Rows.fnGreatestOfRow.wideKeys == (Try.f12.params.toList ++ Rows.fnGreatestOfSpec.plain.varTypes Try.prog ++ Try.f12.resultTypes.toList).any (Try.prog.wideKeysFrom ·)) = true := by kernel_rfl
theorem k19 : Rows.fnGreatestOfSpec.vars.all (Try.prog.varReadable ·) = true := by kernel_rfl
theorem k20 : Try.f12.resultTypes.all (fun t => Try.prog.readableRec t && decide (t < Try.prog.types.size)) = true := by kernel_rfl
theorem k21 : (Rows.fnGreatestOfRow.ifacesOut == Try.f12.resultTypes.toList.any (Try.prog.ifacesRec ·)) = true := by kernel_rfl
theorem k22 : (Rows.fnGreatestOfRow.loopsOut == Try.f12.resultTypes.toList.any (Try.prog.loopsFrom ·)) = true := by kernel_rfl
theorem k24 : Rows.fnGreatestOfRow.shortTexts.isNone = true := by kernel_rfl
theorem k29 : (Rows.fnGreatestOfRow.kinds == (if Rows.fnGreatestOfRow.domain.isEmpty then [] else Try.f12.params.toList.map fun t => match Try.prog.underlying t with | some (.int k) => some k | _ => none)) = true := by kernel_rfl
theorem k30 : (Rows.fnGreatestOfRow.pinned == Rows.fnGreatestOfRow.pinnedBy) = true := by kernel_rfl
theorem k31 : (Rows.fnGreatestOfRow.veiled == (Try.f12.params.toList ++ Rows.fnGreatestOfSpec.plain.varTypes Try.prog ++ Try.f12.resultTypes.toList).any (Try.prog.veiledRec ·)) = true := by kernel_rfl
theorem k32 : Rows.fnGreatestOfRow.veiledFits Try.prog Try.f12.params.toList (Try.f12.params.toList ++ Rows.fnGreatestOfSpec.plain.varTypes Try.prog ++ Try.f12.resultTypes.toList) = true := by kernel_rfl
set_option maxRecDepth 100000 in
theorem closed : joinedFacts Try.prog 12 Try.f12 Rows.fnGreatestOfSpec Rows.fnGreatestOfRow = true :=
  (andI (andI (andI (andI (andI (andI (andI (andI (andI (andI (andI (andI (andI (andI (andI (andI (andI (andI (andI (andI (andI (andI (andI (andI (andI (andI (andI (andI (andI (andI (andI k1 fa_laidOut) fa_mapsRowed) k4) k5) k6) fa_stops) k8) fa_knobs) k10) k11) k12) k13) k14) k15) k16) k17) k18) k19) k20) k21) k22) fa_plainKeys) k24) fa_heard) fb_mayEnter) fa_lifts) fa_make) k29) k30) k31) k32)
theorem own : ownKnob Try.prog.godebug = none := by kernel_rfl
theorem instF : Try.f12.isInstance Try.prog Rows.fnGreatestOfRow.origin Rows.fnGreatestOfRow.targs := of_decide_eq_true (by kernel_rfl)
theorem wrapF : Try.f12.isWrapper Try.prog Rows.fnGreatestOfRow.wrapper Rows.fnGreatestOfRow.mainSum := by unfold Func.isWrapper; first | (rw [if_pos (by decide +kernel)]; kernel_rfl) | (rw [if_neg (by decide +kernel)]; exact ⟨rfl, rfl⟩)
theorem namedF : Try.prog.funcNamed Rows.fnGreatestOfRow.func = some 12 := by kernel_rfl
end FnGreatestOfP
end Go.Proofs.Ytcnlgoghnlcndaa
