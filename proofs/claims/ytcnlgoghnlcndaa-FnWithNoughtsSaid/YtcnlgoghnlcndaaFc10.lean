/- Closed facts of the row of FnWithNoughts, one by one, and joined. -/
import Derived.Test.YtcnlgoghnlcndaaFa

namespace Go.Proofs.Ytcnlgoghnlcndaa
namespace FnWithNoughtsP
theorem andI {a b : Bool} (ha : a = true) (hb : b = true) : (a && b) = true := by rw [ha, hb]; rfl
theorem k1 : Rows.fnWithNoughtsRow.wf (OpenSpec.ofChange Rows.fnWithNoughtsSpec) = true := by kernel_rfl
theorem k4 : Try.f10.params.all (Try.prog.readableRec ·) = true := by kernel_rfl
theorem k5 : namedTie Try.prog Rows.fnWithNoughtsRow.named Rows.fnWithNoughtsSpec.vars = true := by kernel_rfl
theorem k6 : (Rows.fnWithNoughtsRow.stops == []) = true := by kernel_rfl
theorem k8 : (Rows.fnWithNoughtsRow.knobs == []) = true := by kernel_rfl
theorem k10 : (Rows.fnWithNoughtsRow.inPlace == Try.prog.inPlace 10) = true := by kernel_rfl
theorem k11 : (Rows.fnWithNoughtsRow.unfollowed == Try.prog.unfollowed 10) = true := by kernel_rfl
theorem k12 : (Rows.fnWithNoughtsRow.recurses == Try.prog.recurses 10) = true := by kernel_rfl
theorem k13 : (Rows.fnWithNoughtsRow.named == Try.prog.varsNamed 10) = true := by kernel_rfl
theorem k14 : (Rows.fnWithNoughtsRow.maps == (Try.f10.params.toList ++ Rows.fnWithNoughtsSpec.plain.varTypes Try.prog).any (Try.prog.mapsRec ·)) = true := by kernel_rfl
theorem k15 : (Rows.fnWithNoughtsRow.ifaces == (Try.f10.params.toList ++ Rows.fnWithNoughtsSpec.plain.varTypes Try.prog).any (Try.prog.ifacesRec ·)) = true := by kernel_rfl
theorem k16 : (Rows.fnWithNoughtsRow.mapsOut == Try.prog.mapsAmong Try.f10.resultTypes.toList) = true := by kernel_rfl
theorem k17 : (Rows.fnWithNoughtsRow.loops == (Try.f10.params.toList ++ Rows.fnWithNoughtsSpec.plain.varTypes Try.prog).any (Try.prog.loopsFrom ·)) = true := by kernel_rfl
theorem k18 : (Rows.fnWithNoughtsRow.wideKeys == (Try.f10.params.toList ++ Rows.fnWithNoughtsSpec.plain.varTypes Try.prog ++ Try.f10.resultTypes.toList).any (Try.prog.wideKeysFrom ·)) = true := by kernel_rfl
theorem k19 : Rows.fnWithNoughtsSpec.vars.all (Try.prog.varReadable ·) = true := by kernel_rfl
theorem k20 : Try.f10.resultTypes.all (fun t => Try.prog.readableRec t && decide (t < Try.prog.types.size)) = true := by kernel_rfl
theorem k21 : (Rows.fnWithNoughtsRow.ifacesOut == Try.f10.resultTypes.toList.any (Try.prog.ifacesRec ·)) = true := by kernel_rfl
theorem k22 : (Rows.fnWithNoughtsRow.loopsOut == Try.f10.resultTypes.toList.any (Try.prog.loopsFrom ·)) = true := by kernel_rfl
theorem k24 : Rows.fnWithNoughtsRow.shortTexts.isNone = true := by kernel_rfl
theorem k29 : (Rows.fnWithNoughtsRow.kinds == (if Rows.fnWithNoughtsRow.domain.isEmpty then [] else Try.f10.params.toList.map fun t => match Try.prog.underlying t with | some (.int k) => some k | _ => none)) = true := by kernel_rfl
theorem k30 : (Rows.fnWithNoughtsRow.pinned == Rows.fnWithNoughtsRow.pinnedBy) = true := by kernel_rfl
theorem k31 : (Rows.fnWithNoughtsRow.veiled == (Try.f10.params.toList ++ Rows.fnWithNoughtsSpec.plain.varTypes Try.prog ++ Try.f10.resultTypes.toList).any (Try.prog.veiledRec ·)) = true := by kernel_rfl
theorem k32 : Rows.fnWithNoughtsRow.veiledFits Try.prog Try.f10.params.toList (Try.f10.params.toList ++ Rows.fnWithNoughtsSpec.plain.varTypes Try.prog ++ Try.f10.resultTypes.toList) = true := by kernel_rfl
set_option maxRecDepth 100000 in
theorem closed : joinedFacts Try.prog 10 Try.f10 Rows.fnWithNoughtsSpec Rows.fnWithNoughtsRow = true :=
  (andI (andI (andI (andI (andI (andI (andI (andI (andI (andI (andI (andI (andI (andI (andI (andI (andI (andI (andI (andI (andI (andI (andI (andI (andI (andI (andI (andI (andI (andI (andI k1 fa_laidOut) fa_mapsRowed) k4) k5) k6) fa_stops) k8) fa_knobs) k10) k11) k12) k13) k14) k15) k16) k17) k18) k19) k20) k21) k22) fa_plainKeys) k24) fa_heard) fb_mayEnter) fa_lifts) fa_make) k29) k30) k31) k32)
theorem own : ownKnob Try.prog.godebug = none := by kernel_rfl
theorem instF : Try.f10.isInstance Try.prog Rows.fnWithNoughtsRow.origin Rows.fnWithNoughtsRow.targs := of_decide_eq_true (by kernel_rfl)
theorem wrapF : Try.f10.isWrapper Try.prog Rows.fnWithNoughtsRow.wrapper Rows.fnWithNoughtsRow.mainSum := by unfold Func.isWrapper; first | (rw [if_pos (by decide +kernel)]; kernel_rfl) | (rw [if_neg (by decide +kernel)]; exact ⟨rfl, rfl⟩)
theorem namedF : Try.prog.funcNamed Rows.fnWithNoughtsRow.func = some 10 := by kernel_rfl
end FnWithNoughtsP
end Go.Proofs.Ytcnlgoghnlcndaa
