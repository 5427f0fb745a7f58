/- Closed facts of the row of FnTogether, one by one, and joined. -/
import Derived.Test.YtcnlgoghnlcndaaFa

namespace Go.Proofs.Ytcnlgoghnlcndaa
namespace FnTogetherP
theorem andI {a b : Bool} (ha : a = true) (hb : b = true) : (a && b) = true := by rw [ha, hb]; rfl
theorem k1 : Rows.fnTogetherRow.wf (OpenSpec.ofChange Rows.fnTogetherSpec) = true := by kernel_rfl
theorem k4 : Try.f17.params.all (Try.prog.readableRec ·) = true := by kernel_rfl
theorem k5 : namedTie Try.prog Rows.fnTogetherRow.named Rows.fnTogetherSpec.vars = true := by kernel_rfl
theorem k6 : (Rows.fnTogetherRow.stops == []) = true := by kernel_rfl
theorem k8 : (Rows.fnTogetherRow.knobs == []) = true := by kernel_rfl
theorem k10 : (Rows.fnTogetherRow.inPlace == Try.prog.inPlace 17) = true := by kernel_rfl
theorem k11 : (Rows.fnTogetherRow.unfollowed == Try.prog.unfollowed 17) = true := by kernel_rfl
theorem k12 : (Rows.fnTogetherRow.recurses == Try.prog.recurses 17) = true := by kernel_rfl
theorem k13 : (Rows.fnTogetherRow.named == Try.prog.varsNamed 17) = true := by kernel_rfl
theorem k14 : (Rows.fnTogetherRow.maps == (Try.f17.params.toList ++ Rows.fnTogetherSpec.plain.varTypes Try.prog).any (Try.prog.mapsRec ·)) = true := by kernel_rfl
theorem k15 : (Rows.fnTogetherRow.ifaces == (Try.f17.params.toList ++ Rows.fnTogetherSpec.plain.varTypes Try.prog).any (Try.prog.ifacesRec ·)) = true := by kernel_rfl
theorem k16 : (Rows.fnTogetherRow.mapsOut == Try.prog.mapsAmong Try.f17.resultTypes.toList) = true := by kernel_rfl
theorem k17 : (Rows.fnTogetherRow.loops == (Try.f17.params.toList ++ Rows.fnTogetherSpec.plain.varTypes Try.prog).any (Try.prog.loopsFrom ·)) = true := by kernel_rfl
theorem k18 : (Rows.fnTogetherRow.wideKeys == (Try.f17.params.toList ++ Rows.fnTogetherSpec.plain.varTypes Try.prog ++ Try.f17.resultTypes.toList).any (Try.prog.wideKeysFrom ·)) = true := by kernel_rfl
theorem k19 : Rows.fnTogetherSpec.vars.all (Try.prog.varReadable ·) = true := by kernel_rfl
theorem k20 : Try.f17.resultTypes.all (fun t => Try.prog.readableRec t && decide (t < Try.prog.types.size)) = true := by kernel_rfl
theorem k21 : (Rows.fnTogetherRow.ifacesOut == Try.f17.resultTypes.toList.any (Try.prog.ifacesRec ·)) = true := by kernel_rfl
theorem k22 : (Rows.fnTogetherRow.loopsOut == Try.f17.resultTypes.toList.any (Try.prog.loopsFrom ·)) = true := by kernel_rfl
theorem k24 : Rows.fnTogetherRow.shortTexts.isNone = true := by kernel_rfl
theorem k29 : (Rows.fnTogetherRow.kinds == (if Rows.fnTogetherRow.domain.isEmpty then [] else Try.f17.params.toList.map fun t => match Try.prog.underlying t with | some (.int k) => some k | _ => none)) = true := by kernel_rfl
theorem k30 : (Rows.fnTogetherRow.pinned == Rows.fnTogetherRow.pinnedBy) = true := by kernel_rfl
theorem k31 : (Rows.fnTogetherRow.veiled == (Try.f17.params.toList ++ Rows.fnTogetherSpec.plain.varTypes Try.prog ++ Try.f17.resultTypes.toList).any (Try.prog.veiledRec ·)) = true := by kernel_rfl
theorem k32 : Rows.fnTogetherRow.veiledFits Try.prog Try.f17.params.toList (Try.f17.params.toList ++ Rows.fnTogetherSpec.plain.varTypes Try.prog ++ Try.f17.resultTypes.toList) = true := by kernel_rfl
set_option maxRecDepth 100000 in
theorem closed : joinedFacts Try.prog 17 Try.f17 Rows.fnTogetherSpec Rows.fnTogetherRow = true :=
  (andI (andI (andI (andI (andI (andI (andI (andI (andI (andI (andI (andI (andI (andI (andI (andI (andI (andI (andI (andI (andI (andI (andI (andI (andI (andI (andI (andI (andI (andI (andI k1 fa_laidOut) fa_mapsRowed) k4) k5) k6) fa_stops) k8) fa_knobs) k10) k11) k12) k13) k14) k15) k16) k17) k18) k19) k20) k21) k22) fa_plainKeys) k24) fa_heard) fb_mayEnter) fa_lifts) fa_make) k29) k30) k31) k32)
theorem own : ownKnob Try.prog.godebug = none := by kernel_rfl
theorem instF : Try.f17.isInstance Try.prog Rows.fnTogetherRow.origin Rows.fnTogetherRow.targs := of_decide_eq_true (by kernel_rfl)
theorem wrapF : Try.f17.isWrapper Try.prog Rows.fnTogetherRow.wrapper Rows.fnTogetherRow.mainSum := by unfold Func.isWrapper; first | (rw [if_pos (by decide +kernel)]; kernel_rfl) | (rw [if_neg (by decide +kernel)]; exact ⟨rfl, rfl⟩)
theorem namedF : Try.prog.funcNamed Rows.fnTogetherRow.func = some 17 := by kernel_rfl
end FnTogetherP
end Go.Proofs.Ytcnlgoghnlcndaa
