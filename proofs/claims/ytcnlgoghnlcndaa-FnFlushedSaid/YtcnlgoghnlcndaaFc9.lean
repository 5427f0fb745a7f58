/- Closed facts of the row of FnFlushed, one by one, and joined. -/
import Derived.Test.YtcnlgoghnlcndaaFa

namespace Go.Proofs.Ytcnlgoghnlcndaa
namespace FnFlushedP
theorem andI {a b : Bool} (ha : a = true) (hb : b = true) : (a && b) = true := by rw [ha, hb]; rfl
theorem k1 : Rows.fnFlushedRow.wf (OpenSpec.ofChange Rows.fnFlushedSpec) = true := by kernel_rfl
theorem k4 : Try.f9.params.all (Try.prog.readableRec ·) = true := by kernel_rfl
theorem k5 : namedTie Try.prog Rows.fnFlushedRow.named Rows.fnFlushedSpec.vars = true := by kernel_rfl
theorem k6 : (Rows.fnFlushedRow.stops == []) = true := by kernel_rfl
theorem k8 : (Rows.fnFlushedRow.knobs == []) = true := by kernel_rfl
theorem k10 : (Rows.fnFlushedRow.inPlace == Try.prog.inPlace 9) = true := by kernel_rfl
theorem k11 : (Rows.fnFlushedRow.unfollowed == Try.prog.unfollowed 9) = true := by kernel_rfl
theorem k12 : (Rows.fnFlushedRow.recurses == Try.prog.recurses 9) = true := by kernel_rfl
theorem k13 : (Rows.fnFlushedRow.named == Try.prog.varsNamed 9) = true := by kernel_rfl
theorem k14 : (Rows.fnFlushedRow.maps == (Try.f9.params.toList ++ Rows.fnFlushedSpec.plain.varTypes Try.prog).any (Try.prog.mapsRec ·)) = true := by kernel_rfl
theorem k15 : (Rows.fnFlushedRow.ifaces == (Try.f9.params.toList ++ Rows.fnFlushedSpec.plain.varTypes Try.prog).any (Try.prog.ifacesRec ·)) = true := by kernel_rfl
theorem k16 : (Rows.fnFlushedRow.mapsOut == Try.prog.mapsAmong Try.f9.resultTypes.toList) = true := by kernel_rfl
theorem k17 : (Rows.fnFlushedRow.loops == (Try.f9.params.toList ++ Rows.fnFlushedSpec.plain.varTypes Try.prog).any (Try.prog.loopsFrom ·)) = true := by kernel_rfl
theorem k18 : (Rows.fnFlushedRow.wideKeys == (Try.f9.params.toList ++ Rows.fnFlushedSpec.plain.varTypes Try.prog ++ Try.f9.resultTypes.toList).any (Try.prog.wideKeysFrom ·)) = true := by kernel_rfl
theorem k19 : Rows.fnFlushedSpec.vars.all (Try.prog.varReadable ·) = true := by kernel_rfl
theorem k20 : Try.f9.resultTypes.all (fun t => Try.prog.readableRec t && decide (t < Try.prog.types.size)) = true := by kernel_rfl
theorem k21 : (Rows.fnFlushedRow.ifacesOut == Try.f9.resultTypes.toList.any (Try.prog.ifacesRec ·)) = true := by kernel_rfl
theorem k22 : (Rows.fnFlushedRow.loopsOut == Try.f9.resultTypes.toList.any (Try.prog.loopsFrom ·)) = true := by kernel_rfl
theorem k24 : Rows.fnFlushedRow.shortTexts.isNone = true := by kernel_rfl
theorem k29 : (Rows.fnFlushedRow.kinds == (if Rows.fnFlushedRow.domain.isEmpty then [] else Try.f9.params.toList.map fun t => match Try.prog.underlying t with | some (.int k) => some k | _ => none)) = true := by kernel_rfl
theorem k30 : (Rows.fnFlushedRow.pinned == Rows.fnFlushedRow.pinnedBy) = true := by kernel_rfl
theorem k31 : (Rows.fnFlushedRow.veiled == (Try.f9.params.toList ++ Rows.fnFlushedSpec.plain.varTypes Try.prog ++ Try.f9.resultTypes.toList).any (Try.prog.veiledRec ·)) = true := by kernel_rfl
theorem k32 : Rows.fnFlushedRow.veiledFits Try.prog Try.f9.params.toList (Try.f9.params.toList ++ Rows.fnFlushedSpec.plain.varTypes Try.prog ++ Try.f9.resultTypes.toList) = true := by kernel_rfl
set_option maxRecDepth 100000 in
theorem closed : joinedFacts Try.prog 9 Try.f9 Rows.fnFlushedSpec Rows.fnFlushedRow = true :=
  (andI (andI (andI (andI (andI (andI (andI (andI (andI (andI (andI (andI (andI (andI (andI (andI (andI (andI (andI (andI (andI (andI (andI (andI (andI (andI (andI (andI (andI (andI (andI k1 fa_laidOut) fa_mapsRowed) k4) k5) k6) fa_stops) k8) fa_knobs) k10) k11) k12) k13) k14) k15) k16) k17) k18) k19) k20) k21) k22) fa_plainKeys) k24) fa_heard) fb_mayEnter) fa_lifts) fa_make) k29) k30) k31) k32)
theorem own : ownKnob Try.prog.godebug = none := by kernel_rfl
theorem instF : Try.f9.isInstance Try.prog Rows.fnFlushedRow.origin Rows.fnFlushedRow.targs := of_decide_eq_true (by kernel_rfl)
theorem wrapF : Try.f9.isWrapper Try.prog Rows.fnFlushedRow.wrapper Rows.fnFlushedRow.mainSum := by unfold Func.isWrapper; first | (rw [if_pos (by decide +kernel)]; kernel_rfl) | (rw [if_neg (by decide +kernel)]; exact ⟨rfl, rfl⟩)
theorem namedF : Try.prog.funcNamed Rows.fnFlushedRow.func = some 9 := by kernel_rfl
end FnFlushedP
end Go.Proofs.Ytcnlgoghnlcndaa
