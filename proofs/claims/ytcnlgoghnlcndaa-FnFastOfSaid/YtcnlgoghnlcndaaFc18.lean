/- Closed facts of the row of FnFastOf, one by one, and joined. -/
import Derived.Test.YtcnlgoghnlcndaaFa

namespace Go.Proofs.Ytcnlgoghnlcndaa
namespace FnFastOfP
theorem andI {a b : Bool} (ha : a = true) (hb : b = true) : (a && b) = true := by rw [ha, hb]; rfl
theorem k1 : Rows.fnFastOfRow.wf (OpenSpec.ofChange Rows.fnFastOfSpec) = true := by kernel_rfl
theorem k4 : Try.f18.params.all (Try.prog.readableRec ·) = true := by kernel_rfl
theorem k5 : namedTie Try.prog Rows.fnFastOfRow.named Rows.fnFastOfSpec.vars = true := by kernel_rfl
theorem k6 : (Rows.fnFastOfRow.stops == []) = true := by kernel_rfl
theorem k8 : (Rows.fnFastOfRow.knobs == []) = true := by kernel_rfl
theorem k10 : (Rows.fnFastOfRow.inPlace == Try.prog.inPlace 18) = true := by kernel_rfl
theorem k11 : (Rows.fnFastOfRow.unfollowed == Try.prog.unfollowed 18) = true := by kernel_rfl
theorem k12 : (Rows.fnFastOfRow.recurses == Try.prog.recurses 18) = true := by kernel_rfl
theorem k13 : (Rows.fnFastOfRow.named == Try.prog.varsNamed 18) = true := by kernel_rfl
theorem k14 : (Rows.fnFastOfRow.maps == (Try.f18.params.toList ++ Rows.fnFastOfSpec.plain.varTypes Try.prog).any (Try.prog.mapsRec ·)) = true := by kernel_rfl
theorem k15 : (Rows.fnFastOfRow.ifaces == (Try.f18.params.toList ++ Rows.fnFastOfSpec.plain.varTypes Try.prog).any (Try.prog.ifacesRec ·)) = true := by kernel_rfl
theorem k16 : (Rows.fnFastOfRow.mapsOut == Try.prog.mapsAmong Try.f18.resultTypes.toList) = true := by kernel_rfl
theorem k17 : (Rows.fnFastOfRow.loops == (Try.f18.params.toList ++ Rows.fnFastOfSpec.plain.varTypes Try.prog).any (Try.prog.loopsFrom ·)) = true := by kernel_rfl
theorem k18 : (Rows.fnFastOfRow.wideKeys == (Try.f18.params.toList ++ Rows.fnFastOfSpec.plain.varTypes Try.prog ++ Try.f18.resultTypes.toList).any (Try.prog.wideKeysFrom ·)) = true := by kernel_rfl
theorem k19 : Rows.fnFastOfSpec.vars.all (Try.prog.varReadable ·) = true := by kernel_rfl
theorem k20 : Try.f18.resultTypes.all (fun t => Try.prog.readableRec t && decide (t < Try.prog.types.size)) = true := by kernel_rfl
theorem k21 : (Rows.fnFastOfRow.ifacesOut == Try.f18.resultTypes.toList.any (Try.prog.ifacesRec ·)) = true := by kernel_rfl
theorem k22 : (Rows.fnFastOfRow.loopsOut == Try.f18.resultTypes.toList.any (Try.prog.loopsFrom ·)) = true := by kernel_rfl
theorem k24 : Rows.fnFastOfRow.shortTexts.isNone = true := by kernel_rfl
theorem k29 : (Rows.fnFastOfRow.kinds == (if Rows.fnFastOfRow.domain.isEmpty then [] else Try.f18.params.toList.map fun t => match Try.prog.underlying t with | some (.int k) => some k | _ => none)) = true := by kernel_rfl
theorem k30 : (Rows.fnFastOfRow.pinned == Rows.fnFastOfRow.pinnedBy) = true := by kernel_rfl
theorem k31 : (Rows.fnFastOfRow.veiled == (Try.f18.params.toList ++ Rows.fnFastOfSpec.plain.varTypes Try.prog ++ Try.f18.resultTypes.toList).any (Try.prog.veiledRec ·)) = true := by kernel_rfl
theorem k32 : Rows.fnFastOfRow.veiledFits Try.prog Try.f18.params.toList (Try.f18.params.toList ++ Rows.fnFastOfSpec.plain.varTypes Try.prog ++ Try.f18.resultTypes.toList) = true := by kernel_rfl
set_option maxRecDepth 100000 in
theorem closed : joinedFacts Try.prog 18 Try.f18 Rows.fnFastOfSpec Rows.fnFastOfRow = true :=
  (andI (andI (andI (andI (andI (andI (andI (andI (andI (andI (andI (andI (andI (andI (andI (andI (andI (andI (andI (andI (andI (andI (andI (andI (andI (andI (andI (andI (andI (andI (andI k1 fa_laidOut) fa_mapsRowed) k4) k5) k6) fa_stops) k8) fa_knobs) k10) k11) k12) k13) k14) k15) k16) k17) k18) k19) k20) k21) k22) fa_plainKeys) k24) fa_heard) fb_mayEnter) fa_lifts) fa_make) k29) k30) k31) k32)
theorem own : ownKnob Try.prog.godebug = none := by kernel_rfl
theorem instF : Try.f18.isInstance Try.prog Rows.fnFastOfRow.origin Rows.fnFastOfRow.targs := of_decide_eq_true (by kernel_rfl)
theorem wrapF : Try.f18.isWrapper Try.prog Rows.fnFastOfRow.wrapper Rows.fnFastOfRow.mainSum := by unfold Func.isWrapper; first | (rw [if_pos (by decide +kernel)]; kernel_rfl) | (rw [if_neg (by decide +kernel)]; exact ⟨rfl, rfl⟩)
theorem namedF : Try.prog.funcNamed Rows.fnFastOfRow.func = some 18 := by kernel_rfl
end FnFastOfP
end Go.Proofs.Ytcnlgoghnlcndaa
