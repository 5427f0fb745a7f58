/- Closed facts of the row of FnSubnormal, one by one, and joined. -/
import Derived.Test.YtcnlgoghnlcndaaFa

namespace Go.Proofs.Ytcnlgoghnlcndaa
namespace FnSubnormalP
theorem andI {a b : Bool} (ha : a = true) (hb : b = true) : (a && b) = true := by rw [ha, hb]; rfl
theorem k1 : Rows.fnSubnormalRow.wf (OpenSpec.ofChange Rows.fnSubnormalSpec) = true := by kernel_rfl
theorem k4 : Try.f6.params.all (Try.prog.readableRec ·) = true := by kernel_rfl
theorem k5 : namedTie Try.prog Rows.fnSubnormalRow.named Rows.fnSubnormalSpec.vars = true := by kernel_rfl
theorem k6 : (Rows.fnSubnormalRow.stops == []) = true := by kernel_rfl
theorem k8 : (Rows.fnSubnormalRow.knobs == []) = true := by kernel_rfl
theorem k10 : (Rows.fnSubnormalRow.inPlace == Try.prog.inPlace 6) = true := by kernel_rfl
theorem k11 : (Rows.fnSubnormalRow.unfollowed == Try.prog.unfollowed 6) = true := by kernel_rfl
theorem k12 : (Rows.fnSubnormalRow.recurses == Try.prog.recurses 6) = true := by kernel_rfl
theorem k13 : (Rows.fnSubnormalRow.named == Try.prog.varsNamed 6) = true := by kernel_rfl
theorem k14 : (Rows.fnSubnormalRow.maps == (Try.f6.params.toList ++ Rows.fnSubnormalSpec.plain.varTypes Try.prog).any (Try.prog.mapsRec ·)) = true := by kernel_rfl
theorem k15 : (Rows.fnSubnormalRow.ifaces == (Try.f6.params.toList ++ Rows.fnSubnormalSpec.plain.varTypes Try.prog).any (Try.prog.ifacesRec ·)) = true := by kernel_rfl
theorem k16 : (Rows.fnSubnormalRow.mapsOut == Try.prog.mapsAmong Try.f6.resultTypes.toList) = true := by kernel_rfl
theorem k17 : (Rows.fnSubnormalRow.loops == (Try.f6.params.toList ++ Rows.fnSubnormalSpec.plain.varTypes Try.prog).any (Try.prog.loopsFrom ·)) = true := by kernel_rfl
theorem k18 : (Rows.fnSubnormalRow.wideKeys == (Try.f6.params.toList ++ Rows.fnSubnormalSpec.plain.varTypes Try.prog ++ Try.f6.resultTypes.toList).any (Try.prog.wideKeysFrom ·)) = true := by kernel_rfl
theorem k19 : Rows.fnSubnormalSpec.vars.all (Try.prog.varReadable ·) = true := by kernel_rfl
theorem k20 : Try.f6.resultTypes.all (fun t => Try.prog.readableRec t && decide (t < Try.prog.types.size)) = true := by kernel_rfl
theorem k21 : (Rows.fnSubnormalRow.ifacesOut == Try.f6.resultTypes.toList.any (Try.prog.ifacesRec ·)) = true := by kernel_rfl
theorem k22 : (Rows.fnSubnormalRow.loopsOut == Try.f6.resultTypes.toList.any (Try.prog.loopsFrom ·)) = true := by kernel_rfl
theorem k24 : Rows.fnSubnormalRow.shortTexts.isNone = true := by kernel_rfl
theorem k29 : (Rows.fnSubnormalRow.kinds == (if Rows.fnSubnormalRow.domain.isEmpty then [] else Try.f6.params.toList.map fun t => match Try.prog.underlying t with | some (.int k) => some k | _ => none)) = true := by kernel_rfl
theorem k30 : (Rows.fnSubnormalRow.pinned == Rows.fnSubnormalRow.pinnedBy) = true := by kernel_rfl
theorem k31 : (Rows.fnSubnormalRow.veiled == (Try.f6.params.toList ++ Rows.fnSubnormalSpec.plain.varTypes Try.prog ++ Try.f6.resultTypes.toList).any (Try.prog.veiledRec ·)) = true := by kernel_rfl
theorem k32 : Rows.fnSubnormalRow.veiledFits Try.prog Try.f6.params.toList (Try.f6.params.toList ++ Rows.fnSubnormalSpec.plain.varTypes Try.prog ++ Try.f6.resultTypes.toList) = true := by kernel_rfl
set_option maxRecDepth 100000 in
theorem closed : joinedFacts Try.prog 6 Try.f6 Rows.fnSubnormalSpec Rows.fnSubnormalRow = true :=
  (andI (andI (andI (andI (andI (andI (andI (andI (andI (andI (andI (andI (andI (andI (andI (andI (andI (andI (andI (andI (andI (andI (andI (andI (andI (andI (andI (andI (andI (andI (andI k1 fa_laidOut) fa_mapsRowed) k4) k5) k6) fa_stops) k8) fa_knobs) k10) k11) k12) k13) k14) k15) k16) k17) k18) k19) k20) k21) k22) fa_plainKeys) k24) fa_heard) fb_mayEnter) fa_lifts) fa_make) k29) k30) k31) k32)
theorem own : ownKnob Try.prog.godebug = none := by kernel_rfl
theorem instF : Try.f6.isInstance Try.prog Rows.fnSubnormalRow.origin Rows.fnSubnormalRow.targs := of_decide_eq_true (by kernel_rfl)
theorem wrapF : Try.f6.isWrapper Try.prog Rows.fnSubnormalRow.wrapper Rows.fnSubnormalRow.mainSum := by unfold Func.isWrapper; first | (rw [if_pos (by decide +kernel)]; kernel_rfl) | (rw [if_neg (by decide +kernel)]; exact ⟨rfl, rfl⟩)
theorem namedF : Try.prog.funcNamed Rows.fnSubnormalRow.func = some 6 := by kernel_rfl
end FnSubnormalP
end Go.Proofs.Ytcnlgoghnlcndaa
