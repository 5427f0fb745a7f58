/- Closed facts of the row of FnExactRingsFor, one by one, and joined. -/
import Derived.Test.YtcnlgoghnlcndaaFa

namespace Go.Proofs.Ytcnlgoghnlcndaa
namespace FnExactRingsForP
theorem andI {a b : Bool} (ha : a = true) (hb : b = true) : (a && b) = true := by rw [ha, hb]; rfl
theorem k1 : Rows.fnExactRingsForRow.wf (OpenSpec.ofChange Rows.fnExactRingsForSpec) = true := by kernel_rfl
theorem k4 : Try.f3.params.all (Try.prog.readableRec ·) = true := by kernel_rfl
theorem k5 : namedTie Try.prog Rows.fnExactRingsForRow.named Rows.fnExactRingsForSpec.vars = true := by kernel_rfl
theorem k6 : (Rows.fnExactRingsForRow.stops == []) = true := by kernel_rfl
theorem k8 : (Rows.fnExactRingsForRow.knobs == []) = true := by kernel_rfl
theorem k10 : (Rows.fnExactRingsForRow.inPlace == Try.prog.inPlace 3) = true := by kernel_rfl
theorem k11 : (Rows.fnExactRingsForRow.unfollowed == Try.prog.unfollowed 3) = true := by kernel_rfl
theorem k12 : (Rows.fnExactRingsForRow.recurses == Try.prog.recurses 3) = true := by kernel_rfl
theorem k13 : (Rows.fnExactRingsForRow.named == Try.prog.varsNamed 3) = true := by kernel_rfl
theorem k14 : (Rows.fnExactRingsForRow.maps == (Try.f3.params.toList ++ Rows.fnExactRingsForSpec.plain.varTypes Try.prog).any (Try.prog.mapsRec ·)) = true := by kernel_rfl
theorem k15 : (Rows.fnExactRingsForRow.ifaces == (Try.f3.params.toList ++ Rows.fnExactRingsForSpec.plain.varTypes Try.prog).any (Try.prog.ifacesRec ·)) = true := by kernel_rfl
theorem k16 : (Rows.fnExactRingsForRow.mapsOut == Try.prog.mapsAmong Try.f3.resultTypes.toList) = true := by kernel_rfl
theorem k17 : (Rows.fnExactRingsForRow.loops == (Try.f3.params.toList ++ Rows.fnExactRingsForSpec.plain.varTypes Try.prog).any (Try.prog.loopsFrom ·)) = true := by kernel_rfl
theorem k18 : (Rows.fnExactRingsForRow.wideKeys == (Try.f3.params.toList ++ Rows.fnExactRingsForSpec.plain.varTypes Try.prog ++ Try.f3.resultTypes.toList).any (Try.prog.wideKeysFrom ·)) = true := by kernel_rfl
theorem k19 : Rows.fnExactRingsForSpec.vars.all (Try.prog.varReadable ·) = true := by kernel_rfl
theorem k20 : Try.f3.resultTypes.all (fun t => Try.prog.readableRec t && decide (t < Try.prog.types.size)) = true := by kernel_rfl
theorem k21 : (Rows.fnExactRingsForRow.ifacesOut == Try.f3.resultTypes.toList.any (Try.prog.ifacesRec ·)) = true := by kernel_rfl
theorem k22 : (Rows.fnExactRingsForRow.loopsOut == Try.f3.resultTypes.toList.any (Try.prog.loopsFrom ·)) = true := by kernel_rfl
theorem k24 : Rows.fnExactRingsForRow.shortTexts.isNone = true := by kernel_rfl
theorem k29 : (Rows.fnExactRingsForRow.kinds == (if Rows.fnExactRingsForRow.domain.isEmpty then [] else Try.f3.params.toList.map fun t => match Try.prog.underlying t with | some (.int k) => some k | _ => none)) = true := by kernel_rfl
theorem k30 : (Rows.fnExactRingsForRow.pinned == Rows.fnExactRingsForRow.pinnedBy) = true := by kernel_rfl
theorem k31 : (Rows.fnExactRingsForRow.veiled == (Try.f3.params.toList ++ Rows.fnExactRingsForSpec.plain.varTypes Try.prog ++ Try.f3.resultTypes.toList).any (Try.prog.veiledRec ·)) = true := by kernel_rfl
theorem k32 : Rows.fnExactRingsForRow.veiledFits Try.prog Try.f3.params.toList (Try.f3.params.toList ++ Rows.fnExactRingsForSpec.plain.varTypes Try.prog ++ Try.f3.resultTypes.toList) = true := by kernel_rfl
set_option maxRecDepth 100000 in
theorem closed : joinedFacts Try.prog 3 Try.f3 Rows.fnExactRingsForSpec Rows.fnExactRingsForRow = true :=
  (andI (andI (andI (andI (andI (andI (andI (andI (andI (andI (andI (andI (andI (andI (andI (andI (andI (andI (andI (andI (andI (andI (andI (andI (andI (andI (andI (andI (andI (andI (andI k1 fa_laidOut) fa_mapsRowed) k4) k5) k6) fa_stops) k8) fa_knobs) k10) k11) k12) k13) k14) k15) k16) k17) k18) k19) k20) k21) k22) fa_plainKeys) k24) fa_heard) fb_mayEnter) fa_lifts) fa_make) k29) k30) k31) k32)
theorem own : ownKnob Try.prog.godebug = none := by kernel_rfl
theorem instF : Try.f3.isInstance Try.prog Rows.fnExactRingsForRow.origin Rows.fnExactRingsForRow.targs := of_decide_eq_true (by kernel_rfl)
theorem wrapF : Try.f3.isWrapper Try.prog Rows.fnExactRingsForRow.wrapper Rows.fnExactRingsForRow.mainSum := by unfold Func.isWrapper; first | (rw [if_pos (by decide +kernel)]; kernel_rfl) | (rw [if_neg (by decide +kernel)]; exact ⟨rfl, rfl⟩)
theorem namedF : Try.prog.funcNamed Rows.fnExactRingsForRow.func = some 3 := by kernel_rfl
end FnExactRingsForP
end Go.Proofs.Ytcnlgoghnlcndaa
