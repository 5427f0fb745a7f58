/- Closed facts of the row of FnRingsFor, one by one, and joined. -/
import Derived.Test.YtcnlgoghnlcndaaFa

namespace Go.Proofs.Ytcnlgoghnlcndaa
namespace FnRingsForP
theorem andI {a b : Bool} (ha : a = true) (hb : b = true) : (a && b) = true := by rw [ha, hb]; rfl
theorem k1 : Rows.fnRingsForRow.wf (OpenSpec.ofChange Rows.fnRingsForSpec) = true := by kernel_rfl
theorem k4 : Try.f4.params.all (Try.prog.readableRec ·) = true := by kernel_rfl
theorem k5 : namedTie Try.prog Rows.fnRingsForRow.named Rows.fnRingsForSpec.vars = true := by kernel_rfl
theorem k6 : (Rows.fnRingsForRow.stops == []) = true := by kernel_rfl
theorem k8 : (Rows.fnRingsForRow.knobs == []) = true := by kernel_rfl
theorem k10 : (Rows.fnRingsForRow.inPlace == Try.prog.inPlace 4) = true := by kernel_rfl
theorem k11 : (Rows.fnRingsForRow.unfollowed == Try.prog.unfollowed 4) = true := by kernel_rfl
theorem k12 : (Rows.fnRingsForRow.recurses == Try.prog.recurses 4) = true := by kernel_rfl
theorem k13 : (Rows.fnRingsForRow.named == Try.prog.varsNamed 4) = true := by kernel_rfl
theorem k14 : (Rows.fnRingsForRow.maps == (Try.f4.params.toList ++ Rows.fnRingsForSpec.plain.varTypes Try.prog).any (Try.prog.mapsRec ·)) = true := by kernel_rfl
theorem k15 : (Rows.fnRingsForRow.ifaces == (Try.f4.params.toList ++ Rows.fnRingsForSpec.plain.varTypes Try.prog).any (Try.prog.ifacesRec ·)) = true := by kernel_rfl
theorem k16 : (Rows.fnRingsForRow.mapsOut == Try.prog.mapsAmong Try.f4.resultTypes.toList) = true := by kernel_rfl
theorem k17 : (Rows.fnRingsForRow.loops == (Try.f4.params.toList ++ Rows.fnRingsForSpec.plain.varTypes Try.prog).any (Try.prog.loopsFrom ·)) = true := by kernel_rfl
theorem k18 : (Rows.fnRingsForRow.wideKeys == (Try.f4.params.toList ++ Rows.fnRingsForSpec.plain.varTypes Try.prog ++ Try.f4.resultTypes.toList).any (Try.prog.wideKeysFrom ·)) = true := by kernel_rfl
theorem k19 : Rows.fnRingsForSpec.vars.all (Try.prog.varReadable ·) = true := by kernel_rfl
theorem k20 : Try.f4.resultTypes.all (fun t => Try.prog.readableRec t && decide (t < Try.prog.types.size)) = true := by kernel_rfl
theorem k21 : (Rows.fnRingsForRow.ifacesOut == Try.f4.resultTypes.toList.any (Try.prog.ifacesRec ·)) = true := by kernel_rfl
theorem k22 : (Rows.fnRingsForRow.loopsOut == Try.f4.resultTypes.toList.any (Try.prog.loopsFrom ·)) = true := by kernel_rfl
theorem k24 : Rows.fnRingsForRow.shortTexts.isNone = true := by kernel_rfl
theorem k29 : (Rows.fnRingsForRow.kinds == (if Rows.fnRingsForRow.domain.isEmpty then [] else Try.f4.params.toList.map fun t => match Try.prog.underlying t with | some (.int k) => some k | _ => none)) = true := by kernel_rfl
theorem k30 : (Rows.fnRingsForRow.pinned == Rows.fnRingsForRow.pinnedBy) = true := by kernel_rfl
theorem k31 : (Rows.fnRingsForRow.veiled == (Try.f4.params.toList ++ Rows.fnRingsForSpec.plain.varTypes Try.prog ++ Try.f4.resultTypes.toList).any (Try.prog.veiledRec ·)) = true := by kernel_rfl
theorem k32 : Rows.fnRingsForRow.veiledFits Try.prog Try.f4.params.toList (Try.f4.params.toList ++ Rows.fnRingsForSpec.plain.varTypes Try.prog ++ Try.f4.resultTypes.toList) = true := by kernel_rfl
set_option maxRecDepth 100000 in
theorem closed : joinedFacts Try.prog 4 Try.f4 Rows.fnRingsForSpec Rows.fnRingsForRow = true :=
  (andI (andI (andI (andI (andI (andI (andI (andI (andI (andI (andI (andI (andI (andI (andI (andI (andI (andI (andI (andI (andI (andI (andI (andI (andI (andI (andI (andI (andI (andI (andI k1 fa_laidOut) fa_mapsRowed) k4) k5) k6) fa_stops) k8) fa_knobs) k10) k11) k12) k13) k14) k15) k16) k17) k18) k19) k20) k21) k22) fa_plainKeys) k24) fa_heard) fb_mayEnter) fa_lifts) fa_make) k29) k30) k31) k32)
theorem own : ownKnob Try.prog.godebug = none := by kernel_rfl
theorem instF : Try.f4.isInstance Try.prog Rows.fnRingsForRow.origin Rows.fnRingsForRow.targs := of_decide_eq_true (by kernel_rfl)
theorem wrapF : Try.f4.isWrapper Try.prog Rows.fnRingsForRow.wrapper Rows.fnRingsForRow.mainSum := by unfold Func.isWrapper; first | (rw [if_pos (by decide +kernel)]; kernel_rfl) | (rw [if_neg (by decide +kernel)]; exact ⟨rfl, rfl⟩)
theorem namedF : Try.prog.funcNamed Rows.fnRingsForRow.func = some 4 := by kernel_rfl
end FnRingsForP
end Go.Proofs.Ytcnlgoghnlcndaa
