/- Closed facts of the row of FnShareOf, one by one, and joined. -/
import Derived.Test.YtcnlgoghnlcndaaFa

namespace Go.Proofs.Ytcnlgoghnlcndaa
namespace FnShareOfP
theorem andI {a b : Bool} (ha : a = true) (hb : b = true) : (a && b) = true := by rw [ha, hb]; rfl
theorem k1 : Rows.fnShareOfRow.wf (OpenSpec.ofChange Rows.fnShareOfSpec) = true := by kernel_rfl
theorem k4 : Try.f16.params.all (Try.prog.readableRec ·) = true := by kernel_rfl
theorem k5 : namedTie Try.prog Rows.fnShareOfRow.named Rows.fnShareOfSpec.vars = true := by kernel_rfl
theorem k6 : (Rows.fnShareOfRow.stops == []) = true := by kernel_rfl
theorem k8 : (Rows.fnShareOfRow.knobs == []) = true := by kernel_rfl
theorem k10 : (Rows.fnShareOfRow.inPlace == Try.prog.inPlace 16) = true := by kernel_rfl
theorem k11 : (Rows.fnShareOfRow.unfollowed == Try.prog.unfollowed 16) = true := by kernel_rfl
theorem k12 : (Rows.fnShareOfRow.recurses == Try.prog.recurses 16) = true := by kernel_rfl
theorem k13 : (Rows.fnShareOfRow.named == Try.prog.varsNamed 16) = true := by kernel_rfl
theorem k14 : (Rows.fnShareOfRow.maps == (Try.f16.params.toList ++ Rows.fnShareOfSpec.plain.varTypes Try.prog).any (Try.prog.mapsRec ·)) = true := by kernel_rfl
theorem k15 : (Rows.fnShareOfRow.ifaces == (Try.f16.params.toList ++ Rows.fnShareOfSpec.plain.varTypes Try.prog).any (Try.prog.ifacesRec ·)) = true := by kernel_rfl
theorem k16 : (Rows.fnShareOfRow.mapsOut == Try.prog.mapsAmong Try.f16.resultTypes.toList) = true := by kernel_rfl
theorem k17 : (Rows.fnShareOfRow.loops == (Try.f16.params.toList ++ Rows.fnShareOfSpec.plain.varTypes Try.prog).any (Try.prog.loopsFrom ·)) = true := by kernel_rfl
theorem k18 : (Rows.fnShareOfRow.wideKeys == (Try.f16.params.toList ++ Rows.fnShareOfSpec.plain.varTypes Try.prog ++ Try.f16.resultTypes.toList).any (Try.prog.wideKeysFrom ·)) = true := by kernel_rfl
theorem k19 : Rows.fnShareOfSpec.vars.all (Try.prog.varReadable ·) = true := by kernel_rfl
theorem k20 : Try.f16.resultTypes.all (fun t => Try.prog.readableRec t && decide (t < Try.prog.types.size)) = true := by kernel_rfl
theorem k21 : (Rows.fnShareOfRow.ifacesOut == Try.f16.resultTypes.toList.any (Try.prog.ifacesRec ·)) = true := by kernel_rfl
theorem k22 : (Rows.fnShareOfRow.loopsOut == Try.f16.resultTypes.toList.any (Try.prog.loopsFrom ·)) = true := by kernel_rfl
theorem k24 : Rows.fnShareOfRow.shortTexts.isNone = true := by kernel_rfl
theorem k29 : (Rows.fnShareOfRow.kinds == (if Rows.fnShareOfRow.domain.isEmpty then [] else Try.f16.params.toList.map fun t => match Try.prog.underlying t with | some (.int k) => some k | _ => none)) = true := by kernel_rfl
theorem k30 : (Rows.fnShareOfRow.pinned == Rows.fnShareOfRow.pinnedBy) = true := by kernel_rfl
theorem k31 : (Rows.fnShareOfRow.veiled == (Try.f16.params.toList ++ Rows.fnShareOfSpec.plain.varTypes Try.prog ++ Try.f16.resultTypes.toList).any (Try.prog.veiledRec ·)) = true := by kernel_rfl
theorem k32 : Rows.fnShareOfRow.veiledFits Try.prog Try.f16.params.toList (Try.f16.params.toList ++ Rows.fnShareOfSpec.plain.varTypes Try.prog ++ Try.f16.resultTypes.toList) = true := by kernel_rfl
set_option maxRecDepth 100000 in
theorem closed : joinedFacts Try.prog 16 Try.f16 Rows.fnShareOfSpec Rows.fnShareOfRow = true :=
  (andI (andI (andI (andI (andI (andI (andI (andI (andI (andI (andI (andI (andI (andI (andI (andI (andI (andI (andI (andI (andI (andI (andI (andI (andI (andI (andI (andI (andI (andI (andI k1 fa_laidOut) fa_mapsRowed) k4) k5) k6) fa_stops) k8) fa_knobs) k10) k11) k12) k13) k14) k15) k16) k17) k18) k19) k20) k21) k22) fa_plainKeys) k24) fa_heard) fb_mayEnter) fa_lifts) fa_make) k29) k30) k31) k32)
theorem own : ownKnob Try.prog.godebug = none := by kernel_rfl
theorem instF : Try.f16.isInstance Try.prog Rows.fnShareOfRow.origin Rows.fnShareOfRow.targs := of_decide_eq_true (by kernel_rfl)
theorem wrapF : Try.f16.isWrapper Try.prog Rows.fnShareOfRow.wrapper Rows.fnShareOfRow.mainSum := by unfold Func.isWrapper; first | (rw [if_pos (by decide +kernel)]; kernel_rfl) | (rw [if_neg (by decide +kernel)]; exact ⟨rfl, rfl⟩)
theorem namedF : Try.prog.funcNamed Rows.fnShareOfRow.func = some 16 := by kernel_rfl
end FnShareOfP
end Go.Proofs.Ytcnlgoghnlcndaa
