/- Closed facts of the row of FnWindowOf, one by one, and joined. -/
import Derived.Test.YtcnlgoghnlcndaaFa

namespace Go.Proofs.Ytcnlgoghnlcndaa
namespace FnWindowOfP
theorem andI {a b : Bool} (ha : a = true) (hb : b = true) : (a && b) = true := by rw [ha, hb]; rfl
theorem k1 : Rows.fnWindowOfRow.wf (OpenSpec.ofChange Rows.fnWindowOfSpec) = true := by kernel_rfl
theorem k4 : Try.f8.params.all (Try.prog.readableRec ·) = true := by kernel_rfl
theorem k5 : namedTie Try.prog Rows.fnWindowOfRow.named Rows.fnWindowOfSpec.vars = true := by kernel_rfl
theorem k6 : (Rows.fnWindowOfRow.stops == []) = true := by kernel_rfl
theorem k8 : (Rows.fnWindowOfRow.knobs == []) = true := by kernel_rfl
theorem k10 : (Rows.fnWindowOfRow.inPlace == Try.prog.inPlace 8) = true := by kernel_rfl
theorem k11 : (Rows.fnWindowOfRow.unfollowed == Try.prog.unfollowed 8) = true := by kernel_rfl
theorem k12 : (Rows.fnWindowOfRow.recurses == Try.prog.recurses 8) = true := by kernel_rfl
theorem k13 : (Rows.fnWindowOfRow.named == Try.prog.varsNamed 8) = true := by kernel_rfl
theorem k14 : (Rows.fnWindowOfRow.maps == (Try.f8.params.toList ++ Rows.fnWindowOfSpec.plain.varTypes Try.prog).any (Try.prog.mapsRec ·)) = true := by kernel_rfl
theorem k15 : (Rows.fnWindowOfRow.ifaces == (Try.f8.params.toList ++ Rows.fnWindowOfSpec.plain.varTypes Try.prog).any (Try.prog.ifacesRec ·)) = true := by kernel_rfl
theorem k16 : (Rows.fnWindowOfRow.mapsOut == Try.prog.mapsAmong Try.f8.resultTypes.toList) = true := by kernel_rfl
theorem k17 : (Rows.fnWindowOfRow.loops == (Try.f8.params.toList ++ Rows.fnWindowOfSpec.plain.varTypes Try.prog).any (Try.prog.loopsFrom ·)) = true := by kernel_rfl
theorem k18 : (Rows.fnWindowOfRow.wideKeys == (Try.f8.params.toList ++ Rows.fnWindowOfSpec.plain.varTypes Try.prog ++ Try.f8.resultTypes.toList).any (Try.prog.wideKeysFrom ·)) = true := by kernel_rfl
theorem k19 : Rows.fnWindowOfSpec.vars.all (Try.prog.varReadable ·) = true := by kernel_rfl
theorem k20 : Try.f8.resultTypes.all (fun t => Try.prog.readableRec t && decide (t < Try.prog.types.size)) = true := by kernel_rfl
theorem k21 : (Rows.fnWindowOfRow.ifacesOut == Try.f8.resultTypes.toList.any (Try.prog.ifacesRec ·)) = true := by kernel_rfl
theorem k22 : (Rows.fnWindowOfRow.loopsOut == Try.f8.resultTypes.toList.any (Try.prog.loopsFrom ·)) = true := by kernel_rfl
theorem k24 : Rows.fnWindowOfRow.shortTexts.isNone = true := by kernel_rfl
theorem k29 : (Rows.fnWindowOfRow.kinds == (if Rows.fnWindowOfRow.domain.isEmpty then [] else Try.f8.params.toList.map fun t => match Try.prog.underlying t with | some (.int k) => some k | _ => none)) = true := by kernel_rfl
theorem k30 : (Rows.fnWindowOfRow.pinned == Rows.fnWindowOfRow.pinnedBy) = true := by kernel_rfl
theorem k31 : (Rows.fnWindowOfRow.veiled == (Try.f8.params.toList ++ Rows.fnWindowOfSpec.plain.varTypes Try.prog ++ Try.f8.resultTypes.toList).any (Try.prog.veiledRec ·)) = true := by kernel_rfl
theorem k32 : Rows.fnWindowOfRow.veiledFits Try.prog Try.f8.params.toList (Try.f8.params.toList ++ Rows.fnWindowOfSpec.plain.varTypes Try.prog ++ Try.f8.resultTypes.toList) = true := by kernel_rfl
set_option maxRecDepth 100000 in
theorem closed : joinedFacts Try.prog 8 Try.f8 Rows.fnWindowOfSpec Rows.fnWindowOfRow = true :=
  (andI (andI (andI (andI (andI (andI (andI (andI (andI (andI (andI (andI (andI (andI (andI (andI (andI (andI (andI (andI (andI (andI (andI (andI (andI (andI (andI (andI (andI (andI (andI k1 fa_laidOut) fa_mapsRowed) k4) k5) k6) fa_stops) k8) fa_knobs) k10) k11) k12) k13) k14) k15) k16) k17) k18) k19) k20) k21) k22) fa_plainKeys) k24) fa_heard) fb_mayEnter) fa_lifts) fa_make) k29) k30) k31) k32)
theorem own : ownKnob Try.prog.godebug = none := by kernel_rfl
theorem instF : Try.f8.isInstance Try.prog Rows.fnWindowOfRow.origin Rows.fnWindowOfRow.targs := of_decide_eq_true (by kernel_rfl)
theorem wrapF : Try.f8.isWrapper Try.prog Rows.fnWindowOfRow.wrapper Rows.fnWindowOfRow.mainSum := by unfold Func.isWrapper; first | (rw [if_pos (by decide +kernel)]; kernel_rfl) | (rw [if_neg (by decide +kernel)]; exact ⟨rfl, rfl⟩)
theorem namedF : Try.prog.funcNamed Rows.fnWindowOfRow.func = some 8 := by kernel_rfl
end FnWindowOfP
end Go.Proofs.Ytcnlgoghnlcndaa
