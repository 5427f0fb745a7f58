/- Closed facts of the row of FnTapsOk, one by one, and joined. -/
import Derived.Test.YtcnlgoghnlcndaaFa

namespace Go.Proofs.Ytcnlgoghnlcndaa
namespace FnTapsOkP
theorem andI {a b : Bool} (ha : a = true) (hb : b = true) : (a && b) = true := by rw [ha, hb]; rfl
theorem k1 : Rows.fnTapsOkRow.wf (OpenSpec.ofChange Rows.fnTapsOkSpec) = true := by kernel_rfl
theorem k4 : Try.f7.params.all (Try.prog.readableRec ·) = true := by kernel_rfl
theorem k5 : namedTie Try.prog Rows.fnTapsOkRow.named Rows.fnTapsOkSpec.vars = true := by kernel_rfl
theorem k6 : (Rows.fnTapsOkRow.stops == []) = true := by kernel_rfl
theorem k8 : (Rows.fnTapsOkRow.knobs == []) = true := by kernel_rfl
theorem k10 : (Rows.fnTapsOkRow.inPlace == Try.prog.inPlace 7) = true := by kernel_rfl
theorem k11 : (Rows.fnTapsOkRow.unfollowed == Try.prog.unfollowed 7) = true := by kernel_rfl
theorem k12 : (Rows.fnTapsOkRow.recurses == Try.prog.recurses 7) = true := by kernel_rfl
theorem k13 : (Rows.fnTapsOkRow.named == Try.prog.varsNamed 7) = true := by kernel_rfl
theorem k14 : (Rows.fnTapsOkRow.maps == (Try.f7.params.toList ++ Rows.fnTapsOkSpec.plain.varTypes Try.prog).any (Try.prog.mapsRec ·)) = true := by kernel_rfl
theorem k15 : (Rows.fnTapsOkRow.ifaces == (Try.f7.params.toList ++ Rows.fnTapsOkSpec.plain.varTypes Try.prog).any (Try.prog.ifacesRec ·)) = true := by kernel_rfl
theorem k16 : (Rows.fnTapsOkRow.mapsOut == Try.prog.mapsAmong Try.f7.resultTypes.toList) = true := by kernel_rfl
theorem k17 : (Rows.fnTapsOkRow.loops == (Try.f7.params.toList ++ Rows.fnTapsOkSpec.plain.varTypes Try.prog).any (Try.prog.loopsFrom ·)) = true := by kernel_rfl
theorem k18 : (Rows.fnTapsOkRow.wideKeys == (Try.f7.params.toList ++ Rows.fnTapsOkSpec.plain.varTypes Try.prog ++ Try.f7.resultTypes.toList).any (Try.prog.wideKeysFrom ·)) = true := by kernel_rfl
theorem k19 : Rows.fnTapsOkSpec.vars.all (Try.prog.varReadable ·) = true := by kernel_rfl
theorem k20 : Try.f7.resultTypes.all (fun t => Try.prog.readableRec t && decide (t < Try.prog.types.size)) = true := by kernel_rfl
theorem k21 : (Rows.fnTapsOkRow.ifacesOut == Try.f7.resultTypes.toList.any (Try.prog.ifacesRec ·)) = true := by kernel_rfl
theorem k22 : (Rows.fnTapsOkRow.loopsOut == Try.f7.resultTypes.toList.any (Try.prog.loopsFrom ·)) = true := by kernel_rfl
theorem k24 : Rows.fnTapsOkRow.shortTexts.isNone = true := by kernel_rfl
theorem k29 : (Rows.fnTapsOkRow.kinds == (if Rows.fnTapsOkRow.domain.isEmpty then [] else Try.f7.params.toList.map fun t => match Try.prog.underlying t with | some (.int k) => some k | _ => none)) = true := by kernel_rfl
theorem k30 : (Rows.fnTapsOkRow.pinned == Rows.fnTapsOkRow.pinnedBy) = true := by kernel_rfl
theorem k31 : (Rows.fnTapsOkRow.veiled == (Try.f7.params.toList ++ Rows.fnTapsOkSpec.plain.varTypes Try.prog ++ Try.f7.resultTypes.toList).any (Try.prog.veiledRec ·)) = true := by kernel_rfl
theorem k32 : Rows.fnTapsOkRow.veiledFits Try.prog Try.f7.params.toList (Try.f7.params.toList ++ Rows.fnTapsOkSpec.plain.varTypes Try.prog ++ Try.f7.resultTypes.toList) = true := by kernel_rfl
set_option maxRecDepth 100000 in
theorem closed : joinedFacts Try.prog 7 Try.f7 Rows.fnTapsOkSpec Rows.fnTapsOkRow = true :=
  (andI (andI (andI (andI (andI (andI (andI (andI (andI (andI (andI (andI (andI (andI (andI (andI (andI (andI (andI (andI (andI (andI (andI (andI (andI (andI (andI (andI (andI (andI (andI k1 fa_laidOut) fa_mapsRowed) k4) k5) k6) fa_stops) k8) fa_knobs) k10) k11) k12) k13) k14) k15) k16) k17) k18) k19) k20) k21) k22) fa_plainKeys) k24) fa_heard) fb_mayEnter) fa_lifts) fa_make) k29) k30) k31) k32)
theorem own : ownKnob Try.prog.godebug = none := by kernel_rfl
theorem instF : Try.f7.isInstance Try.prog Rows.fnTapsOkRow.origin Rows.fnTapsOkRow.targs := of_decide_eq_true (by kernel_rfl)
theorem wrapF : Try.f7.isWrapper Try.prog Rows.fnTapsOkRow.wrapper Rows.fnTapsOkRow.mainSum := by unfold Func.isWrapper; first | (rw [if_pos (by decide +kernel)]; kernel_rfl) | (rw [if_neg (by decide +kernel)]; exact ⟨rfl, rfl⟩)
theorem namedF : Try.prog.funcNamed Rows.fnTapsOkRow.func = some 7 := by kernel_rfl
end FnTapsOkP
end Go.Proofs.Ytcnlgoghnlcndaa
