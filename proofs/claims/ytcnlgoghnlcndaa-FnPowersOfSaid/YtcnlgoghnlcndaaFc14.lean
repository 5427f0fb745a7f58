/- Closed facts of the row of FnPowersOf, one by one, and joined. -/
import Derived.Test.YtcnlgoghnlcndaaFa

namespace Go.Proofs.Ytcnlgoghnlcndaa
namespace FnPowersOfP
theorem andI {a b : Bool} (ha : a = true) (hb : b = true) : (a && b) = true := by rw [ha, hb]; rfl
theorem k1 : Rows.fnPowersOfRow.wf (OpenSpec.ofChange Rows.fnPowersOfSpec) = true := by kernel_rfl
theorem k4 : Try.f14.params.all (Try.prog.readableRec ·) = true := by kernel_rfl
theorem k5 : namedTie Try.prog Rows.fnPowersOfRow.named Rows.fnPowersOfSpec.vars = true := by kernel_rfl
theorem k6 : (Rows.fnPowersOfRow.stops == []) = true := by kernel_rfl
theorem k8 : (Rows.fnPowersOfRow.knobs == []) = true := by kernel_rfl
theorem k10 : (Rows.fnPowersOfRow.inPlace == Try.prog.inPlace 14) = true := by kernel_rfl
theorem k11 : (Rows.fnPowersOfRow.unfollowed == Try.prog.unfollowed 14) = true := by kernel_rfl
theorem k12 : (Rows.fnPowersOfRow.recurses == Try.prog.recurses 14) = true := by kernel_rfl
theorem k13 : (Rows.fnPowersOfRow.named == Try.prog.varsNamed 14) = true := by kernel_rfl
theorem k14 : (Rows.fnPowersOfRow.maps == (Try.f14.params.toList ++ Rows.fnPowersOfSpec.plain.varTypes Try.prog).any (Try.prog.mapsRec ·)) = true := by kernel_rfl
theorem k15 : (Rows.fnPowersOfRow.ifaces == (Try.f14.params.toList ++ Rows.fnPowersOfSpec.plain.varTypes Try.prog).any (Try.prog.ifacesRec ·)) = true := by kernel_rfl
theorem k16 : (Rows.fnPowersOfRow.mapsOut == Try.prog.mapsAmong Try.f14.resultTypes.toList) = true := by kernel_rfl
theorem k17 : (Rows.fnPowersOfRow.loops == (Try.f14.params.toList ++ Rows.fnPowersOfSpec.plain.varTypes Try.prog).any (Try.prog.loopsFrom ·)) = true := by kernel_rfl
theorem k18 : (Rows.fnPowersOfRow.wideKeys == (Try.f14.params.toList ++ Rows.fnPowersOfSpec.plain.varTypes Try.prog ++ Try.f14.resultTypes.toList).any (Try.prog.wideKeysFrom ·)) = true := by kernel_rfl
theorem k19 : Rows.fnPowersOfSpec.vars.all (Try.prog.varReadable ·) = true := by kernel_rfl
theorem k20 : Try.f14.resultTypes.all (fun t => Try.prog.readableRec t && decide (t < Try.prog.types.size)) = true := by kernel_rfl
theorem k21 : (Rows.fnPowersOfRow.ifacesOut == Try.f14.resultTypes.toList.any (Try.prog.ifacesRec ·)) = true := by kernel_rfl
theorem k22 : (Rows.fnPowersOfRow.loopsOut == Try.f14.resultTypes.toList.any (Try.prog.loopsFrom ·)) = true := by kernel_rfl
theorem k24 : Rows.fnPowersOfRow.shortTexts.isNone = true := by kernel_rfl
theorem k29 : (Rows.fnPowersOfRow.kinds == (if Rows.fnPowersOfRow.domain.isEmpty then [] else Try.f14.params.toList.map fun t => match Try.prog.underlying t with | some (.int k) => some k | _ => none)) = true := by kernel_rfl
theorem k30 : (Rows.fnPowersOfRow.pinned == Rows.fnPowersOfRow.pinnedBy) = true := by kernel_rfl
theorem k31 : (Rows.fnPowersOfRow.veiled == (Try.f14.params.toList ++ Rows.fnPowersOfSpec.plain.varTypes Try.prog ++ Try.f14.resultTypes.toList).any (Try.prog.veiledRec ·)) = true := by kernel_rfl
theorem k32 : Rows.fnPowersOfRow.veiledFits Try.prog Try.f14.params.toList (Try.f14.params.toList ++ Rows.fnPowersOfSpec.plain.varTypes Try.prog ++ Try.f14.resultTypes.toList) = true := by kernel_rfl
set_option maxRecDepth 100000 in
theorem closed : joinedFacts Try.prog 14 Try.f14 Rows.fnPowersOfSpec Rows.fnPowersOfRow = true :=
  (andI (andI (andI (andI (andI (andI (andI (andI (andI (andI (andI (andI (andI (andI (andI (andI (andI (andI (andI (andI (andI (andI (andI (andI (andI (andI (andI (andI (andI (andI (andI k1 fa_laidOut) fa_mapsRowed) k4) k5) k6) fa_stops) k8) fa_knobs) k10) k11) k12) k13) k14) k15) k16) k17) k18) k19) k20) k21) k22) fa_plainKeys) k24) fa_heard) fb_mayEnter) fa_lifts) fa_make) k29) k30) k31) k32)
theorem own : ownKnob Try.prog.godebug = none := by kernel_rfl
theorem instF : Try.f14.isInstance Try.prog Rows.fnPowersOfRow.origin Rows.fnPowersOfRow.targs := of_decide_eq_true (by kernel_rfl)
theorem wrapF : Try.f14.isWrapper Try.prog Rows.fnPowersOfRow.wrapper Rows.fnPowersOfRow.mainSum := by unfold Func.isWrapper; first | (rw [if_pos (by decide +kernel)]; kernel_rfl) | (rw [if_neg (by decide +kernel)]; exact ⟨rfl, rfl⟩)
theorem namedF : Try.prog.funcNamed Rows.fnPowersOfRow.func = some 14 := by kernel_rfl
end FnPowersOfP
end Go.Proofs.Ytcnlgoghnlcndaa
