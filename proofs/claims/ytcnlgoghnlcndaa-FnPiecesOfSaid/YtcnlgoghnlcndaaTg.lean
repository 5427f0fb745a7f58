/- Walk: DrawPiecesOf. -/
import Derived.Test.YtcnlgoghnlcndaaTi
import Derived.Deep.RegionWith
namespace Go.Proofs.Ytcnlgoghnlcndaa
open Go.RowKit Ieee

set_option maxHeartbeats 16000000 in
theorem DrawPiecesOf_any (A : Option Addr) (n cap : Nat) (w : World) (h : Code w A n cap) :
    Calls Try.prog 81 #[.slice A n cap] w (DrawP w) := by
  go_enter Try.func81, Try.ntmps81
  go_wp2_with fail
  refine (open_any _ _ _ _ h).mono ?_
  rintro e w1 ⟨rfl, hb1, hr1⟩
  have hI : DInv w 0 w1 := ⟨hb1, hr1⟩
  clear hb1 hr1 h
  go_wp2_with fail
  go_region_with (first
    | (go_at_call_of 89 (Value.int IntKind.i64 7); (first | (refine (pick_D w _ _ _ (by first | exact hI | exact DInv.drew hI | exact DInv.drew (DInv.alloc hI _) | exact DInv.drew (DInv.alloc (DInv.alloc hI _) _)) (by omega) (by omega)).mono ?_) | (trace_state; fail)); rintro e w' ⟨j, j1, j2, rfl, hJ, hK⟩;
       have o9 := (DAll.p7 hJ).out7; have o8 := (DAll.p7' hJ).out7; have o1 := (DAll.alloc (DAll.p7 hJ) (Obj.cells #[.int .i64 2, .int .i64 4, .int .i64 4, .int .i64 8, .int .i64 16, .int .i64 5] 3)).out7;
       (try (have k7 := hK.all _ _ _ (by first | exact DAll.drew (DAll.p7 hI) | exact DAll.drew (DAll.p7' hI) | exact DAll.drew (DAll.alloc (DAll.p7 hI) _)); have o7 := k7.out7; have o6 := (DAll.alloc k7 (Obj.cells #[.int .i64 2, .int .i64 4, .int .i64 4, .int .i64 8, .int .i64 16, .int .i64 5] 3)).out7));
       (try (have k6 := hK.all _ _ _ (by first | exact DAll.drew (DAll.p6 hI) | exact DAll.drew (DAll.p6' hI) | exact DAll.drew (DAll.alloc (DAll.p6 hI) _))));
       clear hI hK; have hI := hJ; clear hJ)
    | (go_at_call 96; (first | (refine (signal_D w _ _ _ _ (by first | exact hI | exact DInv.alloc hI _ | exact DInv.alloc (DInv.alloc hI _) _) (by omega) (p7F_le _) (.inr (by omega))).mono ?_) | (trace_state; fail)); rintro e w' ⟨v, xs, q, rfl, hq, hl, ho, hJ, hK⟩;
       clear o9 o8 o1; (try clear o7); (try clear o6); (try clear k7);
       (try (have k6' := hK.all _ _ _ (by first | exact k6 | exact DAll.p6 hI | exact DAll.alloc k6 _ | exact DAll.p6' hI | exact DAll.alloc (DAll.p6 hI) _); (try clear k6); have k6 := k6'; clear k6'));
       clear hI hK; have hI := hJ; clear hJ)
    | (go_at_call_of 89 (Value.int IntKind.i64 3); (first | (refine (pick_D w _ _ _ (by first | exact hI | exact DInv.alloc hI _) (by omega) (by omega)).mono ?_) | (trace_state; fail)); rintro e w' ⟨j, j1, j2, rfl, hJ, hK⟩;
       have ho' := hK.own _ _ (by first | exact ho | exact DOwn.alloc ho _); clear ho; have ho := ho'; clear ho';
       (try (have k6' := hK.all _ _ _ (by first | exact k6 | exact DAll.p6 hI); (try clear k6); have k6 := k6'; clear k6'));
       clear hI hK; have hI := hJ; clear hJ)
    | (go_at_call_of 89 (Value.int IntKind.i64 20); (first | (refine (pick_D w _ _ _ (by first | exact hI | exact DInv.alloc hI _) (by omega) (by omega)).mono ?_) | (trace_state; fail)); rintro e w' ⟨j, j1, j2, rfl, hJ, hK⟩;
       have ho' := hK.own _ _ (by first | exact ho | exact DOwn.alloc ho _); clear ho; have ho := ho'; clear ho';
       (try (have k6' := hK.all _ _ _ (by first | exact k6 | exact DAll.p6 hI); (try clear k6); have k6 := k6'; clear k6'));
       clear hI hK; have hI := hJ; clear hJ)
    | (go_at_call_of 89 (Value.int IntKind.i64 6); (first | (refine (pick_D w _ _ _ (by first | exact hI | exact DInv.alloc hI _) (by omega) (by omega)).mono ?_) | (trace_state; fail)); rintro e w' ⟨j, j1, j2, rfl, hJ, hK⟩;
       have ho' := hK.own _ _ (by first | exact ho | exact DOwn.alloc ho _); clear ho; have ho := ho'; clear ho';
       have o9 := (DAll.p6 hJ).out6;
       (try (have k6' := hK.all _ _ _ (by first | exact k6 | exact DAll.p6 hI); (try clear k6); have o6 := k6'.out6; clear k6'));
       clear hI hK; have hI := hJ; clear hJ))
  all_goals
    try clear o7
    try clear o8
    try clear o9
    try clear o1
    try clear o6
    go_wp2_with fail
    go_ret3
    refine DrawP.mk (by assumption) (by first | assumption | exact DOwn.alloc (by assumption) _) (by first | assumption | exact DInv.alloc (by assumption) _)
end Go.Proofs.Ytcnlgoghnlcndaa
