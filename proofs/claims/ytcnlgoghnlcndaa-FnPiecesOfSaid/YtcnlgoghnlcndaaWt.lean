/- Walk: Windowed (spec). -/
import Derived.Test.YtcnlgoghnlcndaaWd
import Derived.Test.YtcnlgoghnlcndaaT6
import Derived.Deep.RegionHeld3
import Derived.Deep.AppendLies
namespace Go.Proofs.Ytcnlgoghnlcndaa
open Go.RowKit Ieee

set_option maxRecDepth 100000 in
theorem l6Less_any {r1 r2 : Nat} (p q a : Nat) (w : World) (m1 : floatBits .mul .f32 p a = some r1) (m2 : floatBits .mul .f32 q a = some r2) :
    Calls Try.prog 104 #[.complex .f32 p q, .float .f32 a] w fun e w' => e = .returned (.complex .f32 r1 r2) ∧ w = w' := by
  have k1 := fun W : World => run_float_arith (P := Try.prog) W .mul 43 .f32 _ _ _ m1
  have k2 := fun W : World => run_float_arith (P := Try.prog) W .mul 43 .f32 _ _ _ m2
  clear m1 m2
  go_enter Try.func104, Try.ntmps104
  go_wp2_with fail
  go_ret
  exact ⟨rfl, rfl⟩

set_option maxRecDepth 100000 in
set_option maxHeartbeats 8000000 in
theorem sWindowed_yes (A : Option Addr) (n cap : Nat) (kd : Int) (xs : List Num) (w : World) (h : Sig w A n xs) (hs : sigOk xs = true) (hw : winOk kd n = true) :
    Calls Try.prog 57 #[.slice A n cap, .int .i64 kd] w (MadeT 34 C (wdL xs kd) true w) := by
  have hl := h.1
  have hn16 : n ≤ 16 ∧ 2 ≤ n := by
    obtain ⟨_, m, hm, hs'⟩ := winOk_in hw
    obtain rfl : n = m := by omega
    rcases sizes_of hs' with rfl | rfl | rfl | rfl <;> omega
  have hwl : (winL kd n).length = n := by simp [winL]
  have H := Lib.hid h
  have HS := Lib.hid hs
  have HL := Lib.hid hl
  have HW := Lib.hid hw
  have HWL := Lib.hid hwl
  clear h hs hl hw hwl
  go_enter Try.func57, Try.ntmps57
  go_wp2_with fail
  refine (sWindowOf_yes kd n _ HW.out).mono ?_
  intro e w1 hmd
  obtain ⟨B, c, rfl, hc, hcm, hr, ho, hg⟩ := hmd.out 0 (by rw [HWL.out]; omega)
  rw [HWL.out] at hc hr ⊢
  have R := Lib.hid hr
  have G1 := Lib.hid hg
  have S1 := Lib.hid (H.out.grown hg)
  clear hmd hr ho hg
  unfold maxLen at hcm
  go_wp2_with fail
  refine (sSignalOk_any A n cap xs _ S1.out).mono ?_
  rw [HS.out]
  rintro e w' ⟨rfl, d, rfl⟩
  have hn0 : ((n : Int) == 0) = false := by simp; omega
  have hst := Lib.hid (AppSt.start (E := 34) (T := C) (f := wdF xs kd) (w := w1.drewN d))
  have G2 := Lib.hid (grown_drewN G1.out d)
  have R2 := Lib.hid (R.out.drewN d)
  have S2 := Lib.hid (S1.out.drewN d)
  clear G1 R S1
  generalize w1.drewN d = w2 at *
  go_wp2_with fail
  go_loopw [7, 8] (fun v i wr => ∃ k : Nat, k ≤ n ∧ i = .int .i64 k ∧ AppSt 34 C (wdF xs kd) w2 v k wr) (fun _ i _ => n - (intOf i).toNat)
  case atStart => exact ⟨0, Nat.zero_le _, rfl, hst.out⟩
  case round =>
    obtain ⟨k, hk, rfl, h⟩ := hrel
    clear hst
    by_cases hlt : k < n
    · have hgr := h.2
      obtain ⟨b, o, rfl, hb0, _⟩ := S2.out.2.2 k hlt
      obtain ⟨b', o', rfl, hb0', _⟩ := R2.out.2.2 k hlt
      obtain ⟨_, _, e', hbs, hcell⟩ := (S2.out.grown hgr).2.2 k hlt
      cases e'
      obtain ⟨_, _, e', hbs', hcell'⟩ := (R2.out.grown hgr).2.2 k hlt
      cases e'
      have hfar : some b ≠ u7.ownBlock := fun e => by have := own_ge h.1 b e.symm; omega
      have hfar' : some b' ≠ u7.ownBlock := fun e => by have := own_ge h.1 b' e.symm; omega
      rw [winL_at hlt] at hcell'
      obtain ⟨m1, m2, m3, _, _⟩ := wd_some (fin_at' (sigOk_parts HS.out).2 (by rw [HL.out]; exact hlt)) (win_unit HW.out hlt)
      have hsz := h.size
      have e1 : wdF xs kd k = wdN (xs.getD k (0, 0)) (winW kd n k) := by unfold wdF; rw [HL.out]
      have HE := Lib.hid e1
      generalize xs.getD k (0, 0) = z at *
      generalize winW kd n k = a at *
      generalize wdN z a = q at *
      unfold C at hcell
      unfold F32 at hcell'
      have hq := fun W => l6Less_any (r1 := q.1) (r2 := q.2) z.1 z.2 a W m1 m2
      have i1 : (0 : Int) ≤ (k : Int) := by omega
      have i2 : (k : Int) < (n : Int) := by omega
      clear e1 hgr m1 m2
      go_wp2_with fail
      obtain ⟨i0, hi0, hz0, hz1, hz2⟩ := info_parts info34
      go_region_held3 (fun w' => w'.cell? ⟨b, o + k, none⟩ = some (.complex .f32 z.1 z.2) ∧ w'.cell? ⟨b', o' + k, none⟩ = some (.float .f32 a))
        (first
        | go_keep
        | (go_split_ands
           refine ⟨?_, ?_⟩
           · (rw [hgrow.cell_far _ (by simp; omega) hfar]; assumption)
           · (rw [hgrow.cell_far _ (by simp; omega) hfar']; assumption)))
        (first
        | (go_at_call 104; refine (hq _).mono ?_; rintro e w' ⟨rfl, rfl⟩)
        | (refine step_append_lies _ (by rfl) _ _ _ (by rfl) w2.heap.size 34 i0 _ 1 8 Try.underlying37 hi0 hz0 hz1 hz2 rfl (by omega) u7 k _ (by rfl) ((h.1.alloc _).drew)
            ⟨wr.heap.size, 0, none⟩ 1 1 [.complex .f32 q.1 q.2] (by rfl) (by rfl) (World.news_of_block (cs := #[.complex .f32 q.1 q.2]) (t := 34) (fr := (0, 0)) (heap_alloc_new wr _)) (by simp [Value.oneCell'])
            (by omega) (by unfold maxLen; omega) (by omega) (by simp; omega) (wr.heap.size + 1) (by simp) ?_; intro gg cap w1 hown1 hgrow hat hlt'))
      have ho' : w1.ownsRow w2.heap.size 34 1 (.slice (some ⟨gg, 0, none⟩) (k + 1) cap) (k + 1) (((List.range k).map (wdF xs kd) ++ [wdF xs kd k]).map C) := by
        rw [HE.out, List.map_append]
        exact hown1
      have hg' : (wr.alloc (.cells #[C (wdF xs kd k)] 34)).grownBy w1 u7.ownBlock := by
        rw [HE.out]
        exact gr_drew hgrow
      clear hown1 hgrow hat hlt' hcell hcell'
      go_wp2_with fail
      go_roundw
      case rel => exact ⟨k + 1, by omega, by go_num, h.step ho' hg'⟩
      case measure => simp [intOf]; omega
    · have hkm : k = n := by omega
      have hd := h.doneT (n := n) hkm
      go_wp2_with fail
      go_ret2
      have hd' := hd.from G2.out
      unfold wdL
      rw [HL.out]
      exact hd'

set_option maxRecDepth 100000 in
theorem sWindowed_no (A : Option Addr) (n cap : Nat) (kd : Int) (xs : List Num) (w : World) (h : Sig w A n xs) (hb : (sigOk xs && winOk kd n) = false) :
    Calls Try.prog 57 #[.slice A n cap, .int .i64 kd] w (MadeT 34 C [] false w) := by
  have hl := h.1
  have H := Lib.hid h
  clear h
  rcases Bool.eq_false_or_eq_true (winOk kd n) with hw | hw
  · have hs : sigOk xs = false := by rw [hw] at hb; simpa using hb
    have HS := Lib.hid hs
    have hn16 : n ≤ 16 ∧ 2 ≤ n := by
      obtain ⟨_, m, hm, hs'⟩ := winOk_in hw
      obtain rfl : n = m := by omega
      rcases sizes_of hs' with rfl | rfl | rfl | rfl <;> omega
    have hwl : (winL kd n).length = n := by simp [winL]
    have HW := Lib.hid hw
    have HWL := Lib.hid hwl
    clear hs hw hb hwl hl
    go_enter Try.func57, Try.ntmps57
    go_wp2_with fail
    refine (sWindowOf_yes kd n _ HW.out).mono ?_
    intro e w1 hmd
    obtain ⟨B, c, rfl, hc, hcm, hr, ho, hg⟩ := hmd.out 0 (by rw [HWL.out]; omega)
    rw [HWL.out] at hc hr ⊢
    have G1 := Lib.hid hg
    have S1 := Lib.hid (H.out.grown hg)
    clear hmd hr ho hg
    unfold maxLen at hcm
    go_wp2_with fail
    refine (sSignalOk_any A n cap xs _ S1.out).mono ?_
    rw [HS.out]
    rintro e w' ⟨rfl, d, rfl⟩
    have hm0 := madeT_nil 34 C (w1.drewN d) 0
    go_wp2_with fail
    go_ret2
    exact hm0.from (grown_drewN G1.out d)
  · have HW := Lib.hid hw
    clear hw hb hl
    go_enter Try.func57, Try.ntmps57
    go_wp2_with fail
    refine (sWindowOf_no kd n _ HW.out).mono ?_
    intro e w1 hmd
    obtain ⟨B, c, rfl, hc, hcm, hr, ho, hg⟩ := hmd.out 0 (by simp)
    simp only [List.length_nil] at hc hr ⊢
    have G1 := Lib.hid hg
    have S1 := Lib.hid (H.out.grown hg)
    clear hmd hr ho hg
    unfold maxLen at hcm
    go_wp2_with fail
    refine (sSignalOk_any A n cap xs _ S1.out).mono ?_
    rintro e w' ⟨rfl, d, rfl⟩
    have hm0 := madeT_nil 34 C (w1.drewN d) 0
    cases sigOk xs
    all_goals
      go_wp2_with fail
      go_ret2
      exact hm0.from (grown_drewN G1.out d)
end Go.Proofs.Ytcnlgoghnlcndaa
