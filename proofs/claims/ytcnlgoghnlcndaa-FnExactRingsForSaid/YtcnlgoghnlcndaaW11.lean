/- Walks: impl.RingsFor. -/
import Derived.Test.YtcnlgoghnlcndaaW10
namespace Go.Proofs.Ytcnlgoghnlcndaa
open Go.RowKit Ieee

theorem RingSt.zero {a y : Nat × Nat} {fl : Bool} {k : Nat} (h : RingSt a fl k y) (hz : (isZ y.1 && isZ y.2) = true) : k = rc a fl 2000 one0 := by
  rcases h.2.2 with ⟨h1, _⟩ | ⟨_, h2⟩
  · rw [h1] at hz; cases hz
  · exact h2
theorem RingSt.full {a y : Nat × Nat} {fl : Bool} {k : Nat} (h : RingSt a fl k y) (hk : ¬ k < 2000) : k = rc a fl 2000 one0 := by
  have h2 := h.2.1
  rcases h.2.2 with ⟨_, h1⟩ | ⟨_, h2⟩
  · have e : 2000 - k = 0 := by omega
    rw [e] at h1
    generalize rc a fl 2000 one0 = T at *
    unfold rc at h1
    omega
  · exact h2

set_option maxRecDepth 100000 in
set_option maxHeartbeats 4000000 in
theorem RingsFor_any (m : Int) (fl : Bool) (w : World) :
    Calls Try.prog 21 #[.int .i64 m, .bool fl] w fun e w' => e = .returned (.int .i64 (rings m fl)) ∧ ∃ d, w.drewN d = w' := by
  by_cases hout : m < -999 ∨ 999 < m
  · rw [rings_out fl hout]
    go_enter Try.func21, Try.ntmps21
    go_wp2
    refine wp_scope_jumps 0 (fun _ _ => False) (fun _ _ => 0) rfl ?_ (fun _ _ h => h.elim)
    rcases hout with h | h
    · go_wp2_with fail
      simp only [Exit.jump]
      go_ret
      exact ⟨rfl, 0, rfl⟩
    · go_wp2_with fail
      simp only [Exit.jump]
      go_ret
      exact ⟨rfl, 0, rfl⟩
  · rw [rings_in fl hout]
    have ha := milli_unit (m := m) (by omega) (by omega)
    have hM := fun W : World => Milli_in m 0 W (by omega) (by omega) (by omega) (by omega)
    generalize milliW m = a at *
    generalize milliW 0 = b at *
    have h0 : RingSt (a, b) fl 0 one0 := ⟨one_unit, by omega, .inl ⟨by decide +kernel, by simp⟩⟩
    have h1 : (isZ one0.1 && isZ one0.2) = false := by decide +kernel
    have HA := Lib.hid ha
    clear ha
    have e1 : one0 = (1065353216, 0) := rfl
    go_enter Try.func21, Try.ntmps21
    go_wp2
    refine wp_scope_jumps 0 (fun a' w' => ∃ (k p q : Nat) (u8 u9 u10 u11 u12 u13 u14 u15 u16 u17 u18 u19 u20 u21 u22 u23 u24 u25 u26 u27 u28 u29 : Value), a' = { tmps := #[.int .i64 m, .bool fl, undef, undef, .int .i64 0, .complex .f32 a b, .complex .f32 p q, .int .i64 k, u8, u9, u10, u11, u12, u13, u14, u15, u16, u17, u18, u19, u20, u21, u22, u23, u24, u25, u26, u27, u28, u29, undef], defers := [] } ∧ Hid (RingSt (a, b) fl k (p, q)) ∧ k < 2000 ∧ Hid ((isZ p && isZ q) = false) ∧ ∃ d, w.drewN d = w') (fun a' _ => 2000 - (intOf (a'.tmps.getD 7 undef)).toNat) rfl ?_ ?_
    · have H0 := Lib.hid h0
      have H1 := Lib.hid h1
      clear h0 h1
      go_wp2_with fail
      refine (hM _).mono ?_
      rintro e w' ⟨rfl, rfl⟩
      go_wp2_with fail
      apply wp_label
      obtain ⟨z, z1, z2, z3, z4⟩ := rstep_run HA.out H0.out.1
      have hs := RingSt.step HA.out H0.out (by omega) H1.out
      have g1 := fun W : World => run_cmul32 (P := Try.prog) W 34 a b 1065353216 0 z.1 z.2 z1
      have Z2 := Lib.hid z2
      cases fl
      · rw [z3] at hs
        have hne := ne_zero_unit z2
        have S := Lib.hid hs
        clear z1 z2 z3 z4 hs
        rcases Bool.eq_false_or_eq_true (isZ z.1 && isZ z.2) with hz | hz
        · rw [hz] at hne
          have HZ := Lib.hid hz
          clear hz
          go_wp2_with fail
          simp only [Exit.jump]
          go_ret
          exact ⟨ret_int (by rw [← RingSt.zero S.out HZ.out]; go_num), 0, rfl⟩
        · rw [hz] at hne
          have HZ := Lib.hid hz
          clear hz
          go_wp2_with fail
          apply wp_goto
          exact ⟨rfl, 1, z.1, z.2, _, _, _, _, _, _, _, _, _, _, _, _, _, _, _, _, _, _, _, _, _, _, rfl, S, by omega, HZ, 0, rfl⟩
      · rw [z4] at hs
        have e : flC z.1 z.2 = (flP z.1, flP z.2) := by unfold flC; rw [if_pos (by unfold finC; rw [z2.1, z2.2.1]; rfl)]
        rw [e] at hs
        have hne := ne_zero_unit hs.1
        have S := Lib.hid hs
        clear z1 z2 z3 z4 hs e
        go_wp2_with fail
        refine (Flushed_yes _ _ _ Z2.out.1 Z2.out.2.1).mono ?_
        rintro e w' ⟨rfl, n, rfl⟩
        rcases Bool.eq_false_or_eq_true (isZ (flP z.1) && isZ (flP z.2)) with hz | hz
        · rw [hz] at hne
          have HZ := Lib.hid hz
          clear hz
          go_wp2_with fail
          simp only [Exit.jump]
          go_ret
          exact ⟨ret_int (by rw [← RingSt.zero S.out HZ.out]; go_num), _, rfl⟩
        · rw [hz] at hne
          have HZ := Lib.hid hz
          clear hz
          go_wp2_with fail
          apply wp_goto
          exact ⟨rfl, 1, (flP z.1), (flP z.2), _, _, _, _, _, _, _, _, _, _, _, _, _, _, _, _, _, _, _, _, _, _, rfl, S, by omega, HZ, _, rfl⟩
    · rintro a' w' ⟨k, p, q, u8, u9, u10, u11, u12, u13, u14, u15, u16, u17, u18, u19, u20, u21, u22, u23, u24, u25, u26, u27, u28, u29, rfl, hst, hk, HN, d, rfl⟩
      clear h0 h1
      obtain ⟨z, z1, z2, z3, z4⟩ := rstep_run HA.out hst.out.1
      have hs := RingSt.step HA.out hst.out hk HN.out
      have g1 := fun W : World => run_cmul32 (P := Try.prog) W 34 a b p q z.1 z.2 z1
      have Z2 := Lib.hid z2
      cases fl
      · rw [z3] at hs
        have hne := ne_zero_unit z2
        have S := Lib.hid hs
        clear z1 z2 z3 z4 hs
        rcases Bool.eq_false_or_eq_true (isZ z.1 && isZ z.2) with hz | hz
        · rw [hz] at hne
          have HZ := Lib.hid hz
          clear hz
          go_wp2_with fail
          simp only [Exit.jump]
          go_ret
          exact ⟨ret_int (by rw [← RingSt.zero S.out HZ.out]; go_num), d, rfl⟩
        · rw [hz] at hne
          have HZ := Lib.hid hz
          clear hz
          by_cases hl : (k + 1) < 2000
          · go_wp2_with fail
            apply wp_goto
            refine ⟨rfl, ⟨(k + 1), z.1, z.2, _, _, _, _, _, _, _, _, _, _, _, _, _, _, _, _, _, _, _, _, _, _, by rfl, S, hl, HZ, d, rfl⟩, ?_⟩
            simp [intOf]
            omega
          · go_wp2_with fail
            simp only [Exit.jump]
            go_ret
            exact ⟨ret_int (by rw [← RingSt.full S.out hl]; go_num), d, rfl⟩
      · rw [z4] at hs
        have e : flC z.1 z.2 = (flP z.1, flP z.2) := by unfold flC; rw [if_pos (by unfold finC; rw [z2.1, z2.2.1]; rfl)]
        rw [e] at hs
        have hne := ne_zero_unit hs.1
        have S := Lib.hid hs
        clear z1 z2 z3 z4 hs e
        go_wp2_with fail
        refine (Flushed_yes _ _ _ Z2.out.1 Z2.out.2.1).mono ?_
        rintro e w' ⟨rfl, n, rfl⟩
        rcases Bool.eq_false_or_eq_true (isZ (flP z.1) && isZ (flP z.2)) with hz | hz
        · rw [hz] at hne
          have HZ := Lib.hid hz
          clear hz
          go_wp2_with fail
          simp only [Exit.jump]
          go_ret
          exact ⟨ret_int (by rw [← RingSt.zero S.out HZ.out]; go_num), d + n, by first | rfl | rw [World.drewN_drewN]⟩
        · rw [hz] at hne
          have HZ := Lib.hid hz
          clear hz
          by_cases hl : (k + 1) < 2000
          · go_wp2_with fail
            apply wp_goto
            refine ⟨rfl, ⟨(k + 1), (flP z.1), (flP z.2), _, _, _, _, _, _, _, _, _, _, _, _, _, _, _, _, _, _, _, _, _, _, by rfl, S, hl, HZ, d + n, by first | rfl | rw [World.drewN_drewN]⟩, ?_⟩
            simp [intOf]
            omega
          · go_wp2_with fail
            simp only [Exit.jump]
            go_ret
            exact ⟨ret_int (by rw [← RingSt.full S.out hl]; go_num), d + n, by first | rfl | rw [World.drewN_drewN]⟩
end Go.Proofs.Ytcnlgoghnlcndaa
