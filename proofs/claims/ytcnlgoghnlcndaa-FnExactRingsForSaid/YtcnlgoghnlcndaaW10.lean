/- Walks: RingsFor (impl and spec). -/
import Derived.Test.YtcnlgoghnlcndaaRg
import Derived.WalkMore
import Derived.ScopeJumps
namespace Go.Proofs.Ytcnlgoghnlcndaa
open Go.RowKit Ieee

theorem rstep_run {a y : Nat × Nat} (ha : Unit1 a) (hy : Unit1 y) : ∃ z, cmul32 a.1 a.2 y.1 y.2 = some z ∧ Unit1 z ∧ rstep a false y = z ∧ rstep a true y = flC z.1 z.2 := by
  obtain ⟨z, h1, h2, _⟩ := unit_mul ha hy
  refine ⟨z, h1, h2, ?_, ?_⟩
  · unfold rstep; rw [h1]; rfl
  · unfold rstep; rw [h1]; rfl

/-- 'y != 0' -/
theorem ne_zero_unit {y : Nat × Nat} (h : Unit1 y) : (!((FloatKind.f32.format.order y.1 0 == some .eq) && (FloatKind.f32.format.order y.2 0 == some .eq))) = !(isZ y.1 && isZ y.2) := by
  have e1 : (FloatKind.f32.format.order y.1 0 == some .eq) = isZ y.1 := by
    show (single.order y.1 0 == _) = _
    rw [cmp_eq single h.1 fin_zero, iv_zero]; rfl
  have e2 : (FloatKind.f32.format.order y.2 0 == some .eq) = isZ y.2 := by
    show (single.order y.2 0 == _) = _
    rw [cmp_eq single h.2.1 fin_zero, iv_zero]; rfl
  rw [e1, e2]

/-- The state of spec's loop. -/
def RingSt (a : Nat × Nat) (fl : Bool) (k : Nat) (y : Nat × Nat) : Prop :=
  Unit1 y ∧ k ≤ 2000 ∧ ((isZ y.1 && isZ y.2) = false ∧ k + rc a fl (2000 - k) y = rc a fl 2000 one0 ∨ (isZ y.1 && isZ y.2) = true ∧ k = rc a fl 2000 one0)

theorem RingSt.step {a y : Nat × Nat} {fl : Bool} {k : Nat} (ha : Unit1 a) (h : RingSt a fl k y) (hk : k < 2000) (hz : (isZ y.1 && isZ y.2) = false) : RingSt a fl (k + 1) (rstep a fl y) := by
  obtain ⟨h1, h2, h3⟩ := h
  rcases h3 with ⟨_, h3⟩ | ⟨h3, _⟩
  · refine ⟨unit_step fl ha h1, by omega, ?_⟩
    have e : 2000 - k = (2000 - (k + 1)) + 1 := by omega
    rw [e] at h3
    generalize rc a fl 2000 one0 = T at *
    unfold rc at h3
    rcases Bool.eq_false_or_eq_true (isZ (rstep a fl y).1 && isZ (rstep a fl y).2) with h | h
    · rw [if_pos h] at h3
      exact .inr ⟨h, h3⟩
    · rw [if_neg (by rw [h]; decide)] at h3
      exact .inl ⟨h, by omega⟩
  · rw [h3] at hz; cases hz

theorem rings_out {m : Int} (fl : Bool) (h : m < -999 ∨ 999 < m) : rings m fl = -1 := by unfold rings; rw [if_pos h]
theorem rings_in {m : Int} (fl : Bool) (h : ¬ (m < -999 ∨ 999 < m)) : rings m fl = rc (milliW m, milliW 0) fl 2000 one0 := by unfold rings; rw [if_neg h]
theorem ret_int {k : IntKind} {a b : Int} (h : a = b) : Ending.returned (.int k a) = .returned (.int k b) := by rw [h]

set_option maxRecDepth 100000 in
set_option maxHeartbeats 2000000 in
theorem sRingsFor_any (m : Int) (fl : Bool) (w : World) :
    Calls Try.prog 20 #[.int .i64 m, .bool fl] w fun e w' => e = .returned (.int .i64 (rings m fl)) ∧ ∃ d, w.drewN d = w' := by
  by_cases hout : m < -999 ∨ 999 < m
  · rw [rings_out fl hout]
    go_enter Try.func20, Try.ntmps20
    go_wp2_with fail
    refine (l1In_no _ _ _ _ (by omega)).mono ?_
    rintro e w' ⟨rfl, rfl⟩
    go_wp2_with fail
    go_ret
    exact ⟨rfl, 0, rfl⟩
  · rw [rings_in fl hout]
    have ha := milli_unit (m := m) (by omega) (by omega)
    have hM := fun W : World => sMilli_in m 0 W (by omega) (by omega) (by omega) (by omega)
    generalize milliW m = a at *
    generalize milliW 0 = b at *
    have h0 : RingSt (a, b) fl 0 one0 := ⟨one_unit, by omega, .inl ⟨by decide +kernel, by simp⟩⟩
    have HA := Lib.hid ha
    clear ha
    go_enter Try.func20, Try.ntmps20
    go_wp2_with fail
    refine (l1In_yes _ _ _ _ (by omega) (by omega)).mono ?_
    rintro e w' ⟨rfl, rfl⟩
    go_wp2_with fail
    refine (hM _).mono ?_
    rintro e w' ⟨rfl, rfl⟩
    have H0 := Lib.hid h0
    clear h0
    go_wp2_with fail
    go_loopw [6, 7] (fun y i wr => ∃ (k p q : Nat), i = .int .i64 k ∧ y = .complex .f32 p q ∧ Hid (RingSt (a, b) fl k (p, q)) ∧ ∃ d, w.drewN d = wr) (fun _ i _ => 2000 - (intOf i).toNat)
    case atStart => exact ⟨0, one0.1, one0.2, rfl, rfl, H0.out, 0, rfl⟩
    case round =>
      obtain ⟨k, p, q, rfl, rfl, hst, d, rfl⟩ := hrel
      have hk := hst.out.2.1
      have hu := hst.out.1
      have hne := ne_zero_unit hu
      simp only at hne
      by_cases hlt : k < 2000
      · rcases Bool.eq_false_or_eq_true (isZ p && isZ q) with hz | hz
        · rw [hz] at hne
          have HZ := Lib.hid hz
          clear hz hu
          go_wp2_with fail
          go_ret
          refine ⟨ret_int ?_, d, rfl⟩
          rcases hst.out.2.2 with ⟨h1, _⟩ | ⟨_, h2⟩
          · have := HZ.out; rw [h1] at this; cases this
          · rw [h2]
        · rw [hz] at hne
          obtain ⟨z, z1, z2, z3, z4⟩ := rstep_run HA.out hu
          have hs := RingSt.step HA.out hst.out hlt hz
          have HS := Lib.hid hs
          have g1 := fun W : World => run_cmul32 (P := Try.prog) W 34 a b p q z.1 z.2 z1
          have Z2 := Lib.hid z2
          have Z3 := Lib.hid z3
          have Z4 := Lib.hid z4
          have HZ := Lib.hid hz
          clear z1 z2 z3 z4 hs hz hu hst
          cases fl
          · go_wp2_with fail
            go_roundw
            case rel => exact ⟨k + 1, z.1, z.2, by go_num, rfl, by have := HS.out; rw [Z3.out] at this; exact this, d, rfl⟩
            case measure => simp [intOf]; omega
          · go_wp2_with fail
            refine (sFlushed_yes _ _ _ Z2.out.1 Z2.out.2.1).mono ?_
            rintro e w' ⟨rfl, rfl⟩
            go_wp2_with fail
            go_roundw
            case rel =>
              refine ⟨k + 1, flP z.1, flP z.2, by go_num, rfl, ?_, d, rfl⟩
              have := HS.out
              rw [Z4.out] at this
              unfold flC at this
              rw [if_pos (by unfold finC; rw [Z2.out.1, Z2.out.2.1]; rfl)] at this
              exact this
            case measure => simp [intOf]; omega
      · have hk2 : k = 2000 := by omega
        have HK := Lib.hid hk2
        clear hk2 hu hne
        go_wp2_with fail
        go_ret
        refine ⟨ret_int ?_, d, rfl⟩
        rcases hst.out.2.2 with ⟨_, h1⟩ | ⟨_, h2⟩
        · have e : 2000 - k = 0 := by have := HK.out; omega
          rw [e] at h1
          generalize rc (a, b) fl 2000 one0 = T at *
          unfold rc at h1
          omega
        · rw [h2]
end Go.Proofs.Ytcnlgoghnlcndaa
