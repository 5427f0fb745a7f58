/- Walks: turnedSum (impl), l2Sum (spec). -/
import Derived.Test.YtcnlgoghnlcndaaT2
import Derived.Test.YtcnlgoghnlcndaaWn
import Derived.Deep.RegionHeld3
namespace Go.Proofs.Ytcnlgoghnlcndaa
open Go.RowKit Ieee

/-- The turn of the number n, by s sixteenths each. -/
def fT (s : Int) (n : Nat) : Nat := ((s * n) % 16).toNat
theorem fT_lt (s : Int) (n : Nat) : fT s n < 16 := by unfold fT; omega
theorem turn_fT (s : Int) (n : Nat) : turn (s * n) = tn (fT s n) := rfl
theorem mul_rng {a j B J : Int} (h1 : -B ≤ a ∧ a ≤ B) (h2 : 0 ≤ j ∧ j ≤ J) (hB : 0 ≤ B) : -(B * J) ≤ a * j ∧ a * j ≤ B * J := by
  have p1 : 0 ≤ (B - a) * j := Int.mul_nonneg (by omega) (by omega)
  have p2' : 0 ≤ (B + a) * j := Int.mul_nonneg (by omega) (by omega)
  have p3 : 0 ≤ B * (J - j) := Int.mul_nonneg hB (by omega)
  constructor <;> grind

/-- What a sum gives. -/
def SumRes (xs : List Num) (s : Int) (w : World) (e : Ending) (w' : World) : Prop := e = .returned (.tuple #[C (sumK xs (fT s) xs.length), .bool true]) ∧ w.grownBy w' none

theorem grown_refl (w : World) (r : Option Nat) : w.grownBy w r := ⟨rfl, rfl, rfl, Nat.le_refl _, fun _ _ _ => rfl⟩

set_option maxRecDepth 100000 in
set_option maxHeartbeats 4000000 in
theorem turnedSum_any (A : Option Addr) (n cap : Nat) (k : Int) (xs : List Num) (w : World) (h : Sig w A n xs) (hc : Calm xs) (hn : 1 ≤ n) (hk : -16 ≤ k ∧ k ≤ 16) :
    Calls Try.prog 118 #[.slice A n cap, .int .i64 k] w (SumRes xs (16 / (n : Int) * k) w) := by
  have hl := h.1
  have hn16 : n ≤ 16 := by have := hc.1; omega
  have q0 : 0 ≤ 16 / (n : Int) ∧ 16 / (n : Int) ≤ 16 := ⟨Int.ediv_nonneg (by omega) (by omega), Int.ediv_le_self _ (by omega)⟩
  have q1 : -256 ≤ 16 / (n : Int) * k ∧ 16 / (n : Int) * k ≤ 256 := by
    have := mul_rng (a := k) (j := 16 / (n : Int)) (B := 16) (J := 16) (by omega) q0 (by omega)
    rw [Int.mul_comm k (16 / (n : Int))] at this
    omega
  have w0 : wrap64 (16 / (n : Int)) = 16 / (n : Int) := IntWalk.wrap64_in _ (by omega)
  have w1 : wrap64 (16 / (n : Int) * k) = 16 / (n : Int) * k := IntWalk.wrap64_in _ (by omega)
  have H := Lib.hid h
  have HL := Lib.hid hl
  have HC := Lib.hid hc
  have Q1 := Lib.hid q1
  clear h hl hc q0 q1
  go_enter Try.func118, Try.ntmps118
  go_wp2_with fail
  go_loopw [7, 17] (fun s i wr => ∃ j : Nat, j ≤ n ∧ i = .int .i64 j ∧ s = C (sumK xs (fT (16 / (n : Int) * k)) j) ∧ w.grownBy wr none) (fun _ i _ => n - (intOf i).toNat)
  case atStart => exact ⟨0, Nat.zero_le _, rfl, rfl, grown_refl w none⟩
  case round =>
    obtain ⟨j, hj, rfl, rfl, hg⟩ := hrel
    by_cases hlt : j < n
    · obtain ⟨b, o, rfl, hbs, hcell⟩ := (H.out.grown hg).2.2 j hlt
      have q2 := mul_rng (a := 16 / (n : Int) * k) (j := (j : Int)) (B := 256) (J := 16) Q1.out (by omega) (by omega)
      have w2 : wrap64 (16 / (n : Int) * k * j) = 16 / (n : Int) * k * j := IntWalk.wrap64_in _ (by omega)
      have HT := fun W : World => TurnOf_any (16 / (n : Int) * k * j) W (by omega) (by omega)
      rw [turn_fT] at HT
      have hstep := sumK_step HC.out (fT (16 / (n : Int) * k)) (fT_lt _) (k := j) (by have := HL.out; omega)
      have HS := Lib.hid hstep
      clear hstep q2
      unfold C at hcell
      generalize hz : xs.getD j (0, 0) = z at *
      have hsk : sumK xs (fT (16 / (n : Int) * k)) (j + 1) = addN (sumK xs (fT (16 / (n : Int) * k)) j) (mulN z (tn (fT (16 / (n : Int) * k) j))) := by rw [← hz]; rfl
      have HK := Lib.hid hsk
      have HZ := Lib.hid hz
      clear hz hsk
      go_wp2_with fail
      refine (HT _).mono ?_
      rintro e w2 ⟨rfl, hg2⟩
      go_wp2_with fail
      refine (plus_any _ z (tn (fT (16 / (n : Int) * k) j)) _ HS.out).mono ?_
      rintro e w' ⟨rfl, rfl⟩
      go_wp2_with fail
      go_roundw
      case rel => exact ⟨j + 1, by omega, by go_num, by rw [HK.out], grown_trans hg hg2⟩
      case measure => simp [intOf]; omega
    · obtain rfl : j = n := by omega
      go_wp2_with fail
      go_ret2
      refine ⟨?_, hg⟩
      rw [HL.out]
      rfl

theorem step_vars {xs : List Num} {f : Nat → Nat} {j : Nat} (h : StepOk (sumK xs f j) (xs.getD j (0, 0)) (tn (f j))) :
    ∃ z t S0 P S2 : Num, xs.getD j (0, 0) = z ∧ tn (f j) = t ∧ sumK xs f j = S0 ∧ sumK xs f (j + 1) = S2 ∧ cmul32 z.1 z.2 t.1 t.2 = some (P.1, P.2) ∧
      floatBits .add .f32 S0.1 P.1 = some S2.1 ∧ floatBits .add .f32 S0.2 P.2 = some S2.2 ∧ finN P = true ∧ finN S2 = true :=
  ⟨_, _, _, _, _, rfl, rfl, rfl, rfl, h.mul, h.add1, h.add2, h.fmul, h.fadd⟩
theorem sTurnOf_wrap (s : Int) (j : Nat) (w : World) (h : -(256 * 16) ≤ s * j ∧ s * j ≤ 256 * 16) :
    Calls Try.prog 90 #[.int .i64 (IntKind.i64.wrap (s * j))] w fun e w' => e = .returned (.complex .f32 (tn (fT s j)).1 (tn (fT s j)).2) ∧ w.grownBy w' none := by
  rw [IntWalk.i64_in _ (by omega)]
  exact sTurnOf_any (s * j) w (by omega) (by omega)
theorem cell_grown {w w' : World} {a : Addr} {v : Value} (h : w.cell? a = some v) (hg : w.grownBy w' none) : w'.cell? a = some v := hg.cell h (by simp)
theorem gr_drew {a w' : World} {r : Option Nat} (h : a.drew.grownBy w' r) : a.grownBy w' r := ⟨h.os, h.tape, h.output, h.size, h.block⟩

set_option maxRecDepth 100000 in
set_option maxHeartbeats 4000000 in
theorem l2Sum_any (A : Option Addr) (n cap : Nat) (s : Int) (xs : List Num) (w : World) (h : Sig w A n xs) (hc : Calm xs) (hs : -256 ≤ s ∧ s ≤ 256) :
    Calls Try.prog 127 #[.slice A n cap, .int .i64 s] w (SumRes xs s w) := by
  have hl := h.1
  have hn16 : n ≤ 16 := by have := hc.1; omega
  have H := Lib.hid h
  have HL := Lib.hid hl
  have HC := Lib.hid hc
  clear h hl hc
  go_enter Try.func127, Try.ntmps127
  go_wp2_with fail
  go_loopw [6, 7] (fun v i wr => ∃ j : Nat, j ≤ n ∧ i = .int .i64 j ∧ v = C (sumK xs (fT s) j) ∧ w.grownBy wr none) (fun _ i _ => n - (intOf i).toNat)
  case atStart => exact ⟨0, Nat.zero_le _, rfl, rfl, grown_refl w none⟩
  case round =>
    obtain ⟨j, hj, rfl, rfl, hg⟩ := hrel
    by_cases hlt : j < n
    · obtain ⟨b, o, rfl, hbs, hcell⟩ := (H.out.grown hg).2.2 j hlt
      have q2 := mul_rng (a := s) (j := (j : Int)) (B := 256) (J := 16) hs (by omega) (by omega)
      have hstep := sumK_step HC.out (fT s) (fT_lt _) (k := j) (by have := HL.out; omega)
      have HQ2 := Lib.hid q2
      have HT0 : Hid (∀ W : World, Calls Try.prog 90 #[.int .i64 (IntKind.i64.wrap (s * j))] W fun e w' => e = .returned (.complex .f32 (tn (fT s j)).1 (tn (fT s j)).2) ∧ W.grownBy w' none) := fun W => sTurnOf_wrap s j W HQ2.out
      obtain ⟨z, t, S0, P, S2, hz, ht, hS0, hS2, e1, e2, e3, f1, f2⟩ := step_vars hstep
      have g1 := fun W : World => run_cmul32 (P := Try.prog) W 34 _ _ _ _ _ _ e1
      have g2 := fun W : World => cadd_run W 34 e2 e3
      have F1 := Lib.hid (finC_parts f1)
      have F2 := Lib.hid (finC_parts f2)
      have HK := Lib.hid hS2
      have HT := HT0
      rw [ht] at HT
      rw [hz] at hcell
      rw [hS0]
      clear hstep q2 hz ht hS0 hS2 e1 e2 e3 f1 f2 HT0
      unfold C at hcell ⊢
      go_wp2_with fail
      go_region_with ((go_at_call 90; refine (HT.out _).mono ?_; rintro e w2 ⟨rfl, hg2⟩; have hcell2 := cell_grown hcell (gr_drew hg2)))
      all_goals
        have hgg := grown_trans hg (gr_drew hg2)
        clear hg hg2 hcell hcell2
        go_wp2_with fail
        refine (sfinite_yes _ _ _ F1.out.1 F1.out.2).mono ?_
        rintro e w' ⟨rfl, rfl⟩
        go_wp2_with fail
        refine (sfinite_yes _ _ _ F2.out.1 F2.out.2).mono ?_
        rintro e w' ⟨rfl, rfl⟩
        go_wp2_with fail
        go_roundw
        case rel => exact ⟨j + 1, by omega, by go_num, by rw [HK.out], hgg⟩
        case measure => simp [intOf]; omega
    · obtain rfl : j = n := by omega
      go_wp2_with fail
      go_ret2
      refine ⟨?_, hg⟩
      rw [HL.out]
      rfl
end Go.Proofs.Ytcnlgoghnlcndaa
