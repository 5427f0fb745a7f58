/- Walk: EnergyOf of impl. -/
import Derived.Test.YtcnlgoghnlcndaaEn
import Derived.Test.YtcnlgoghnlcndaaRo
namespace Go.Proofs.Ytcnlgoghnlcndaa
open Go.RowKit Ieee

theorem en_round {s k : Nat} {xs : List Num} (hall : xs.all finN = true) (hk : k < xs.length) (hk5 : xs.length ≤ 50) (hs : fin double s = true) (hv : iv double s = enI (xs.take k)) {a b : Nat} (hz : xs.getD k (0, 0) = (a, b)) :
    ∃ x y p q s1 s2, floatToFloatBits .f32 a .f64 = some x ∧ floatToFloatBits .f32 b .f64 = some y ∧ floatBits .mul .f64 x x = some p ∧ floatBits .add .f64 s p = some s1 ∧ floatBits .mul .f64 y y = some q ∧ floatBits .add .f64 s1 q = some s2 ∧
      fin double s2 = true ∧ iv double s2 = enI (xs.take (k + 1)) := by
  have e : xs[k] = (a, b) := by have : xs.getD k (0, 0) = xs[k] := by simp [List.getD, hk]
                                rw [← this, hz]
  have hx : finN xs[k] = true := List.all_eq_true.1 hall _ (List.getElem_mem hk)
  rw [e] at hx
  obtain ⟨f1, f2⟩ := finC_parts hx
  obtain ⟨x, ex, _, _⟩ := conv_up f1
  obtain ⟨y, ey, _, _⟩ := conv_up f2
  obtain ⟨p, p1, p2', p3⟩ := mul_up f1 f1 ex ex
  obtain ⟨q, q1, q2, q3⟩ := mul_up f2 f2 ey ey
  have hb := en_bound hall k (by omega) (by omega)
  rw [← hv] at hb
  obtain ⟨g1, g2⟩ := en_add hb f1 (by omega)
  obtain ⟨s1, t1, t2, t3⟩ := add_iv double hs p2'
  have ep : iv double p = sqI a := p3
  have eq : iv double q = sqI b := q3
  rw [ep] at t2 t3
  rw [g1] at t2
  rw [← t3] at g2
  obtain ⟨g3, g4⟩ := en_add g2 f2 (by omega)
  obtain ⟨s2, u1, u2, u3⟩ := add_iv double t2 q2
  rw [eq] at u2 u3
  rw [g3] at u2
  refine ⟨x, y, p, q, s1, s2, ex, ey, p1, t1, q1, u1, u2, ?_⟩
  rw [u3, t3, hv, List.take_succ_eq_append_getElem hk, e]
  unfold enI
  rw [List.foldl_append]
  rfl

/-- What EnergyOf gives. -/
def EnRes (xs : List Num) (w : World) (e : Ending) (w' : World) : Prop := ∃ r : Nat, e = .returned (.float .f64 r) ∧ fin double r = true ∧ iv double r = enI xs ∧ ∃ d, w.drewN d = w'

theorem en_zero : fin double 0 = true ∧ iv double 0 = 0 := by decide +kernel

set_option maxRecDepth 100000 in
set_option maxHeartbeats 4000000 in
theorem EnergyOf_any (A : Option Addr) (n cap : Nat) (xs : List Num) (w : World) (h : Sig w A n xs) (hs : sigOk xs = true) :
    Calls Try.prog 46 #[.slice A n cap] w (EnRes xs w) := by
  have hl := h.1
  have hp : xs.length ≤ 16 ∧ xs.all finN = true := by unfold sigOk at hs; simpa using hs
  have hn16 : n ≤ 16 := by omega
  have H := Lib.hid h
  have HS := Lib.hid hs
  have HL := Lib.hid hl
  have HP := Lib.hid hp
  clear h hs hl hp
  go_enter Try.func46, Try.ntmps46
  go_wp2_with fail
  refine (SignalOk_any _ _ _ _ _ H.out).mono ?_
  rw [HS.out]
  rintro e w' ⟨rfl, d, rfl⟩
  go_wp2_with fail
  go_loop [3, 13] (fun s i => ∃ k : Nat, k ≤ n ∧ i = .int .i64 k ∧ ∃ b : Nat, s = .float .f64 b ∧ Hid (fin double b = true ∧ iv double b = enI (xs.take k))) (fun _ i => n - (intOf i).toNat)
  case atStart => exact ⟨0, Nat.zero_le _, rfl, 0, rfl, en_zero⟩
  case round =>
    obtain ⟨k, hk, rfl, s, rfl, hst⟩ := hrel
    by_cases hlt : k < n
    · obtain ⟨b, o, rfl, hbs, hcell⟩ := H.out.2.2 k hlt
      obtain ⟨p, q, hpq⟩ : ∃ p q, xs.getD k (0, 0) = (p, q) := ⟨_, _, rfl⟩
      rw [hpq] at hcell
      unfold C at hcell
      simp only at hcell
      obtain ⟨x, y, pp, qq, s1, s2, c1, c2, c3, c4, c5, c6, c7, c8⟩ := en_round HP.out.2 (by have := HL.out; omega) (by have := HP.out.1; omega) hst.out.1 hst.out.2 hpq
      have k1 := fun W : World => run_convert_float_float (P := Try.prog) W 43 42 .f32 .f64 p x some43 Try.underlying42 c1
      have k2 := fun W : World => run_convert_float_float (P := Try.prog) W 43 42 .f32 .f64 q y some43 Try.underlying42 c2
      have k3 := fun W : World => run_float_arith (P := Try.prog) W .mul 42 .f64 x x pp c3
      have k4 := fun W : World => run_float_arith (P := Try.prog) W .add 42 .f64 s pp s1 c4
      have k5 := fun W : World => run_float_arith (P := Try.prog) W .mul 42 .f64 y y qq c5
      have k6 := fun W : World => run_float_arith (P := Try.prog) W .add 42 .f64 s1 qq s2 c6
      have C7 := Lib.hid c7
      have C8 := Lib.hid c8
      clear hpq hst c1 c2 c3 c4 c5 c6 c7 c8
      go_wp2_with fail
      go_round
      case rel => exact ⟨k + 1, by omega, by go_num, s2, rfl, C7.out, C8.out⟩
      case measure => simp [intOf]; omega
    · go_wp2_with fail
      go_ret
      refine ⟨s, rfl, hst.out.1, ?_, d, rfl⟩
      have h2 := hst.out.2
      rwa [List.take_of_length_le (by have := HL.out; omega)] at h2
end Go.Proofs.Ytcnlgoghnlcndaa
