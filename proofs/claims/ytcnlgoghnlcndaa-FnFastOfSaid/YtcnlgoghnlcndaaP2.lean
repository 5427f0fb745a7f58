/- Walks: PowersOf of spec; l20Sized. -/
import Derived.Test.YtcnlgoghnlcndaaP1
import Derived.Test.YtcnlgoghnlcndaaSg
namespace Go.Proofs.Ytcnlgoghnlcndaa
open Go.RowKit Ieee

theorem sig_one {z : Num} (h : finN z = true) : sigOk [z] = true := by unfold sigOk; simp [h]

set_option maxRecDepth 100000 in
set_option maxHeartbeats 4000000 in
theorem sEnergy_one (b o cap : Nat) (z : Num) (w : World) (hb : b < w.heap.size) (hcell : w.cell? ⟨b, o, none⟩ = some (C z)) (hz : finN z = true) :
    Calls Try.prog 107 #[.slice (some ⟨b, o, none⟩) 1 cap] w fun e w' => e = .returned (.float .f64 (pwN z)) ∧ ∃ d, w.drewN d = w' := by
  have hsig : Sig w (some ⟨b, o, none⟩) 1 [z] := ⟨rfl, by omega, fun k hk => ⟨b, o, rfl, hb, by obtain rfl : k = 0 := by omega
                                                                                                exact hcell⟩⟩
  obtain ⟨x, y, p, q, s, c1, c2, c3, c4, c5, c6, c7, c8, c9⟩ := pow_vars hz
  rw [c7]
  have H := Lib.hid hsig
  have HZ := Lib.hid (sig_one hz)
  have k1 := fun W : World => run_convert_float_float (P := Try.prog) W 43 42 .f32 .f64 z.1 x some43 Try.underlying42 c1
  have k2 := fun W : World => run_convert_float_float (P := Try.prog) W 43 42 .f32 .f64 z.2 y some43 Try.underlying42 c2
  have k3 := fun W : World => run_float_arith (P := Try.prog) W .mul 42 .f64 x x p c3
  have k4 := fun W : World => run_float_arith (P := Try.prog) W .mul 42 .f64 y y q c4
  have k5 := fun W : World => run_float_arith (P := Try.prog) W .add 42 .f64 0 p p c5
  have k6 := fun W : World => run_float_arith (P := Try.prog) W .add 42 .f64 p q s c6
  unfold C at hcell
  clear hsig hz c1 c2 c3 c4 c5 c6 c7 c8 c9
  go_enter Try.func107, Try.ntmps107
  go_wp2_with fail
  refine (sSignalOk_any _ _ _ [z] _ H.out).mono ?_
  rw [HZ.out]
  rintro e w' ⟨rfl, d, rfl⟩
  go_wp2_with fail
  go_loop [3, 4] (fun v i => (i = .int .i64 0 ∧ v = .float .f64 0) ∨ (i = .int .i64 1 ∧ v = .float .f64 s)) (fun _ i => 1 - (intOf i).toNat)
  case atStart => exact .inl ⟨rfl, rfl⟩
  case round =>
    rcases hrel with ⟨rfl, rfl⟩ | ⟨rfl, rfl⟩
    · go_wp2_with fail
      go_round
      case rel => exact .inr ⟨rfl, rfl⟩
      case measure => simp [intOf]
    · go_wp2_with fail
      go_ret
      exact ⟨rfl, d, rfl⟩

set_option maxRecDepth 100000 in
set_option maxHeartbeats 4000000 in
theorem sPowersOf_no (A : Option Addr) (n cap : Nat) (xs : List Num) (w : World) (h : Sig w A n xs) (hs : sizeOk xs = false) :
    Calls Try.prog 61 #[.slice A n cap] w (MadeT 42 F64 [] false w) := by
  have H := Lib.hid h
  have HS := Lib.hid hs
  clear h hs
  go_enter Try.func61, Try.ntmps61
  go_wp2_with fail
  refine (sTransformOf_no _ _ _ _ _ H.out HS.out).mono ?_
  intro e w1 hm
  obtain ⟨B, c, rfl, hcc, hcm, hr, ho, hg⟩ := hm.out (0, 0) (by simp)
  simp only [List.length_nil] at hcc ⊢
  have HN := Lib.hid ((madeT_nil 42 F64 w1 0).from hg)
  clear hm ho hr hg
  unfold maxLen at hcm
  go_wp2_with fail
  go_loop [6, 7] (fun v i => i = .int .i64 0 ∧ v = .slice (some ⟨w1.heap.size, 0, none⟩) 0 0) (fun _ _ => 0)
  case atStart => exact ⟨rfl, rfl⟩
  case round =>
    obtain ⟨rfl, rfl⟩ := hrel
    go_wp2_with fail
    go_ret2
    exact HN.out

set_option maxRecDepth 100000 in
set_option maxHeartbeats 4000000 in
theorem sPowersOf_yes (A : Option Addr) (n cap : Nat) (xs : List Num) (w : World) (h : Sig w A n xs) (hs : sizeOk xs = true) (hc : Calm xs) :
    Calls Try.prog 61 #[.slice A n cap] w (MadeT 42 F64 (powL xs) true w) := by
  have hl := h.1
  obtain ⟨_, _, hn1, hn16⟩ := sizeOk_parts hs
  rw [hl] at hn1 hn16
  have H := Lib.hid h
  have HL := Lib.hid hl
  have HS := Lib.hid hs
  have HC := Lib.hid hc
  clear h hl hs hc
  go_enter Try.func61, Try.ntmps61
  go_wp2_with fail
  refine (sTransformOf_yes _ _ _ _ _ H.out HS.out HC.out).mono ?_
  intro e w1 hm
  obtain ⟨B, c, rfl, hcc, hcm, hr, ho, hg⟩ := hm.out (0, 0) (by rw [dftL_length, HL.out]; omega)
  rw [dftL_length, HL.out] at hr hcc ⊢
  have S := Lib.hid (Sig.rw hr)
  have G := Lib.hid hg
  clear hm ho hr hg
  unfold maxLen at hcm
  have hst : AppSt 42 F64 (powF xs) w1 (.slice (some ⟨w1.heap.size, 0, none⟩) 0 0) 0 (w1.alloc (.cells #[] 42)) := AppSt.start
  go_wp2_with fail
  go_loopw [6, 7] (fun v i wr => ∃ k : Nat, k ≤ n ∧ i = .int .i64 k ∧ AppSt 42 F64 (powF xs) w1 v k wr) (fun _ i _ => n - (intOf i).toNat)
  case atStart => exact ⟨0, Nat.zero_le _, rfl, hst⟩
  case round =>
    obtain ⟨k, hk, rfl, h⟩ := hrel
    clear hst
    by_cases hlt : k < n
    · obtain ⟨b, o, rfl, hbs, hcell⟩ := (S.out.grown h.2).2.2 k hlt
      rw [dftL_at (by rw [HL.out]; exact hlt)] at hcell
      have HF := Lib.hid (dftN_fin HC.out k)
      have hcell' := Lib.hid hcell
      clear hcell
      have hkc : k + 1 ≤ c := by omega
      go_wp2_with fail
      refine (sEnergy_one b (o + k) _ (dftN xs k) _ hbs hcell'.out HF.out).mono ?_
      rintro e w2 ⟨rfl, d, rfl⟩
      have h2 := h.grow (grown_drewN (grown_refl wr none) d)
      have hsz := h2.size
      have hP : pwN (dftN xs k) = powF xs k := rfl
      rw [hP]
      clear h hP
      generalize hq : powF xs k = q at *
      have HQ := Lib.hid hq
      clear hq
      go_wp2_with (at_builtin; go_must (refine append_row (T := F64) _ rfl _ _ 55 42 (.float .f64 0) 8 rfl Try.underlying55 info42 rfl (by decide) w1.heap.size u6 k _ q rfl rfl h2.1 rfl (by omega) hsz ?_); intro v' w' ho' hg')
      go_roundw
      case rel => exact ⟨k + 1, by omega, by go_num, h2.step (by rw [HQ.out]; exact ho') (by rw [HQ.out]; exact hg')⟩
      case measure => simp [intOf]; omega
    · have hkn : k = n := by omega
      have hd := Lib.hid ((h.doneT (n := n) hkn).from G.out)
      clear hkn
      go_wp2_with fail
      go_ret2
      unfold powL
      rw [HL.out]
      exact hd.out
end Go.Proofs.Ytcnlgoghnlcndaa
