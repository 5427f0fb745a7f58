/- The walk of the law FnTogether: true at every code. -/
import Derived.Test.YtcnlgoghnlcndaaTa
import Derived.Test.YtcnlgoghnlcndaaTk
import Derived.Test.YtcnlgoghnlcndaaTl
import Derived.Test.YtcnlgoghnlcndaaTg
import Derived.Test.YtcnlgoghnlcndaaLExactWindowOf
namespace Go.Proofs.Ytcnlgoghnlcndaa
open Go.RowKit Ieee

theorem finw_same {ws : List Num} {n : Nat} (h : FinW ws) : ∀ k, k < n → valEq (ws.getD k (0, 0)) (ws.getD k (0, 0)) := fun k _ => valEq.refl (h k)
theorem finw_sig {ws : List Num} (h : FinW ws) (hl : ws.length ≤ 16) : sigOk ws = true := by
  unfold sigOk
  simp only [Bool.and_eq_true, decide_eq_true_eq]
  refine ⟨hl, ?_⟩
  rw [List.all_eq_true]
  intro v hv
  obtain ⟨i, hi, rfl⟩ := List.mem_iff_getElem.1 hv
  have := h i
  simpa [List.getD, hi] using this

set_option maxRecDepth 100000 in
set_option maxHeartbeats 8000000 in
theorem FnTogether_walk (A : Option Addr) (n cap : Nat) (w : World) (h : Code w A n cap) :
    Calls Try.prog 17 #[.slice A n cap] w fun e w' => e = .returned (.bool true) ∧ Below w.heap.size w w' := by
  have hm := h.2.1
  unfold maxLen at hm
  rcases Nat.lt_or_ge 1048576 n with hn | hn
  · go_enter Try.func17, Try.ntmps17
    go_wp2_with fail
    go_ret
    exact ⟨rfl, Below.refl _ _⟩
  have H := Lib.hid h
  clear h
  go_enter Try.func17, Try.ntmps17
  go_wp2_with fail
  refine (DrawTogether_of DrawPiecesOf_any _ _ _ _ H.out).mono ?_
  rintro e w1 ⟨B, c, ps, rfl, hl16, hc, hcm, hp, hb⟩
  have hsz := hb.size
  have P := Lib.hid hp
  unfold maxLen at hcm
  clear H hp
  have HL : Hid (ps.length = ps.length) := Lib.hid rfl
  generalize hml : ps.length = m at P hl16 hc HL ⊢
  clear HL
  have HL := Lib.hid hml
  clear hml
  go_wp2_with fail
  refine (Together_any _ _ _ _ _ P.out hl16).mono ?_
  intro e w2 hres
  rcases hres with ⟨hno, B2, c2, rfl, hcm2, hg2⟩ | ⟨ws, hts, hmd⟩
  · have HNo := Lib.hid hno
    have hb2 := below_grown hb hg2 hsz
    have hsz2 : w.heap.size ≤ w2.heap.size := Nat.le_trans hsz hg2.size
    have P2 := Lib.hid (P.out.grown hg2)
    clear hg2 hno
    unfold maxLen at hcm2
    go_wp2_with fail
    refine (sTogether_any _ _ _ _ _ P2.out hl16).mono ?_
    intro e w3 hres
    rcases hres with ⟨hno, B3, c3, rfl, hcm3, hg3⟩ | ⟨ws, hts, hmd⟩
    · have hb3 := below_grown hb2 hg3 hsz2
      clear hg3 hno
      unfold maxLen at hcm3
      go_wp2_with fail
      refine (sameSignal_eq B2 B3 0 _ _ [] [] _ (Sig.nil _ _) (Sig.nil _ _) (fun k hk => absurd hk (by omega))).mono ?_
      rintro e w' ⟨rfl, d2, rfl⟩
      go_wp2_with fail
      refine (alive_any _).mono ?_
      rintro e w' ⟨rfl, rfl⟩
      go_wp2_with fail
      go_ret
      refine ⟨rfl, ?_⟩
      repeat (first | exact hb3 | refine below_drewN ?_ _)
    · exact absurd (HNo.out.symm.trans hts) (by simp)
  · obtain ⟨hok, htg, hfw, hlw⟩ := togR_some hts
    obtain ⟨hm1, hpb, h16, hpc⟩ := togOk_parts hok
    rw [HL.out] at htg hlw hm1 h16 hpc
    have HTS := Lib.hid hts
    have FW := Lib.hid hfw
    have HLW := Lib.hid hlw
    have hpl : ∀ j, j < m → (ps.getD j []).length = 2 * hfP ps := fun j hj => (pcB_parts (hpc j hj)).1
    have HPL := Lib.hid hpl
    have hh1 : 1 ≤ hfP ps := by
      have e := hpl 0 hm1
      rcases piece_cases hpb with q | q | q | q <;> omega
    have hh8 : hfP ps ≤ 16 := by
      have := Nat.mul_le_mul_left (hfP ps) hm1
      omega
    have HTG := Lib.hid htg
    have GSO := Lib.hid (fun (hw : ∀ j, j < m → AllWhole (ps.getD j []) 1000) => tgO_GS (h := hfP ps) (N := hfP ps * m) (ps := ps) (Nat.mul_pos hh1 hm1) (fun j hj => hpl j (by rw [HL.out] at hj; exact hj)) (fun j hj => hw j (by rw [HL.out] at hj; exact hj)) m ws (by rw [HL.out]; exact Nat.le_refl _) (by rw [Nat.mul_assoc]; omega) htg)
    have B16 : Hid (hfP ps * m ≤ 16) := Lib.hid h16
    clear hok htg hfw hlw hpb hpc hpl hts
    have hNn : 1 ≤ hfP ps * m := Nat.mul_pos hh1 hm1
    have HT0 : Hid (G (0, 0) (TX ps (2 * hfP ps) 0) (TY ps (2 * hfP ps) 0)) := Lib.hid G_zero
    have HSS := Lib.hid (fun (k i : Nat) (s : Num) (hk : k < m) (hw : ∀ j, j ≤ k → AllWhole (ps.getD j []) 1000) (hi : i < 2 * hfP ps) hs =>
      sum_step (ps := ps) (n := 2 * hfP ps) (j := k) (i := i) (s := s) (fun j hj => HPL.out j (by omega)) hw hi (by
        have a : hfP ps * (k + 1) ≤ hfP ps * m := Nat.mul_le_mul_left _ (by omega)
        have e : 1000 * (2 * hfP ps) * (k + 1) = 2000 * (hfP ps * (k + 1)) := by rw [show 1000 * (2 * hfP ps) = 2000 * hfP ps by omega, Nat.mul_assoc]
        omega) hs)
    generalize hfP ps = h at *
    generalize hN : h * m = N at *
    obtain ⟨n0, hn0⟩ : ∃ n0, 2 * h = n0 := ⟨_, rfl⟩
    rw [hn0] at HT0 HSS HPL GSO
    have hn32 : n0 ≤ 32 := by omega
    have HN0 := Lib.hid hn0
    have HNE := Lib.hid hN
    clear hn0 hN
    obtain ⟨B2, c2, rfl, hc2, hcm2, hr2, ho2, hg2⟩ := hmd.out (0, 0) (by rw [HLW.out]; omega)
    rw [HLW.out] at hr2 hc2 ⊢
    have hb2 := below_grown hb hg2 hsz
    have hsz2 : w.heap.size ≤ w2.heap.size := Nat.le_trans hsz hg2.size
    have P2 := Lib.hid (P.out.grown hg2)
    have Y2 := Lib.hid (Sig.rw hr2)
    clear hmd ho2 hg2 hr2 P
    unfold maxLen at hcm2
    go_wp2_with fail
    refine (sTogether_any _ _ _ _ _ P2.out hl16).mono ?_
    intro e w3 hres
    rcases hres with ⟨hno, _⟩ | ⟨ws', hts', hmd⟩
    · exact absurd (HTS.out.symm.trans hno) (by simp)
    obtain rfl : ws = ws' := by
      have := HTS.out.symm.trans hts'
      simpa using this
    obtain ⟨B3, c3, rfl, hc3, hcm3, hr3, ho3, hg3⟩ := hmd.out (0, 0) (by rw [HLW.out]; omega)
    rw [HLW.out] at hr3 hc3 ⊢
    have hb3 := below_grown hb2 hg3 hsz2
    have hsz3 : w.heap.size ≤ w3.heap.size := Nat.le_trans hsz2 hg3.size
    have P3 := Lib.hid (P2.out.grown hg3)
    have Y3 := Lib.hid (Y2.out.grown hg3)
    have U3 := Lib.hid (Sig.rw hr3)
    clear hmd ho3 hg3 hr3 hts' P2 Y2
    unfold maxLen at hcm3
    go_wp2_with fail
    refine (sameSignal_eq B2 B3 N c2 c3 _ _ w3 Y3.out U3.out (finw_same FW.out)).mono ?_
    rintro e w' ⟨rfl, d0, rfl⟩
    clear U3
    have HB3 := Lib.hid hb3
    clear hb2 hb3
    go_wp2_with fail
    go_loopw [8, 9] (fun v i wr => ∃ k : Nat, k ≤ m ∧ i = .int .i64 k ∧ ∃ s : Num, v = .complex .f32 s.1 s.2 ∧ Hid ((∀ j, j < k → AllWhole (ps.getD j []) 1000) ∧ G s (TX ps n0 k) (TY ps n0 k)) ∧ ∃ d, w3.drewN d = wr) (fun _ i _ => m - (intOf i).toNat)
    case atStart => exact ⟨0, Nat.zero_le _, rfl, (0, 0), rfl, Lib.hid ⟨fun j hj => absurd hj (by omega), HT0.out⟩, d0, rfl⟩
    case round =>
      obtain ⟨k, hk, rfl, s, rfl, hst, d, rfl⟩ := hrel
      by_cases hlt : k < m
      · obtain ⟨b, o, B', c', rfl, hbs, hcell, hc1, hcm', hsig⟩ := P3.out.2.2 k hlt
        have HPk := HPL.out k hlt
        rw [HPk] at hcell hc1 hsig
        have HS := Lib.hid hsig
        have HSk := Lib.hid (fun (i : Nat) (s : Num) hw hi hs => HSS.out k i s hlt hw hi hs)
        have HWd : Hid ((∀ j, j < k → AllWhole (ps.getD j []) 1000) → AllWhole (ps.getD k []) 1000 → ∀ j, j ≤ k → AllWhole (ps.getD j []) 1000) := Lib.hid (fun a b j hj => by
          rcases Nat.lt_or_ge j k with q | q
          · exact a j q
          · obtain rfl : j = k := by omega
            exact b)
        obtain ⟨t1, t2⟩ := TX_succ ps n0 k
        have HTS1 := Lib.hid t1
        have HTS2 := Lib.hid t2
        generalize hpk : ps.getD k [] = p at *
        have HPP := Lib.hid hpk
        unfold maxLen at hcm'
        clear hsig HPk t1 t2 hpk
        go_wp2_with fail
        refine (wholeSignal_any B' n0 c' 1000 p _ (HS.out.drewN d) (by omega) (by omega)).mono ?_
        rintro e w' ⟨bw, rfl, hw, d2, rfl⟩
        cases bw
        · clear hw
          go_wp2_with fail
          refine (SignalOk_any B2 N c2 ws _ (Y3.out.drewN _)).mono ?_
          rw [finw_sig FW.out (by rw [HLW.out]; exact B16.out)]
          rintro e w' ⟨rfl, d3, rfl⟩
          go_wp2_with fail
          go_ret
          refine ⟨rfl, ?_⟩
          repeat (first | exact HB3.out | refine below_drewN ?_ _)
        · have HAll := Lib.hid (HWd.out hst.out.1 (hw rfl))
          have HG0 : Hid (G s (TX ps n0 k + sumZ (gX p) 0) (TY ps n0 k + sumZ (gY p) 0)) := Lib.hid (by simpa [sumZ] using hst.out.2)
          clear hw hst HWd
          go_wp2_with fail
          go_loop [8, 10] (fun v i => ∃ i' : Nat, i' ≤ n0 ∧ i = .int .i64 i' ∧ ∃ s : Num, v = .complex .f32 s.1 s.2 ∧ Hid (G s (TX ps n0 k + sumZ (gX p) i') (TY ps n0 k + sumZ (gY p) i'))) (fun _ i => n0 - (intOf i).toNat)
          case atStart => exact ⟨0, Nat.zero_le _, rfl, s, rfl, HG0⟩
          case round =>
            obtain ⟨i, hi, rfl, s', rfl, hg⟩ := hrel
            by_cases hli : i < n0
            · obtain ⟨b2, o2, rfl, hb2, hcz⟩ := HS.out.2.2 i hli
              obtain ⟨m1, m2, m3⟩ := HSk.out i s' HAll.out hli hg.out
              have g1 := fun W : World => cadd_run W 34 m1 m2
              have M3 := Lib.hid m3
              generalize p.getD i (0, 0) = z at *
              generalize addN s' z = r at *
              unfold C at hcz
              clear m1 m2 m3 hg
              go_wp2_with fail
              go_round
              case rel => exact ⟨i + 1, by omega, by go_num, r, rfl, M3⟩
              case measure => simp [intOf]; omega
            · obtain rfl : i = n0 := by omega
              have hnew : Hid ((∀ j, j < k + 1 → AllWhole (ps.getD j []) 1000) ∧ G s' (TX ps i (k + 1)) (TY ps i (k + 1))) := Lib.hid ⟨fun j hj => HAll.out j (by omega), by rw [HTS1.out, HTS2.out]; exact hg.out⟩
              go_wp2_with fail
              go_roundw
              case rel => exact ⟨k + 1, by omega, by go_num, s', rfl, hnew, d + d2, by first | rfl | rw [World.drewN_drewN]⟩
              case measure => simp [intOf]; omega
      · obtain rfl : k = m := by omega
        have hgs := GSO.out hst.out.1
        have hb40 : 1000 * (n0 * k) ≤ 40000 := by
          rw [← HN0.out, Nat.mul_assoc, HNE.out]
          have := B16.out
          omega
        rcases Bool.eq_false_or_eq_true (sizeOk ws) with ho | ho
        · have HO := Lib.hid ho
          have CA := Lib.hid (hgs.calm HLW.out B16.out hb40)
          obtain ⟨q1, q2⟩ := G_same (hgs.dft HLW.out B16.out hb40) hst.out.2
          have HON := Lib.hid (fun (W : World) (hW : Sig W B2 N ws) => OneNumberOf_yes B2 N c2 ws W hW ho CA.out)
          generalize sumK ws (fT 0) ws.length = z at *
          unfold C at HON
          clear ho hgs
          go_wp2_with fail
          refine (HON.out _ (Y3.out.drewN _)).mono ?_
          rintro e w4 ⟨rfl, hg4⟩
          have hb4 := below_grown (below_drewN HB3.out d) hg4 hsz3
          have Y4 := Lib.hid ((Y3.out.drewN d).grown hg4)
          clear hg4
          go_wp2_with fail
          refine (sSizeOk_any B2 N c2 ws _ Y4.out).mono ?_
          rw [HO.out]
          rintro e w' ⟨rfl, d3, rfl⟩
          go_wp2_with fail
          go_ret
          refine ⟨rfl, ?_⟩
          repeat (first | exact hb4 | refine below_drewN ?_ _)
        · have HO := Lib.hid ho
          clear ho hgs
          go_wp2_with fail
          refine (OneNumberOf_no _ _ _ _ _ (Y3.out.drewN _) HO.out).mono ?_
          rintro e w' ⟨rfl, d2, rfl⟩
          go_wp2_with fail
          refine (sSizeOk_any B2 N c2 ws _ (Y3.out.drewN _)).mono ?_
          rw [HO.out]
          rintro e w' ⟨rfl, d3, rfl⟩
          go_wp2_with fail
          go_ret
          refine ⟨rfl, ?_⟩
          repeat (first | exact HB3.out | refine below_drewN ?_ _)
end Go.Proofs.Ytcnlgoghnlcndaa
