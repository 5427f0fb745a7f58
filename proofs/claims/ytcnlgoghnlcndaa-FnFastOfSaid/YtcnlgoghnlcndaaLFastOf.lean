/- The walk of the law FnFastOf: true at every code. -/
import Derived.Test.YtcnlgoghnlcndaaFq
import Derived.Test.YtcnlgoghnlcndaaTh
import Derived.Test.YtcnlgoghnlcndaaNr
import Derived.Test.YtcnlgoghnlcndaaWk
import Derived.Test.YtcnlgoghnlcndaaGr
import Derived.Test.YtcnlgoghnlcndaaLExactWindowOf
namespace Go.Proofs.Ytcnlgoghnlcndaa
open Go.RowKit Ieee

set_option maxHeartbeats 1000000 in
theorem DrawFastOf_any (A : Option Addr) (n cap : Nat) (w : World) (h : Code w A n cap) : Calls Try.prog 77 #[.slice A n cap] w (DrawSig w) := by
  go_enter Try.func77, Try.ntmps77
  go_wp2_with fail
  refine (open_any _ _ _ _ h).mono ?_
  rintro e w1 ⟨rfl, hb1, hr1⟩
  go_wp2_with fail
  refine (sized_any _ _ _ hr1 (by omega)).mono ?_
  intro e w2 hs
  obtain ⟨B, c, xs, rfl, rest⟩ := DrawSig.of hb1 hs
  have HR := Lib.hid rest
  clear rest hs
  go_wp2_with fail
  go_ret
  exact ⟨B, c, xs, rfl, HR.out⟩

theorem size_powF {xs : List Num} (h : sizeOk xs = true) : ∃ m, m ≤ 4 ∧ xs.length = 2 ^ m := by
  obtain ⟨hp, _, _, _⟩ := sizeOk_parts h
  rcases pow_cases hp with e | e | e | e | e
  · exact ⟨0, by omega, by omega⟩
  · exact ⟨1, by omega, by omega⟩
  · exact ⟨2, by omega, by omega⟩
  · exact ⟨3, by omega, by omega⟩
  · exact ⟨4, by omega, by omega⟩
theorem fin_sameF {xs : List Num} {n : Nat} (hl : xs.length = n) (h : xs.all finN = true) : ∀ k, k < n → valEq (xs.getD k (0, 0)) (xs.getD k (0, 0)) := by
  intro k hk
  have hk' : k < xs.length := by omega
  have e : xs.getD k (0, 0) = xs[k] := by simp [List.getD, hk']
  rw [e]
  exact valEq.refl (List.all_eq_true.1 h _ (List.getElem_mem hk'))
theorem faL_finF {m : Nat} {x : Nat → Num} (hm : m ≤ 4) (h : CalmF m x) : (faL m x).all finN = true := by
  rw [List.all_eq_true]
  intro v hv
  obtain ⟨p, hp, rfl⟩ := List.mem_map.1 hv
  exact h.fin hm (List.mem_range.1 hp)
theorem two_le {m : Nat} (h : 2 ^ m ≤ 4) : m ≤ 2 := by
  rcases Nat.lt_or_ge 2 m with h3 | h3
  · have := Nat.pow_le_pow_right (n := 2) (by omega) h3
    omega
  · exact h3

set_option maxRecDepth 100000 in
set_option maxHeartbeats 4000000 in
theorem FnFastOf_walk (A : Option Addr) (n cap : Nat) (w : World) (h : Code w A n cap) :
    Calls Try.prog 18 #[.slice A n cap] w fun e w' => e = .returned (.bool true) ∧ Below w.heap.size w w' := by
  have hm := h.2.1
  unfold maxLen at hm
  rcases Nat.lt_or_ge 1048576 n with hn | hn
  · go_enter Try.func18, Try.ntmps18
    go_wp2_with fail
    go_ret
    exact ⟨rfl, Below.refl _ _⟩
  have H := Lib.hid h
  clear h
  go_enter Try.func18, Try.ntmps18
  go_wp2_with fail
  refine (DrawFastOf_any _ _ _ _ H.out).mono ?_
  rintro e w1 ⟨B, c, xs, rfl, hd, hc, hcm, hs, hb⟩
  have hsz := hb.size
  have S := Lib.hid hs
  have D := Lib.hid hd
  unfold maxLen at hcm
  clear H hs hd
  rcases Bool.eq_false_or_eq_true (sizeOk xs) with ho | ho
  · obtain ⟨_, hso, hn1, hn16⟩ := sizeOk_parts ho
    obtain ⟨m, hm4, hlen⟩ := size_powF ho
    have hcf := calmF_of (D.out.calm hso) hlen
    have hll := faL_length m (atX xs)
    have hll2 : (dftL xs).length = 2 ^ m := (dftL_length xs).trans hlen
    have SM := Lib.hid (fin_sameF hll (faL_finF hm4 hcf))
    rw [hlen] at S
    have SP := Lib.hid (fun (W : World) (hW : Sig W B (2 ^ m) xs) => sFastOf_yes m _ rfl hm4 B c xs W hW ho hcf)
    have FO := Lib.hid (fun (W : World) (hW : Sig W B (2 ^ m) xs) => FastOf_yes m hm4 B c xs W hW ho hcf)
    have TR := Lib.hid (fun (W : World) (hW : Sig W B (2 ^ m) xs) => TransformOf_yes B _ c xs W hW ho (D.out.calm hso))
    have SW := Lib.hid (fun (hW : AllWhole xs 1000) (h4 : 2 ^ m ≤ 4) (k : Nat) (hk : k < 2 ^ m) => (by
      have e1 : (faL m (atX xs)).getD k (0, 0) = faN m (atX xs) k := faL_at hk
      have e2 : (dftL xs).getD k (0, 0) = dftN xs k := getD_range (dftN xs) (0, 0) (by rw [hlen]; exact hk)
      rw [e1, e2]
      exact fast_small (two_le h4) hlen hW hk : valEq ((faL m (atX xs)).getD k (0, 0)) ((dftL xs).getD k (0, 0))))
    have SN := Lib.hid (fun (hW : AllWhole xs 10) (k : Nat) (hk : k < 2 ^ m) => (by
      have e1 : (faL m (atX xs)).getD k (0, 0) = faN m (atX xs) k := faL_at hk
      have e2 : (dftL xs).getD k (0, 0) = dftN xs k := getD_range (dftN xs) (0, 0) (by rw [hlen]; exact hk)
      rw [e1, e2]
      exact fast_near hm4 hlen hW hk : NearN ((faL m (atX xs)).getD k (0, 0)) ((dftL xs).getD k (0, 0))))
    have HL := Lib.hid hll
    have HL2 := Lib.hid hll2
    rw [hlen] at hn1 hn16 hc ⊢
    clear ho hso D hlen hll hll2 hcf
    generalize faL m (atX xs) = ys at *
    generalize dftL xs = zs at *
    generalize 2 ^ m = N at *
    go_wp2_with fail
    refine (FO.out _ S.out).mono ?_
    intro e w2 hmd
    obtain ⟨B2, c2, rfl, hc2, hcm2, hr2, ho2, hg2⟩ := hmd.out (0, 0) (by rw [HL.out]; omega)
    rw [HL.out] at hr2 hc2 ⊢
    have hb2 := below_grown hb hg2 hsz
    have hsz2 : w.heap.size ≤ w2.heap.size := Nat.le_trans hsz hg2.size
    have S2 := Lib.hid (S.out.grown hg2)
    have Y2 := Lib.hid (Sig.rw hr2)
    clear hmd ho2 hg2 hr2
    unfold maxLen at hcm2
    go_wp2_with fail
    refine (SP.out _ S2.out).mono ?_
    intro e w3 hmd
    obtain ⟨B3, c3, rfl, hc3, hcm3, hr3, ho3, hg3⟩ := hmd.out (0, 0) (by rw [HL.out]; omega)
    rw [HL.out] at hr3 hc3 ⊢
    have hb3 := below_grown hb2 hg3 hsz2
    have hsz3 : w.heap.size ≤ w3.heap.size := Nat.le_trans hsz2 hg3.size
    have S3 := Lib.hid (S2.out.grown hg3)
    have Y3 := Lib.hid (Y2.out.grown hg3)
    have U3 := Lib.hid (Sig.rw hr3)
    clear hmd ho3 hg3 hr3
    unfold maxLen at hcm3
    go_wp2_with fail
    refine (sameSignal_eq B2 B3 N c2 c3 _ _ w3 Y3.out U3.out SM.out).mono ?_
    rintro e w' ⟨rfl, d, rfl⟩
    go_wp2_with fail
    refine (TR.out _ (S3.out.drewN d)).mono ?_
    intro e w4 hmd
    obtain ⟨B4, c4, rfl, hc4, hcm4, hr4, ho4, hg4⟩ := hmd.out (0, 0) (by rw [HL2.out]; omega)
    rw [HL2.out] at hr4 hc4 ⊢
    have hb4 := below_grown (below_drewN hb3 d) hg4 hsz3
    have S4 := Lib.hid ((S3.out.drewN d).grown hg4)
    have Y4 := Lib.hid ((Y3.out.drewN d).grown hg4)
    have U4 := Lib.hid (Sig.rw hr4)
    clear hmd ho4 hg4 hr4
    unfold maxLen at hcm4
    go_wp2_with fail
    refine (wholeSignal_any B N c 1000 xs _ S4.out (by omega) (by omega)).mono ?_
    rintro e w' ⟨bw, rfl, hw, d2, rfl⟩
    cases bw
    · clear hw
      go_wp2_with fail
      refine (wholeSignal_any B N c 10 xs _ (S4.out.drewN d2) (by omega) (by omega)).mono ?_
      rintro e w' ⟨bw, rfl, hw, d3, rfl⟩
      cases bw
      · clear hw
        go_wp2_with fail
        go_ret
        refine ⟨rfl, ?_⟩
        repeat (first | exact hb4 | refine below_drewN ?_ _)
      · have W := Lib.hid (hw rfl)
        clear hw
        go_wp2_with fail
        refine (nearSignal_yes B2 B4 N c2 c4 _ _ _ (Y4.out.drewN _) (U4.out.drewN _) (SN.out W.out)).mono ?_
        rintro e w' ⟨rfl, d4, rfl⟩
        go_wp2_with fail
        go_ret
        refine ⟨rfl, ?_⟩
        repeat (first | exact hb4 | refine below_drewN ?_ _)
    · have W0 := Lib.hid (hw rfl)
      clear hw
      by_cases h4 : N ≤ 4
      · have d4 : decide (N ≤ 4) = true := by simpa using h4
        have SW' := Lib.hid (SW.out W0.out h4)
        go_wp2_with fail
        refine (sameSignal_eq B2 B4 N c2 c4 _ _ _ (Y4.out.drewN d2) (U4.out.drewN d2) SW'.out).mono ?_
        rintro e w' ⟨rfl, d5, rfl⟩
        go_wp2_with fail
        refine (wholeSignal_any B N c 10 xs _ (S4.out.drewN _) (by omega) (by omega)).mono ?_
        rintro e w' ⟨bw, rfl, hw, d3, rfl⟩
        cases bw
        · clear hw
          go_wp2_with fail
          go_ret
          refine ⟨rfl, ?_⟩
          repeat (first | exact hb4 | refine below_drewN ?_ _)
        · have W := Lib.hid (hw rfl)
          clear hw
          go_wp2_with fail
          refine (nearSignal_yes B2 B4 N c2 c4 _ _ _ (Y4.out.drewN _) (U4.out.drewN _) (SN.out W.out)).mono ?_
          rintro e w' ⟨rfl, d6, rfl⟩
          go_wp2_with fail
          go_ret
          refine ⟨rfl, ?_⟩
          repeat (first | exact hb4 | refine below_drewN ?_ _)
      · have d4 : decide (N ≤ 4) = false := by simpa using h4
        go_wp2_with fail
        refine (wholeSignal_any B N c 10 xs _ (S4.out.drewN d2) (by omega) (by omega)).mono ?_
        rintro e w' ⟨bw, rfl, hw, d3, rfl⟩
        cases bw
        · clear hw
          go_wp2_with fail
          go_ret
          refine ⟨rfl, ?_⟩
          repeat (first | exact hb4 | refine below_drewN ?_ _)
        · have W := Lib.hid (hw rfl)
          clear hw
          go_wp2_with fail
          refine (nearSignal_yes B2 B4 N c2 c4 _ _ _ (Y4.out.drewN _) (U4.out.drewN _) (SN.out W.out)).mono ?_
          rintro e w' ⟨rfl, d6, rfl⟩
          go_wp2_with fail
          go_ret
          refine ⟨rfl, ?_⟩
          repeat (first | exact hb4 | refine below_drewN ?_ _)
  · have HO := Lib.hid ho
    clear ho
    go_wp2_with fail
    refine (FastOf_no _ _ _ _ _ S.out HO.out).mono ?_
    rintro e w' ⟨rfl, d, rfl⟩
    go_wp2_with fail
    refine (sFastOf_no _ _ _ _ _ (S.out.drewN d) HO.out).mono ?_
    intro e w2 hmd
    obtain ⟨B2, c2, rfl, hc2, hcm2, hr2, ho2, hg2⟩ := hmd.out (0, 0) (by simp)
    simp only [List.length_nil] at hr2 hc2 ⊢
    have hb2 := below_grown (below_drewN hb d) hg2 hsz
    clear hmd ho2 hg2
    unfold maxLen at hcm2
    go_wp2_with fail
    refine (sameSignal_eq none B2 0 _ _ [] [] _ (Sig.nil _ _) (Sig.rw hr2) (fun k hk => absurd hk (by omega))).mono ?_
    rintro e w' ⟨rfl, d2, rfl⟩
    go_wp2_with fail
    refine (alive_any _).mono ?_
    rintro e w' ⟨rfl, rfl⟩
    go_wp2_with fail
    go_ret
    refine ⟨rfl, ?_⟩
    repeat (first | exact hb2 | refine below_drewN ?_ _)
end Go.Proofs.Ytcnlgoghnlcndaa
