/- The walk of the law FnWithNoughts: true at every code. -/
import Derived.Test.YtcnlgoghnlcndaaSn
import Derived.Test.YtcnlgoghnlcndaaEg
import Derived.Test.YtcnlgoghnlcndaaLExactWindowOf
namespace Go.Proofs.Ytcnlgoghnlcndaa
open Go.RowKit Ieee

theorem nouOk_in {xs : List Num} {m : Int} (h : nouOk xs m = true) : sigOk xs = true ∧ ∃ k : Nat, m = k ∧ xs.length ≤ k ∧ k ≤ 16 := by
  unfold nouOk at h
  simp only [Bool.and_eq_true, decide_eq_true_eq] at h
  exact ⟨h.1.1, m.toNat, by omega, by omega, by omega⟩
theorem sigOk_noughts {xs : List Num} {m : Nat} (h : sigOk xs = true) (h1 : xs.length ≤ m) (h2 : m ≤ 16) : sigOk (noughts xs m) = true := by
  obtain ⟨a, b⟩ := sigOk_parts h
  unfold sigOk
  rw [noughts_length h1]
  unfold noughts
  rw [List.all_append, b]
  simp only [Bool.true_and, Bool.and_eq_true, decide_eq_true_eq]
  refine ⟨h2, ?_⟩
  rw [List.all_eq_true]
  intro z hz
  rw [List.eq_of_mem_replicate hz]
  decide +kernel
theorem fin_at {xs : List Num} (h : xs.all finN = true) {k : Nat} (hk : k < xs.length) : finN (xs.getD k (0, 0)) = true := by
  have e : xs.getD k (0, 0) = xs[k] := by simp [List.getD, hk]
  rw [e]
  exact List.all_eq_true.1 h _ (List.getElem_mem hk)
theorem noughts_take {xs : List Num} {m : Nat} : (noughts xs m).take xs.length = xs := by unfold noughts; simp
theorem sig_same {xs : List Num} {n : Nat} (hl : xs.length = n) (h : sigOk xs = true) : ∀ k, k < n → valEq (xs.getD k (0, 0)) (xs.getD k (0, 0)) :=
  fun k hk => valEq.refl (fin_at (sigOk_parts h).2 (by omega))

set_option maxRecDepth 100000 in
set_option maxHeartbeats 4000000 in
theorem FnWithNoughts_walk (A : Option Addr) (n cap : Nat) (w : World) (h : Code w A n cap) :
    Calls Try.prog 10 #[.slice A n cap] w fun e w' => e = .returned (.bool true) ∧ Below w.heap.size w w' := by
  have hm := h.2.1
  unfold maxLen at hm
  rcases Nat.lt_or_ge 1048576 n with hn | hn
  · go_enter Try.func10, Try.ntmps10
    go_wp2_with fail
    go_ret
    exact ⟨rfl, Below.refl _ _⟩
  have H := Lib.hid h
  clear h
  go_enter Try.func10, Try.ntmps10
  go_wp2_with fail
  refine (DrawWithNoughts_any _ _ _ _ H.out).mono ?_
  rintro e w1 ⟨B, c, xs, m, rfl, hm1, hm2, hd, hc, hcm, hs, hb⟩
  have hsz := hb.size
  have hl41 := hs.2.1
  have S := Lib.hid hs
  unfold maxLen at hcm
  clear H hd hs
  rcases Bool.eq_false_or_eq_true (nouOk xs m) with ho | ho
  · obtain ⟨hso, k, rfl, hk1, hk2⟩ := nouOk_in ho
    have SO := Lib.hid hso
    clear ho hso
    go_wp2_with fail
    refine (WithNoughts_yes B xs.length c k xs w1 S.out SO.out hk1 hk2).mono ?_
    intro e w2 hmd
    obtain ⟨A2, c2, rfl, hc2, hcm2, hr2, ho2, hg2⟩ := hmd.out (0, 0) (by rw [noughts_length hk1]; omega)
    rw [noughts_length hk1] at hr2 hc2 ⊢
    have hb2 := below_grown hb hg2 hsz
    have hsz2 : w.heap.size ≤ w2.heap.size := Nat.le_trans hsz hg2.size
    have S2 := Lib.hid (S.out.grown hg2)
    clear hmd ho2 hg2
    unfold maxLen at hcm2
    go_wp2_with fail
    refine (sWithNoughts_yes B xs.length c k xs w2 S2.out SO.out hk1 hk2).mono ?_
    intro e w3 hmd
    obtain ⟨A3, c3, rfl, hc3, hcm3, hr3, ho3, hg3⟩ := hmd.out (0, 0) (by rw [noughts_length hk1]; omega)
    rw [noughts_length hk1] at hr3 hc3 ⊢
    have hb3 := below_grown hb2 hg3 hsz2
    have S3 := Lib.hid (S2.out.grown hg3)
    have Y3 := Lib.hid (Sig.rw (hr2.grown hg3))
    have Z3 := Lib.hid (Sig.rw hr3)
    have SN := Lib.hid (sigOk_noughts SO.out hk1 hk2)
    clear hmd ho3 hg3 hr2 hr3
    unfold maxLen at hcm3
    go_wp2_with fail
    refine (sameSignal_eq A2 A3 k c2 c3 _ _ w3 Y3.out Z3.out (sig_same (noughts_length hk1) SN.out)).mono ?_
    rintro e w' ⟨rfl, d, rfl⟩
    by_cases h0 : k = 0
    · subst h0
      go_wp2_with fail
      refine (alive_any _).mono ?_
      rintro e w' ⟨rfl, rfl⟩
      go_wp2_with fail
      go_ret
      refine ⟨rfl, ?_⟩
      repeat (first | exact hb3 | refine below_drewN ?_ _)
    · have hk0 : ((k : Int) == 0) = false := by simpa using h0
      obtain ⟨b, o, rfl, hbs, _⟩ := Y3.out.2.2 0 (by omega)
      go_wp2_with fail
      refine (sameSignal_eq _ B xs.length _ _ xs xs _ ?_ (S3.out.drewN d) (sig_same rfl SO.out)).mono ?_
      · have hsh := (Y3.out.drewN d).shorter xs.length hk1
        rwa [noughts_take] at hsh
      rintro e w' ⟨rfl, d2, rfl⟩
      go_wp2_with fail
      refine (EnergyOf_any _ k c2 _ _ ?_ SN.out).mono ?_
      · exact (Y3.out.drewN d).drewN d2
      rintro e w' ⟨r1, rfl, f1, v1, d3, rfl⟩
      have V1 := Lib.hid v1
      have F1 := Lib.hid f1
      clear v1 f1
      go_wp2_with fail
      refine (EnergyOf_any B xs.length c xs _ ?_ SO.out).mono ?_
      · exact ((S3.out.drewN d).drewN d2).drewN d3
      rintro e w' ⟨r2, rfl, f2, v2, d4, rfl⟩
      have V2 := Lib.hid v2
      have F2 := Lib.hid f2
      clear v2 f2
      have he : (FloatKind.f64.format.order r1 r2 == some .eq) = true := by
        show (double.order r1 r2 == some .eq) = true
        rw [cmp_eq double F1.out F2.out, V1.out, V2.out]
        unfold noughts
        rw [en_noughts ⟨r2, F2.out, V2.out⟩]
        simp
      go_wp2_with fail
      go_ret
      refine ⟨rfl, ?_⟩
      repeat (first | exact hb3 | refine below_drewN ?_ _)
  · have NO := Lib.hid ho
    clear ho
    go_wp2_with fail
    refine (WithNoughts_no B xs.length c m xs w1 S.out NO.out).mono ?_
    rintro e w' ⟨rfl, d, rfl⟩
    go_wp2_with fail
    refine (sWithNoughts_no B xs.length c m xs _ (S.out.drewN d) NO.out).mono ?_
    intro e w2 hmd
    obtain ⟨A2, c2, rfl, hc2, hcm2, hr2, ho2, hg2⟩ := hmd.out (0, 0) (by simp)
    simp only [List.length_nil] at hr2 hc2 ⊢
    have hb2 := below_grown (below_drewN hb d) hg2 hsz
    clear hmd ho2 hg2
    unfold maxLen at hcm2
    go_wp2_with fail
    refine (sameSignal_eq none A2 0 _ _ [] [] _ (Sig.nil _ _) (Sig.rw hr2) (fun k hk => absurd hk (by omega))).mono ?_
    rintro e w' ⟨rfl, d2, rfl⟩
    go_wp2_with fail
    refine (alive_any _).mono ?_
    rintro e w' ⟨rfl, rfl⟩
    go_wp2_with fail
    go_ret
    refine ⟨rfl, ?_⟩
    repeat (first | exact hb2 | refine below_drewN ?_ _)
end Go.Proofs.Ytcnlgoghnlcndaa
