/- Walk: DrawTogether. -/
import Derived.Test.YtcnlgoghnlcndaaTi
import Derived.Test.YtcnlgoghnlcndaaTd
import Derived.Test.YtcnlgoghnlcndaaLTapsOk
namespace Go.Proofs.Ytcnlgoghnlcndaa
open Go.RowKit Ieee

/-- Drawn pieces. -/
def DrawPs (w : World) (e : Ending) (w' : World) : Prop :=
  ∃ A c ps, e = .returned (.slice A (List.length ps) c) ∧ ps.length ≤ 16 ∧ ps.length ≤ c ∧ c ≤ maxLen ∧ Pcs w' A ps.length ps ∧ Below w.heap.size w w'
theorem psL_len {xs : List Num} {kd : Int} {h : Nat} (hs : sigOk xs = true) : (psL xs kd h).length ≤ 16 := by
  unfold psL
  rw [List.length_map, List.length_range]
  exact Nat.le_trans (Nat.div_le_self _ _) (sigOk_parts hs).1
theorem pOk_sig {xs : List Num} {kd pt : Int} (h : pOk xs kd pt = true) : sigOk xs = true := by
  unfold pOk at h
  simp only [Bool.and_eq_true] at h
  exact h.1.1.1
theorem RdAt.below {w w' : World} {R p : Nat} (h : RdAt w R p) (hb : Below w.heap.size w w') : RdAt w' R p :=
  h.keep fun k hk => hb.block k (Nat.lt_of_le_of_lt hk h.lt)
theorem below_comp {B : Nat} {a b c : World} (h : Below B a b) (hb : Below b.heap.size b c) (hB : B ≤ b.heap.size) : Below B a c :=
  ⟨hb.os.trans h.os, hb.tape.trans h.tape, hb.output.trans h.output, Nat.le_trans h.size hb.size, fun k hk => (hb.block k (Nat.lt_of_lt_of_le hk hB)).trans (h.block k hk)⟩
theorem code_tail {w : World} {b o n cap : Nat} (h : Code w (some ⟨b, o, none⟩) n cap) (hn : 1 ≤ n) : Code w (some ⟨b, o + 1, none⟩) (n - 1) (cap - 1) := by
  refine ⟨by have := h.1; omega, by have := h.2.1; omega, fun _ => ?_⟩
  obtain ⟨b', o', e, hb, hc⟩ := h.2.2 hn
  cases e
  refine ⟨b, o + 1, rfl, hb, fun i hi => ?_⟩
  obtain ⟨v, v1, v2, v3⟩ := hc (i + 1) (by omega)
  exact ⟨v, v1, v2, by rw [show o + 1 + i = o + (i + 1) by omega]; exact v3⟩
theorem code_nil (w : World) (A : Option Addr) (c : Nat) : Code w A 0 c := ⟨Nat.zero_le _, Nat.zero_le _, fun h => absurd h (by omega)⟩
theorem n_nat {k : Int} (h1 : 0 ≤ k) (h2 : k < 9) : ∃ N : Nat, (N : Int) = 4 + k / 8 ∧ 1 ≤ N ∧ N ≤ 40 :=
  ⟨(4 + k / 8).toNat, by omega, by omega, by omega⟩

set_option maxRecDepth 100000 in
set_option maxHeartbeats 8000000 in
theorem DrawTogether_of (HD : ∀ (A : Option Addr) (n cap : Nat) (w : World), Code w A n cap → Calls Try.prog 81 #[.slice A n cap] w (DrawP w)) (A : Option Addr) (n cap : Nat) (w : World) (h : Code w A n cap) : Calls Try.prog 71 #[.slice A n cap] w (DrawPs w) := by
  have hm := h.2.1
  have hc := h.1
  unfold maxLen at hm
  have H := Lib.hid h
  have hcase : ((n = 0 ∧ cap = 0) ∨ (n = 0 ∧ 1 ≤ cap)) ∨ ((n = 1 ∧ cap = 1) ∨ (n = 1 ∧ 2 ≤ cap)) ∨ (2 ≤ n ∧ ∃ b o, A = some ⟨b, o, none⟩) := by
    rcases Nat.lt_or_ge n 2 with h2 | h2
    · omega
    · right; right
      obtain ⟨b, o, e, _⟩ := h.2.2 (by omega)
      exact ⟨h2, b, o, e⟩
  clear h
  rcases hcase with (⟨rfl, rfl⟩ | ⟨rfl, hc1⟩) | (⟨rfl, rfl⟩ | ⟨rfl, hc1⟩) | ⟨h2, b, o, rfl⟩
  all_goals
    go_enter Try.func71, Try.ntmps71
    go_wp2_with fail
    refine (open_any _ _ _ _ H.out).mono ?_
    rintro e w1 ⟨rfl, hb1, hr1⟩
    have HB1 := Lib.hid hb1
    have HR1 := Lib.hid hr1
    have H1 := Lib.hid (H.out.keep hb1)
    clear hb1 hr1
    go_wp2_with fail
    refine (HD _ _ _ _ (by first | exact code_nil _ _ _ | exact code_tail H1.out (by omega))).mono ?_
    rintro e w2 ⟨B, c, xs, kd, pt, rfl, hxc, hcm, hs, hb2⟩
    have HB2 := Lib.hid (below_comp HB1.out hb2 (Nat.le_of_lt HR1.out.lt))
    have HR2 := Lib.hid (HR1.out.below hb2)
    have HSg := Lib.hid hs
    have hR2 := HR2.out.lt
    clear hs hb2 HB1 HR1 H1
    unfold maxLen at hcm
    go_wp2_with fail
    refine (sPiecesOf_any _ _ _ kd pt xs _ HSg.out).mono ?_
    intro e w3 hres
    rcases hres with ⟨_, A3, c3, rfl, hc3, hg3⟩ | ⟨hyes, A3, c3, rfl, hl3, hc3, hp3, hg3, hpR⟩
    · have HBW := Lib.hid (Below.grown HB2.out hg3 (Nat.le_of_lt hR2) (fun k hk => by cases hk))
      have HRW := Lib.hid (HR2.out.below (grown_below hg3))
      have hsz := HRW.out.lt
      clear hg3 HB2 HR2 HSg
      generalize w3 = W at *
      go_wp2_with fail
      refine (pick_any _ _ _ _ (HRW.out.alloc _) (by omega) (by omega)).mono ?_
      rintro e w5 ⟨kk, k1, k2, rfl, hg5, hr5⟩
      have hst : PcD (fun _ => []) W.heap.size (.slice (some ⟨W.heap.size, 0, none⟩) 0 0) 0 w5 := (PcD.start W).grow hg5 (fun R e => by cases e; exact hsz)
      have HB5 : Below w.heap.size w w5 := Below.grow (Below.alloc HBW.out (Nat.le_of_lt hsz) _) hg5 (by rw [alloc_sizeT]; omega) (Nat.le_refl _)
      have hs5 : W.heap.size ≤ w5.heap.size := by have := hg5.size; rw [alloc_sizeT] at this; omega
      clear hg5
      go_wp2_with fail
      go_loopw [9, 10] (fun v i wr => ∃ (j p : Nat) (q : Int) (f : Nat → List Num), i = .int .i64 q ∧ 0 ≤ q ∧ (j : Int) + q ≤ 3 ∧ p ≤ 2 + 600 * j ∧ Hid (RdAt wr w.heap.size p) ∧ Hid (Below w.heap.size w wr) ∧ Hid (PcD f W.heap.size v j wr) ∧ Hid (W.heap.size ≤ wr.heap.size)) (fun _ i _ => (intOf i).toNat)
      case atStart => exact ⟨0, _, kk, _, rfl, k1, by omega, by omega, Lib.hid hr5, Lib.hid HB5, Lib.hid hst, Lib.hid hs5⟩
      case round =>
        obtain ⟨j, p, q, f, rfl, hq0, hjq, hp, hr, hb, hpd, hs0⟩ := hrel
        clear hst hr5 HB5 hs5
        by_cases hlt : 0 < q
        · go_wp2_with fail
          refine (pick_any _ _ _ _ hr.out (by omega) (by omega)).mono ?_
          rintro e w6 ⟨k9, a1, a2, rfl, hg6, hr6⟩
          have HPD6 := Lib.hid (hpd.out.grow hg6 (fun R e => by cases e; exact hsz))
          have HB6 := Lib.hid (Below.grow hb.out hg6 (Nat.le_of_lt (Nat.lt_of_lt_of_le hsz hs0.out)) (Nat.le_refl _))
          have hs6 := Lib.hid (Nat.le_trans hs0.out hg6.size)
          obtain ⟨N, hN, hN1, hN40⟩ := n_nat a1 a2
          have HSG := Lib.hid (fun (W : World) (hr : RdAt W w.heap.size (p + 1)) => signal_any w.heap.size (p + 1) N 9 W hr (by omega) hN40 (.inr (by omega)))
          rw [hN] at HSG
          have HN := Lib.hid hN1
          clear hg6 hN
          go_wp2_with fail
          refine (HSG.out _ hr6).mono ?_
          intro e w7 hs
          obtain ⟨v, ys, rfl, hq, ho, hl, hg7, p', hp', hr7⟩ := hs
          have hlen : 1 ≤ ys.length := by
            have := HN.out
            rcases hq.2.1 with e | e <;> omega
          obtain ⟨g7, c7, rfl, hb7, hl7⟩ := ho.form (by omega)
          obtain ⟨A', c', hv, d1, d2, d3⟩ := own_form (T := C) (0, 0) ho (by omega)
          cases hv
          have HPD7 := Lib.hid (HPD6.out.grow hg7 (fun R e => by cases e; exact hsz))
          have HB7 := Lib.hid (Below.grow HB6.out hg7 (Nat.le_of_lt (Nat.lt_of_lt_of_le hsz hs6.out)) (Nat.le_refl _))
          have hs7 : W.heap.size ≤ w7.heap.size := Nat.le_trans hs6.out hg7.size
          have hW7 : W.heap.size ≤ g7 := Nat.le_trans hs6.out hb7
          have hne : some g7 ≠ u9.ownBlock := fun e => by have := HPD6.out.own_lt g7 e.symm; omega
          obtain ⟨vs, hown7, hstep⟩ := HPD7.out.own
          have hge := own_ge hown7
          have HST := Lib.hid (fun w' gg cap => hstep w' ys g7 c7 gg cap hne hW7 hl7 d1 d2 (Sig.rw d3))
          have HGE := Lib.hid hge
          have HR7 := Lib.hid hr7
          have d2' := d2
          unfold maxLen at d2'
          clear hq ho hg7 hstep hge hr7 d3 hr6 HSG HN HB6 HPD6 hs6 hne hpd hb hr
          go_wp2_with (at_builtin; go_must (refine append_lies_slc w7 rfl _ _ rfl W.heap.size u9 j vs _ rfl rfl hown7 rfl (by omega) hs7 ?_); intro gg cap' w8 ho8 hg8 h3 h4)
          go_roundw
          case rel => exact ⟨j + 1, p', q - 1, updP f j ys, by go_num, by omega, by omega, by omega, Lib.hid (rd_own (HR7.out.alloc _) hg8 hsz HGE.out), Lib.hid (Below.grown (Below.alloc HB7.out (by omega) _) hg8 (by rw [alloc_sizeT]; omega) (fun k hk => by have := HGE.out k hk; omega)), Lib.hid (HST.out w8 gg cap' ho8 hg8 h3 h4), Lib.hid (by have := hg8.size; rw [alloc_sizeT] at this; omega)⟩
          case measure => simp [intOf]; omega
        · have hq : q = 0 := by omega
          obtain ⟨B9, c9, rfl, b1, b2, b3⟩ := hpd.out.pcs (by omega)
          go_wp2_with fail
          go_ret
          exact ⟨B9, c9, (List.range j).map f, by simp, by simp; omega, by simpa using b1, b2, by simpa using b3, hb.out⟩
    · have HL16 := psL_len (kd := kd) (h := (pt / 2).toNat) (pOk_sig hyes)
      have HB3 := Lib.hid (Below.grown HB2.out hg3 (Nat.le_of_lt hR2) (fun k hk => by cases hk))
      have HR3 := Lib.hid (HR2.out.below (grown_below hg3))
      have hR3 := HR3.out.lt
      have HPR := Lib.hid hpR
      clear hg3 HB2 HR2 HSg hp3 hyes hpR
      generalize psL xs kd (pt / 2).toNat = ps at *
      have hc3' := hc3
      unfold maxLen at hc3'
      go_wp2_with fail
      refine (odd_any _ _ _ _ HR3.out (by omega) (by omega) (by omega)).mono ?_
      rintro e W ⟨cb, rfl, hg4, hr4⟩
      have HBW := Lib.hid (Below.grow HB3.out hg4 (Nat.le_of_lt hR3) (Nat.le_refl _))
      have HPs := Lib.hid (HPR.out _ _ hR2 hg4)
      have HRW := Lib.hid hr4
      have hsz := hr4.lt
      clear hr4 HB3 HR3 HPR hg4
      cases cb
      · go_wp2_with fail
        go_ret
        exact ⟨A3, c3, ps, rfl, HL16, hl3, hc3, HPs.out, HBW.out⟩
      · clear HPs hl3 hc3 HL16
        go_wp2_with fail
        refine (pick_any _ _ _ _ (HRW.out.alloc _) (by omega) (by omega)).mono ?_
        rintro e w5 ⟨kk, k1, k2, rfl, hg5, hr5⟩
        have hst : PcD (fun _ => []) W.heap.size (.slice (some ⟨W.heap.size, 0, none⟩) 0 0) 0 w5 := (PcD.start W).grow hg5 (fun R e => by cases e; exact hsz)
        have HB5 : Below w.heap.size w w5 := Below.grow (Below.alloc HBW.out (Nat.le_of_lt hsz) _) hg5 (by rw [alloc_sizeT]; omega) (Nat.le_refl _)
        have hs5 : W.heap.size ≤ w5.heap.size := by have := hg5.size; rw [alloc_sizeT] at this; omega
        clear hg5
        go_wp2_with fail
        go_loopw [9, 10] (fun v i wr => ∃ (j p : Nat) (q : Int) (f : Nat → List Num), i = .int .i64 q ∧ 0 ≤ q ∧ (j : Int) + q ≤ 3 ∧ p ≤ 2 + 600 * j ∧ Hid (RdAt wr w.heap.size p) ∧ Hid (Below w.heap.size w wr) ∧ Hid (PcD f W.heap.size v j wr) ∧ Hid (W.heap.size ≤ wr.heap.size)) (fun _ i _ => (intOf i).toNat)
        case atStart => exact ⟨0, _, kk, _, rfl, k1, by omega, by omega, Lib.hid hr5, Lib.hid HB5, Lib.hid hst, Lib.hid hs5⟩
        case round =>
          obtain ⟨j, p, q, f, rfl, hq0, hjq, hp, hr, hb, hpd, hs0⟩ := hrel
          clear hst hr5 HB5 hs5
          by_cases hlt : 0 < q
          · go_wp2_with fail
            refine (pick_any _ _ _ _ hr.out (by omega) (by omega)).mono ?_
            rintro e w6 ⟨k9, a1, a2, rfl, hg6, hr6⟩
            have HPD6 := Lib.hid (hpd.out.grow hg6 (fun R e => by cases e; exact hsz))
            have HB6 := Lib.hid (Below.grow hb.out hg6 (Nat.le_of_lt (Nat.lt_of_lt_of_le hsz hs0.out)) (Nat.le_refl _))
            have hs6 := Lib.hid (Nat.le_trans hs0.out hg6.size)
            obtain ⟨N, hN, hN1, hN40⟩ := n_nat a1 a2
            have HSG := Lib.hid (fun (W : World) (hr : RdAt W w.heap.size (p + 1)) => signal_any w.heap.size (p + 1) N 9 W hr (by omega) hN40 (.inr (by omega)))
            rw [hN] at HSG
            have HN := Lib.hid hN1
            clear hg6 hN
            go_wp2_with fail
            refine (HSG.out _ hr6).mono ?_
            intro e w7 hs
            obtain ⟨v, ys, rfl, hq, ho, hl, hg7, p', hp', hr7⟩ := hs
            have hlen : 1 ≤ ys.length := by
              have := HN.out
              rcases hq.2.1 with e | e <;> omega
            obtain ⟨g7, c7, rfl, hb7, hl7⟩ := ho.form (by omega)
            obtain ⟨A', c', hv, d1, d2, d3⟩ := own_form (T := C) (0, 0) ho (by omega)
            cases hv
            have HPD7 := Lib.hid (HPD6.out.grow hg7 (fun R e => by cases e; exact hsz))
            have HB7 := Lib.hid (Below.grow HB6.out hg7 (Nat.le_of_lt (Nat.lt_of_lt_of_le hsz hs6.out)) (Nat.le_refl _))
            have hs7 : W.heap.size ≤ w7.heap.size := Nat.le_trans hs6.out hg7.size
            have hW7 : W.heap.size ≤ g7 := Nat.le_trans hs6.out hb7
            have hne : some g7 ≠ u9.ownBlock := fun e => by have := HPD6.out.own_lt g7 e.symm; omega
            obtain ⟨vs, hown7, hstep⟩ := HPD7.out.own
            have hge := own_ge hown7
            have HST := Lib.hid (fun w' gg cap => hstep w' ys g7 c7 gg cap hne hW7 hl7 d1 d2 (Sig.rw d3))
            have HGE := Lib.hid hge
            have HR7 := Lib.hid hr7
            have d2' := d2
            unfold maxLen at d2'
            clear hq ho hg7 hstep hge hr7 d3 hr6 HSG HN HB6 HPD6 hs6 hne hpd hb hr
            go_wp2_with (at_builtin; go_must (refine append_lies_slc w7 rfl _ _ rfl W.heap.size u9 j vs _ rfl rfl hown7 rfl (by omega) hs7 ?_); intro gg cap' w8 ho8 hg8 h3 h4)
            go_roundw
            case rel => exact ⟨j + 1, p', q - 1, updP f j ys, by go_num, by omega, by omega, by omega, Lib.hid (rd_own (HR7.out.alloc _) hg8 hsz HGE.out), Lib.hid (Below.grown (Below.alloc HB7.out (by omega) _) hg8 (by rw [alloc_sizeT]; omega) (fun k hk => by have := HGE.out k hk; omega)), Lib.hid (HST.out w8 gg cap' ho8 hg8 h3 h4), Lib.hid (by have := hg8.size; rw [alloc_sizeT] at this; omega)⟩
            case measure => simp [intOf]; omega
          · have hq : q = 0 := by omega
            obtain ⟨B9, c9, rfl, b1, b2, b3⟩ := hpd.out.pcs (by omega)
            go_wp2_with fail
            go_ret
            exact ⟨B9, c9, (List.range j).map f, by simp, by simp; omega, by simpa using b1, b2, by simpa using b3, hb.out⟩
end Go.Proofs.Ytcnlgoghnlcndaa
