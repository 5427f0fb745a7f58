/- Walks: l20Sized and its draws; GreatestOf (impl and spec). -/
import Derived.Test.YtcnlgoghnlcndaaP2
namespace Go.Proofs.Ytcnlgoghnlcndaa
open Go.RowKit Ieee

set_option maxHeartbeats 1000000 in
theorem size_any (R p : Nat) (w : World) (h : RdAt w R p) (hp : p < 900000) :
    Calls Try.prog 125 #[.pointer (some ⟨R, 0, none⟩)] w fun e w' => ∃ n : Nat, n ≤ 16 ∧ e = .returned (.int .i64 n) ∧ w.grownBy w' (some R) ∧ RdAt w' R (p + 1) := by
  have hlt := h.lt
  go_enter Try.func125, Try.ntmps125
  go_wp2_with fail
  refine (pick_any _ _ _ _ (h.alloc _) (by omega) (by omega)).mono ?_
  rintro e w2 ⟨j, j1, j2, rfl, hg2, hr2⟩
  obtain ⟨v, v2, hv⟩ : ∃ v : Nat, v ≤ 16 ∧ w2.cell? ⟨w.heap.size, j.toNat, none⟩ = some (.int .i64 v) := by
    have hc := cell_new_grown hlt hg2
    obtain ⟨j, rfl⟩ := Int.eq_ofNat_of_zero_le j1
    have : j = 0 ∨ j = 1 ∨ j = 2 ∨ j = 3 ∨ j = 4 ∨ j = 5 := by omega
    rcases this with rfl | rfl | rfl | rfl | rfl | rfl
    · exact ⟨1, by omega, hc 0⟩
    · exact ⟨2, by omega, hc 1⟩
    · exact ⟨4, by omega, hc 2⟩
    · exact ⟨4, by omega, hc 3⟩
    · exact ⟨8, by omega, hc 4⟩
    · exact ⟨16, by omega, hc 5⟩
  go_wp2_with fail
  go_ret
  exact ⟨v, v2, rfl, grown_trans (World.grownBy_alloc w _ _) hg2, hr2⟩

/-- What l20Sized gives. -/
def SizedRes (w : World) (R p : Nat) (e : Ending) (w' : World) : Prop :=
  ∃ (v : Value) (xs : List Num), e = .returned v ∧ DrawnSig xs ∧ xs.length ≤ 41 ∧ w'.ownsRow w.heap.size 34 1 v xs.length (xs.map C) ∧ w.grownBy w' (some R) ∧ ∃ p', p' ≤ p + 600 ∧ RdAt w' R p'

theorem SizedRes.of {w w2 w3 w' : World} {R p q : Nat} {N : Nat} {M : Int} {e : Ending} (h : SigRes w3 R q (fun xs => SigQ N M xs) e w') (g2 : w.grownBy w2 (some R)) (g3 : w2.grownBy w3 (some R)) (hq : q ≤ p + 100) : SizedRes w R p e w' := by
  obtain ⟨v, xs, rfl, hQ, ho, hl, hg, p', hp', hr⟩ := h
  exact ⟨v, xs, rfl, hQ.1, hl, own_mono ho (Nat.le_trans g2.size g3.size), grown_trans (grown_trans g2 g3) hg, p', by omega, hr⟩

set_option maxHeartbeats 2000000 in
theorem sized_any (R p : Nat) (w : World) (h : RdAt w R p) (hp : p < 700000) :
    Calls Try.prog 103 #[.pointer (some ⟨R, 0, none⟩), .int .i64 9] w (SizedRes w R p) := by
  go_enter Try.func103, Try.ntmps103
  go_wp2_with fail
  refine (size_any _ _ _ h (by omega)).mono ?_
  rintro e w2 ⟨n, hn, rfl, hg2, hr2⟩
  go_wp2_with fail
  refine (odd_any _ _ _ _ hr2 (by omega) (by omega) (by omega)).mono ?_
  rintro e w3 ⟨c, rfl, hg3, hr3⟩
  cases c
  · go_wp2_with fail
    refine (signal_any R (p + 1 + 1) n 9 _ hr3 (by omega) (by omega) (.inr (by omega))).mono ?_
    intro e w4 hs
    obtain ⟨v, xs, rfl, rest⟩ := SizedRes.of (p := p) hs hg2 hg3 (by omega)
    have HR := Lib.hid rest
    clear rest hs hg2 hg3 hr2 hr3
    go_wp2_with fail
    go_ret
    exact ⟨v, xs, rfl, HR.out⟩
  · go_wp2_with fail
    refine (signal_any R (p + 1 + 1) 3 9 _ hr3 (by omega) (by omega) (.inr (by omega))).mono ?_
    intro e w4 hs
    obtain ⟨v, xs, rfl, rest⟩ := SizedRes.of (p := p) hs hg2 hg3 (by omega)
    have HR := Lib.hid rest
    clear rest hs hg2 hg3 hr2 hr3
    go_wp2_with fail
    go_ret
    exact ⟨v, xs, rfl, HR.out⟩

/-- A drawn signal for a law. -/
def DrawSig (w : World) (e : Ending) (w' : World) : Prop :=
  ∃ B c xs, e = .returned (.slice B (List.length xs) c) ∧ DrawnSig xs ∧ xs.length ≤ c ∧ c ≤ maxLen ∧ Sig w' B xs.length xs ∧ Below w.heap.size w w'
theorem DrawSig.of {w w1 w' : World} {p : Nat} {e : Ending} (hb : Below w.heap.size w w1) (h : SizedRes w1 w.heap.size p e w') : DrawSig w e w' := by
  obtain ⟨v, xs, rfl, hd, hl, ho, hg, _⟩ := h
  obtain ⟨B, c, rfl, hc, hm, hs⟩ := own_form (T := C) (0, 0) ho (by omega)
  exact ⟨B, c, xs, rfl, hd, hc, hm, Sig.rw hs, Below.grow hb hg hb.size (Nat.le_refl _)⟩

set_option maxHeartbeats 1000000 in
theorem DrawGreatestOf_any (A : Option Addr) (n cap : Nat) (w : World) (h : Code w A n cap) : Calls Try.prog 51 #[.slice A n cap] w (DrawSig w) := by
  go_enter Try.func51, Try.ntmps51
  go_wp2_with fail
  refine (open_any _ _ _ _ h).mono ?_
  rintro e w1 ⟨rfl, hb1, hr1⟩
  go_wp2_with fail
  refine (sized_any _ _ _ hr1 (by omega)).mono ?_
  intro e w2 hs
  obtain ⟨B, c, xs, rfl, rest⟩ := DrawSig.of hb1 hs
  have HR := Lib.hid rest
  clear rest hs
  go_wp2_with fail
  go_ret
  exact ⟨B, c, xs, rfl, HR.out⟩
set_option maxHeartbeats 1000000 in
theorem DrawPowersOf_any (A : Option Addr) (n cap : Nat) (w : World) (h : Code w A n cap) : Calls Try.prog 60 #[.slice A n cap] w (DrawSig w) := by
  go_enter Try.func60, Try.ntmps60
  go_wp2_with fail
  refine (open_any _ _ _ _ h).mono ?_
  rintro e w1 ⟨rfl, hb1, hr1⟩
  go_wp2_with fail
  refine (sized_any _ _ _ hr1 (by omega)).mono ?_
  intro e w2 hs
  obtain ⟨B, c, xs, rfl, rest⟩ := DrawSig.of hb1 hs
  have HR := Lib.hid rest
  clear rest hs
  go_wp2_with fail
  go_ret
  exact ⟨B, c, xs, rfl, HR.out⟩

/-! The greatest power. -/
def pv (xs : List Num) (k : Nat) : Int := iv double (powF xs k)
def bestK (xs : List Num) : Nat → Nat
  | 0 => 0
  | k + 1 => if pv xs (bestK xs k) < pv xs k then k else bestK xs k
theorem powF_fin {xs : List Num} (h : Calm xs) (k : Nat) : fin double (powF xs k) = true := by
  obtain ⟨x, y, p, q, s, c1, c2, c3, c4, c5, c6, c7, c8, c9⟩ := pow_vars (dftN_fin h k)
  unfold powF
  rw [c7]; exact c8
theorem bestK_lt (xs : List Num) (k : Nat) : bestK xs k < k ∨ bestK xs k = 0 := by
  induction k with
  | zero => exact .inr rfl
  | succ k ih => unfold bestK; split <;> omega
theorem bestK_max (xs : List Num) (k : Nat) : (∀ i, i < k → pv xs i ≤ pv xs (bestK xs k)) ∧ (∀ i, i < bestK xs k → pv xs i < pv xs (bestK xs k)) := by
  induction k with
  | zero => exact ⟨fun i hi => absurd hi (by omega), fun i hi => absurd hi (by unfold bestK; omega)⟩
  | succ k ih =>
    obtain ⟨h1, h2⟩ := ih
    have hl := bestK_lt xs k
    unfold bestK
    split
    · rename_i hlt
      refine ⟨fun i hi => ?_, fun i hi => ?_⟩
      · by_cases e : i = k
        · rw [e]; exact Int.le_refl _
        · have := h1 i (by omega); omega
      · have := h1 i (by omega); omega
    · rename_i hlt
      refine ⟨fun i hi => ?_, h2⟩
      by_cases e : i = k
      · rw [e]; omega
      · exact h1 i (by omega)
theorem best_step {xs : List Num} (h : Calm xs) (i j : Nat) : (FloatKind.f64.format.order (powF xs i) (powF xs j) == some .gt) = decide (pv xs j < pv xs i) :=
  cmp_gt double (powF_fin h i) (powF_fin h j)
theorem bestK_one (xs : List Num) : bestK xs 1 = 0 := by unfold bestK bestK; simp

set_option maxRecDepth 100000 in
set_option maxHeartbeats 4000000 in
theorem GreatestOf_yes (A : Option Addr) (n cap : Nat) (xs : List Num) (w : World) (h : Sig w A n xs) (hs : sizeOk xs = true) (hc : Calm xs) :
    Calls Try.prog 52 #[.slice A n cap] w fun e w' => e = .returned (.tuple #[.int .i64 (bestK xs n), .bool true]) ∧ w.grownBy w' none := by
  have hl := h.1
  obtain ⟨_, _, hn1, hn16⟩ := sizeOk_parts hs
  rw [hl] at hn1 hn16
  have H := Lib.hid h
  have HL := Lib.hid hl
  have HS := Lib.hid hs
  have HC := Lib.hid hc
  clear h hl hs hc
  go_enter Try.func52, Try.ntmps52
  go_wp2_with fail
  refine (PowersOf_yes _ _ _ _ _ H.out HS.out HC.out).mono ?_
  intro e w1 hm
  obtain ⟨B, c, rfl, hcc, hcm, hr, ho, hg⟩ := hm.out 0 (by rw [powL_length, HL.out]; omega)
  rw [powL_length, HL.out] at hr hcc ⊢
  have S := Lib.hid hr.2.2
  have G := Lib.hid hg
  clear hm ho hr hg
  unfold maxLen at hcm
  go_wp2_with fail
  go_loop [6, 18] (fun g i => ∃ k : Nat, k ≤ n ∧ i = .int .i64 k ∧ g = .int .i64 (bestK xs k)) (fun _ i => n - (intOf i).toNat)
  case atStart => exact ⟨0, Nat.zero_le _, rfl, rfl⟩
  case round =>
    obtain ⟨k, hk, rfl, rfl⟩ := hrel
    by_cases hlt : k < n
    · have hbl := bestK_lt xs k
      obtain ⟨b, o, rfl, hbs, hcell⟩ := S.out k hlt
      obtain ⟨b', o', e', hbs', hcell'⟩ := S.out (bestK xs k) (by omega)
      cases e'
      rw [powL_at (by rw [HL.out]; exact hlt)] at hcell
      rw [powL_at (by rw [HL.out]; omega)] at hcell'
      have hst := best_step HC.out k (bestK xs k)
      have hb1 : bestK xs (k + 1) = if pv xs (bestK xs k) < pv xs k then k else bestK xs k := rfl
      have hgn : bestK xs k < n := by omega
      generalize hg : bestK xs k = g at *
      generalize powF xs k = a at *
      generalize powF xs g = a2 at *
      unfold F64 at hcell hcell'
      by_cases hgt : pv xs g < pv xs k
      · rw [if_pos hgt] at hb1
        rw [decide_eq_true hgt] at hst
        have HB := Lib.hid hb1
        clear hb1 hg hgt hbl
        go_wp2_with fail
        go_round
        case rel => exact ⟨k + 1, by omega, by go_num, by rw [HB.out]⟩
        case measure => simp [intOf]; omega
      · rw [if_neg hgt] at hb1
        rw [decide_eq_false hgt] at hst
        have HB := Lib.hid hb1
        clear hb1 hg hgt hbl
        go_wp2_with fail
        go_round
        case rel => exact ⟨k + 1, by omega, by go_num, by rw [HB.out]⟩
        case measure => simp [intOf]; omega
    · obtain rfl : k = n := by omega
      go_wp2_with fail
      go_ret2
      exact ⟨rfl, G.out⟩

set_option maxRecDepth 100000 in
set_option maxHeartbeats 4000000 in
theorem sGreatestOf_yes (A : Option Addr) (n cap : Nat) (xs : List Num) (w : World) (h : Sig w A n xs) (hs : sizeOk xs = true) (hc : Calm xs) :
    Calls Try.prog 53 #[.slice A n cap] w fun e w' => e = .returned (.tuple #[.int .i64 (bestK xs n), .bool true]) ∧ w.grownBy w' none := by
  have hl := h.1
  obtain ⟨_, _, hn1, hn16⟩ := sizeOk_parts hs
  rw [hl] at hn1 hn16
  have H := Lib.hid h
  have HL := Lib.hid hl
  have HS := Lib.hid hs
  have HC := Lib.hid hc
  clear h hl hs hc
  go_enter Try.func53, Try.ntmps53
  go_wp2_with fail
  refine (sPowersOf_yes _ _ _ _ _ H.out HS.out HC.out).mono ?_
  intro e w1 hm
  obtain ⟨B, c, rfl, hcc, hcm, hr, ho, hg⟩ := hm.out 0 (by rw [powL_length, HL.out]; omega)
  rw [powL_length, HL.out] at hr hcc ⊢
  have S := Lib.hid hr.2.2
  have G := Lib.hid hg
  clear hm ho hr hg
  unfold maxLen at hcm
  go_wp2_with fail
  go_loopw [6, 7] (fun g i wr => ∃ k : Nat, 1 ≤ k ∧ k ≤ n ∧ i = .int .i64 k ∧ g = .int .i64 (bestK xs k) ∧ ∃ d, w1.drewN d = wr) (fun _ i _ => n - (intOf i).toNat)
  case atStart => exact ⟨1, by omega, hn1, rfl, by rw [bestK_one]; rfl, 0, rfl⟩
  case round =>
    obtain ⟨k, hk1, hk, rfl, rfl, d, rfl⟩ := hrel
    by_cases hlt : k < n
    · have hbl := bestK_lt xs k
      obtain ⟨b, o, rfl, hbs, hcell⟩ := S.out k hlt
      obtain ⟨b', o', e', hbs', hcell'⟩ := S.out (bestK xs k) (by omega)
      cases e'
      rw [powL_at (by rw [HL.out]; exact hlt)] at hcell
      rw [powL_at (by rw [HL.out]; omega)] at hcell'
      have hst := best_step HC.out k (bestK xs k)
      have hb1 : bestK xs (k + 1) = if pv xs (bestK xs k) < pv xs k then k else bestK xs k := rfl
      have hgn : bestK xs k < n := by omega
      generalize hg : bestK xs k = g at *
      generalize powF xs k = a at *
      generalize powF xs g = a2 at *
      unfold F64 at hcell hcell'
      by_cases hgt : pv xs g < pv xs k
      · rw [if_pos hgt] at hb1
        rw [decide_eq_true hgt] at hst
        have HB := Lib.hid hb1
        clear hb1 hg hgt hbl
        go_wp2_with fail
        go_quiet (fail)
        go_wp2_with fail
        go_roundw
        case rel => exact ⟨k + 1, by omega, by omega, by go_num, by rw [HB.out], _, rfl⟩
        case measure => simp [intOf]; omega
      · rw [if_neg hgt] at hb1
        rw [decide_eq_false hgt] at hst
        have HB := Lib.hid hb1
        clear hb1 hg hgt hbl
        go_wp2_with fail
        go_quiet (fail)
        go_wp2_with fail
        go_roundw
        case rel => exact ⟨k + 1, by omega, by omega, by go_num, by rw [HB.out], _, rfl⟩
        case measure => simp [intOf]; omega
    · obtain rfl : k = n := by omega
      go_wp2_with fail
      go_ret2
      exact ⟨rfl, grown_drewN G.out _⟩
end Go.Proofs.Ytcnlgoghnlcndaa
