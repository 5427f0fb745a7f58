/- Walk: FastOf (impl). -/
import Derived.Test.YtcnlgoghnlcndaaRt
import Derived.Deep.RegionHeld3
import Derived.Deep.AppendLies
namespace Go.Proofs.Ytcnlgoghnlcndaa
open Go.RowKit Ieee

theorem RowSt.start0 {n d : Nat} {w wr : World} (h1 : wr.ownsRow (w.drewN d).heap.size 34 1 (.slice (some ⟨(w.drewN d).heap.size, 0, none⟩) n n) n ((List.replicate n ((0, 0) : Num)).map C)) (h2 : (w.drewN d).grownBy wr none) : RowSt n (List.replicate n (0, 0)) w wr :=
  RowSt.start h1 ⟨h2.os, h2.tape, h2.output, h2.size, h2.block⟩
theorem getD_set2 (l : List Num) (a b : Nat) (z : Num) : (l.set a z).getD b (0, 0) = if a = b ∧ a < l.length then z else l.getD b (0, 0) := by
  simp only [List.getD, List.getElem?_set]
  by_cases hab : a = b
  · subst hab
    by_cases ha : a < l.length
    · simp [ha]
    · simp [ha]
  · simp [hab]
/-- The first i pairs of a row stand. -/
def Paired (h i : Nat) (f : Nat → Num) (ws : List Num) : Prop := ∀ j, j < i → ws.getD j (0, 0) = f j ∧ ws.getD (j + h) (0, 0) = f (j + h)
theorem Paired.step {h i : Nat} {f : Nat → Num} {ws : List Num} (hi : i < h) (hl : ws.length = 2 * h) (H : Paired h i f ws) : Paired h (i + 1) f ((ws.set i (f i)).set (i + h) (f (i + h))) := by
  intro j hj
  have hl2 : (ws.set i (f i)).length = 2 * h := by simp [hl]
  rw [getD_set2, getD_set2, getD_set2, getD_set2, hl2, hl]
  by_cases hji : j = i
  · subst hji
    rw [if_neg (by omega), if_pos (by omega), if_pos (by omega)]
    exact ⟨rfl, rfl⟩
  · rw [if_neg (by omega), if_neg (by omega), if_neg (by omega), if_neg (by omega)]
    exact H j (by omega)
theorem Paired.all {h : Nat} {f : Nat → Num} {ws : List Num} (hl : ws.length = 2 * h) (H : Paired h h f ws) : ws = (List.range (2 * h)).map f := by
  apply List.ext_getElem?
  intro i
  by_cases hi : i < 2 * h
  · have e : ws.getD i (0, 0) = f i := by
      by_cases h2 : i < h
      · exact (H i h2).1
      · have := (H (i - h) (by omega)).2
        rwa [Nat.sub_add_cancel (by omega)] at this
    have hi' : i < ws.length := by omega
    simp only [List.getD, List.getElem?_eq_getElem hi', Option.getD_some] at e
    rw [List.getElem?_eq_getElem hi', e]
    simp [hi]
  · rw [List.getElem?_eq_none (by omega), List.getElem?_eq_none (by simp; omega)]
theorem RowSt.doneT {n : Nat} {ws : List Num} {w wr : World} (h : RowSt n ws w wr) : MadeT 34 C ws true w (.returned (.tuple #[.slice (some ⟨w.heap.size, 0, none⟩) n n, .bool true])) wr := by
  obtain ⟨a, c, d⟩ := h
  subst a
  exact ⟨_, rfl, c, d⟩
theorem grown_set (w : World) (R j : Nat) (u : Value) : w.grownBy (w.setCell ⟨R, j, none⟩ u) (some R) :=
  ⟨rfl, rfl, rfl, by simp [World.setCell], fun k _ hk => Below.heap_setCell w _ _ _ (fun e => hk (by rw [e]))⟩
theorem grown_weak {w w' : World} {r : Option Nat} (h : w.grownBy w' none) : w.grownBy w' r := ⟨h.os, h.tape, h.output, h.size, fun i hi _ => h.block i hi (by simp)⟩
theorem pow_le16 {m : Nat} (h : m ≤ 4) : 2 ^ m ≤ 16 := Nat.pow_le_pow_right (n := 2) (by omega) h
theorem sizeOk_of {m : Nat} (hm : m ≤ 4) {xs : List Num} (hl : xs.length = 2 ^ m) (hc : CalmF m (atX xs)) : sizeOk xs = true := by
  obtain ⟨f, hf, _⟩ := hc
  have hp : powB xs.length = true := by
    rw [hl]
    have : m = 0 ∨ m = 1 ∨ m = 2 ∨ m = 3 ∨ m = 4 := by omega
    rcases this with rfl | rfl | rfl | rfl | rfl <;> decide
  have h16 := pow_le16 hm
  have hall : xs.all finN = true := by
    rw [List.all_eq_true]
    intro z hz
    obtain ⟨i, hi, rfl⟩ := List.getElem_of_mem hz
    have := (hf i (by omega)).fin
    unfold atX at this
    simpa [List.getD, hi] using this
  unfold sizeOk sigOk
  rw [hp, hall]
  simp
  omega
theorem calmF_ev {m : Nat} {x : Nat → Num} (h : CalmF m (evX x)) : CalmF m (atX (evL (2 ^ m) x)) := by
  obtain ⟨f, hf, hs⟩ := h
  refine ⟨f, fun i hi => ?_, hs⟩
  unfold atX evL
  rw [getD_range (evX x) (0, 0) hi]
  exact hf i hi
theorem calmF_od {m : Nat} {x : Nat → Num} (h : CalmF m (odX x)) : CalmF m (atX (odL (2 ^ m) x)) := by
  obtain ⟨f, hf, hs⟩ := h
  refine ⟨f, fun i hi => ?_, hs⟩
  unfold atX odL
  rw [getD_range (odX x) (0, 0) hi]
  exact hf i hi
theorem faL_ev (m : Nat) (x : Nat → Num) : faL m (atX (evL (2 ^ m) x)) = faL m (evX x) := by
  unfold faL
  rw [List.map_congr_left]
  intro k _
  exact fa_congr m _ _ (fun i hi => getD_range (evX x) (0, 0) hi) k
theorem faL_od (m : Nat) (x : Nat → Num) : faL m (atX (odL (2 ^ m) x)) = faL m (odX x) := by
  unfold faL
  rw [List.map_congr_left]
  intro k _
  exact fa_congr m _ _ (fun i hi => getD_range (odX x) (0, 0) hi) k
theorem faL_at {m : Nat} {x : Nat → Num} {k : Nat} (hk : k < 2 ^ m) : (faL m x).getD k (0, 0) = faN m x k := getD_range (faN m x) (0, 0) hk

set_option maxRecDepth 100000 in
set_option maxHeartbeats 8000000 in
theorem FastOf_one (A : Option Addr) (cap : Nat) (xs : List Num) (w : World) (h : Sig w A 1 xs) (hs : sizeOk xs = true) :
    Calls Try.prog 66 #[.slice A 1 cap] w (MadeT 34 C [atX xs 0] true w) := by
  have H := Lib.hid h
  have HS := Lib.hid hs
  clear h hs
  go_enter Try.func66, Try.ntmps66
  go_wp2_with fail
  refine (SizeOk_any _ _ _ _ _ H.out).mono ?_
  rw [HS.out]
  rintro e w' ⟨rfl, d, rfl⟩
  go_wp2_with (at_make; go_must (refine make_row (T := C) (0, 0) _ rfl _ _ 37 34 8 rfl Try.underlying37 info34 rfl (by decide) 1 1 rfl rfl rfl (by omega) ?_); intro w1 ho hg; have hst : RowSt 1 (List.replicate 1 (0, 0)) w w1 := RowSt.start0 ho hg; clear ho hg; obtain ⟨b, o, rfl, hbs, hc1⟩ := (H.out.grown hst.2.2).2.2 0 (by omega); have hcell := hst.cell 0 (by omega); obtain ⟨u1, f1⟩ := hcell; have hp := Lib.hid (hst.put 0 (atX xs 0)); have e0 : xs.getD 0 (0, 0) = atX xs 0 := rfl; rw [e0] at hc1; rw [Nat.add_zero] at hc1; obtain ⟨z, hz⟩ : ∃ z, atX xs 0 = z := ⟨_, rfl⟩; rw [hz] at hc1 hp; have hz2 := Lib.hid hz; clear e0 hz hst; unfold C at hc1 u1)
  go_ret2
  rw [hz2.out]
  exact hp.out.doneT

set_option maxRecDepth 100000 in
set_option maxHeartbeats 8000000 in
theorem FastOf_step (m h : Nat) (hh : 2 ^ m = h) (hm : m ≤ 3) (A : Option Addr) (cap : Nat) (xs : List Num) (w : World) (hsig : Sig w A (2 * h) xs) (hso : sizeOk xs = true) (hcf : CalmF (m + 1) (atX xs))
    (ih : ∀ (A : Option Addr) (cap : Nat) (xs : List Num) (w : World), Sig w A h xs → sizeOk xs = true → CalmF m (atX xs) → Calls Try.prog 66 #[.slice A h cap] w (MadeT 34 C (faL m (atX xs)) true w)) :
    Calls Try.prog 66 #[.slice A (2 * h : Nat) cap] w (MadeT 34 C (faL (m + 1) (atX xs)) true w) := by
  have h1 : 1 ≤ h := by have := Nat.two_pow_pos m; omega
  have h8 : h ≤ 8 := by rw [← hh]; exact Nat.pow_le_pow_right (n := 2) (by omega) hm
  have hlx := hsig.1
  obtain ⟨c1, c2⟩ := hcf.halves
  have CE := Lib.hid (calmF_ev c1)
  have CO := Lib.hid (calmF_od c2)
  have FE := Lib.hid (faL_ev m (atX xs))
  have FO := Lib.hid (faL_od m (atX xs))
  have PR := Lib.hid (fun (k : Nat) (hk : k < h) => hcf.pair (k := k) hm (by omega))
  have LO := Lib.hid (fun (k : Nat) (hk : k < h) => fa_low m (atX xs) (k := k) (by omega))
  have HI := Lib.hid (fun (k : Nat) => fa_high m (atX xs) k)
  have LA := Lib.hid (fun (k : Nat) (x : Nat → Num) (hk : k < h) => faL_at (m := m) (x := x) (k := k) (by omega))
  have LL := Lib.hid (fun (x : Nat → Num) => (faL_length m x).trans hh)
  have e2 : 2 ^ (m + 1) = 2 * h := by rw [Nat.pow_succ, hh, Nat.mul_comm]
  have FA : Hid (faL (m + 1) (atX xs) = (List.range (2 * h)).map (faN (m + 1) (atX xs))) := Lib.hid (by unfold faL; rw [e2])
  rw [e2] at PR LO HI
  rw [hh] at CE CO FE FO HI
  have SE := Lib.hid (sizeOk_of (m := m) (by omega) (xs := evL h (atX xs)) (by simp [evL, hh]) CE.out)
  have SO := Lib.hid (sizeOk_of (m := m) (by omega) (xs := odL h (atX xs)) (by simp [odL, hh]) CO.out)
  have IH := Lib.hid ih
  have H := Lib.hid hsig
  have HS := Lib.hid hso
  clear hsig hso ih c1 c2 hcf e2
  generalize hfa : faN (m + 1) (atX xs) = F at *
  generalize hfe : faN m (evX (atX xs)) = FEv at *
  generalize hfo : faN m (odX (atX xs)) = FOd at *
  clear hfa
  obtain ⟨n, hn⟩ : ∃ n, 2 * h = n := ⟨_, rfl⟩
  have EV := Lib.hid (fun (w : World) (A : Option Addr) (cap : Nat) (hs : Sig w A n xs) => (by subst hn; exact evenAndOdd_any A h cap xs w hs h1 h8 : Calls Try.prog 113 #[.slice A n cap] w (EvOd h (atX xs) w)))
  rw [hn] at H PR LO HI FA ⊢
  have hd2 : (n : Int) / 2 = (h : Int) := by omega
  have hn16 : n ≤ 16 := by omega
  have hn1 : n ≠ 1 := by omega
  have hne : ((n : Int) == 1) = false := by simp; omega
  go_enter Try.func66, Try.ntmps66
  go_wp2_with fail
  refine (SizeOk_any _ _ _ _ _ H.out).mono ?_
  rw [HS.out]
  rintro e w' ⟨rfl, d, rfl⟩
  go_wp2_with (at_make; go_must (refine make_row (T := C) (0, 0) _ rfl _ _ 37 34 8 rfl Try.underlying37 info34 rfl (by decide) n n rfl rfl rfl (by omega) ?_); intro w1 ho hg; have hst : RowSt n (List.replicate n (0, 0)) w w1 := RowSt.start0 ho hg; clear ho hg)
  refine (EV.out _ _ _ (H.out.grown hst.2.2)).mono ?_
  rintro e w2 ⟨g, rfl, s1, s2, g2⟩
  have hst2 := hst.grow g2
  have S1 := Lib.hid s1
  have S2 := Lib.hid s2
  clear hst s1 s2 g2
  go_wp2_with fail
  refine (IH.out _ h _ _ S1.out SE.out CE.out).mono ?_
  intro e w3 hmd
  obtain ⟨B3, c3, rfl, hc3, hcm3, hr3, ho3, hg3⟩ := hmd.out (0, 0) (by rw [LL.out]; omega)
  rw [LL.out] at hc3 hr3 ⊢
  rw [FE.out] at hr3
  obtain ⟨g3, _, e3, hb3, hl3⟩ := ho3.form (by rw [LL.out]; omega)
  cases e3
  have hlt2 := hst2.lt
  have hst3 := hst2.grow hg3
  have T3 := Lib.hid (S2.out.grown hg3)
  have R3 := Lib.hid (Sig.rw hr3)
  clear hmd hst2 ho3 hr3 hg3
  unfold maxLen at hcm3
  go_wp2_with fail
  refine (IH.out _ h _ _ T3.out SO.out CO.out).mono ?_
  intro e w4 hmd
  obtain ⟨B4, c4, rfl, hc4, hcm4, hr4, ho4, hg4⟩ := hmd.out (0, 0) (by rw [LL.out]; omega)
  rw [LL.out] at hc4 hr4 ⊢
  rw [FO.out] at hr4
  obtain ⟨g4, _, e4, hb4, hl4⟩ := ho4.form (by rw [LL.out]; omega)
  cases e4
  have hlt3 := hst3.lt
  have hst4 := hst3.grow hg4
  have R4 := Lib.hid (R3.out.grown hg4)
  have Q4 := Lib.hid (Sig.rw hr4)
  clear hmd hst3 ho4 hr4 hg4
  unfold maxLen at hcm4
  go_wp2_with fail
  obtain ⟨st, hs0⟩ : ∃ st : Int, 16 / (n : Int) = st := ⟨_, rfl⟩
  have hsr : 0 ≤ st ∧ st ≤ 8 := by
    rw [← hs0]
    constructor
    · exact Int.ediv_nonneg (by omega) (by omega)
    · have : 16 / (n : Int) < 9 := Int.ediv_lt_of_lt_mul (by omega) (by omega)
      omega
  have TK := Lib.hid (fun k : Nat => turn_tk n k)
  rw [hs0] at TK ⊢
  clear hs0
  go_loopw [60] (fun i wr => ∃ k : Nat, k ≤ h ∧ i = .int .i64 k ∧ ∃ ws, RowSt n ws w wr ∧ Hid (Paired h k F ws) ∧ w4.grownBy wr (some w.heap.size)) (fun i _ => h - (intOf i).toNat)
  case atStart => exact ⟨0, Nat.zero_le _, rfl, _, hst4, Lib.hid (fun j hj => absurd hj (by omega)), grown_weak (grown_refl w4 none)⟩
  case round =>
    obtain ⟨k, hk, rfl, ws, hr, hpd, hgr⟩ := hrel
    clear hst4
    by_cases hlt : k < h
    · obtain ⟨_, _, e', hbs, hc1⟩ := R4.out.2.2 k hlt
      cases e'
      obtain ⟨_, _, e', hbs', hc2⟩ := Q4.out.2.2 k hlt
      cases e'
      rw [LA.out k _ hlt, hfe] at hc1
      rw [LA.out k _ hlt, hfo] at hc2
      have hd1 : wr.cell? ⟨g3, 0 + k, none⟩ = some (C (FEv k)) := by rw [hgr.cell_far _ hbs (by simp; omega)]; exact hc1
      have hd2' : wr.cell? ⟨g4, 0 + k, none⟩ = some (C (FOd k)) := by rw [hgr.cell_far _ hbs' (by simp; omega)]; exact hc2
      rw [Nat.zero_add] at hd1 hd2'
      obtain ⟨u1, f1⟩ := hr.cell k (by omega)
      obtain ⟨u2, f2⟩ := hr.cell (k + h) (by omega)
      have hp1 := PR.out k hlt
      have hlo := LO.out k hlt
      have hhi := HI.out k
      have hturn := TK.out k
      have hm1 : -100 ≤ -st * (k : Int) ∧ -st * (k : Int) ≤ 100 := by
        have q := mul_rng (a := -st) (j := (k : Int)) (B := 8) (J := 8) (by omega) (by omega) (by omega)
        omega
      have HT := Lib.hid (fun W : World => TurnOf_any (-st * (k : Int)) W (by omega) (by omega))
      rw [hturn] at HT
      have ew : IntKind.i64.wrap (IntKind.i64.wrap (-st) * (k : Int)) = -st * (k : Int) := by rw [IntWalk.i64_in (-st) (by omega), IntWalk.i64_in _ (by omega)]
      have ew2 : IntKind.i64.wrap (-st * (k : Int)) = -st * (k : Int) := by rw [IntWalk.i64_in _ (by omega)]
      have HPut := Lib.hid (fun w' (hg : wr.grownBy w' none) => ((hr.grow hg).put k (F k)).put (k + h) (F (k + h)))
      have HPd := Lib.hid (Paired.step hlt (by rw [hr.1, hn]) hpd.out)
      have HGr := Lib.hid hgr
      rw [hlo] at HPut HPd
      rw [hhi] at HPut HPd
      generalize FEv k = a at *
      generalize FOd k = b at *
      generalize tn (tk n k) = tt at *
      have HP := Lib.hid (fun W => pair_any a b tt W hp1)
      generalize addN a (mulN b tt) = p at *
      generalize subN a (mulN b tt) = q at *
      unfold C at hd1 hd2' u1 u2 HP
      have i1 : (0 : Int) ≤ (k : Int) := by omega
      have i2 : (k : Int) < (h : Int) := by omega
      clear hp1 hlo hhi hturn hm1 hgr hpd hc1 hc2
      go_wp2_with fail
      go_region_held3 (fun w' => w'.cell? ⟨g3, k, none⟩ = some (.complex .f32 a.1 a.2) ∧ w'.cell? ⟨g4, k, none⟩ = some (.complex .f32 b.1 b.2)) (go_keep)
        (first
        | (go_at_call 92; (first | (with_reducible refine (HT.out _).mono ?_) | (rw [ew]; with_reducible refine (HT.out _).mono ?_) | (rw [ew2]; with_reducible refine (HT.out _).mono ?_)); rintro e w5 ⟨rfl, hg5'⟩; have hg5 := gr_drew hg5'; have k5 := cell_grown hd1 hg5; have l5 := cell_grown hd2' hg5)
        | (go_at_call 110; refine (HP.out _).mono ?_; rintro e w' ⟨rfl, rfl⟩))
      have hr5 := hr.grow hg5
      obtain ⟨u1', f1'⟩ := hr5.cell k (by omega)
      obtain ⟨u2', f2'⟩ := hr5.cell (k + h) (by omega)
      have hput := Lib.hid (HPut.out w5 hg5)
      have hgrow := fun (u v : Value) => Lib.hid (grown_trans (grown_trans (grown_trans HGr.out (grown_weak (r := some w.heap.size) hg5)) (grown_set w5 w.heap.size k u)) (grown_set _ w.heap.size (k + h) v))
      unfold C at u1' u2'
      clear u1 u2 f1 f2 hg5 hg5' k5 l5 hd1 hd2' hr hr5 HPut HT HP
      go_wp2_with fail
      go_roundw
      case rel => exact ⟨k + 1, by omega, by go_num, _, hput.out, HPd, (hgrow _ _).out⟩
      case measure => simp [intOf]; omega
    · obtain rfl : k = h := by omega
      go_wp2_with fail
      go_ret2
      have hfin := Paired.all (by rw [hr.1, hn]) hpd.out
      rw [hn, ← FA.out] at hfin
      rw [← hfin]
      exact hr.doneT
end Go.Proofs.Ytcnlgoghnlcndaa
