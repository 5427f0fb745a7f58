/- Walks: samePieces, OneNumberOf.; Plain: sums of whole pieces -/
import Derived.Test.YtcnlgoghnlcndaaTa
import Derived.Test.YtcnlgoghnlcndaaT5
import Derived.BigQuiet
import Derived.Test.YtcnlgoghnlcndaaPx
namespace Go.Proofs.Ytcnlgoghnlcndaa
open Go.RowKit Ieee

set_option maxHeartbeats 2000000 in
theorem samePieces_eq (A B : Option Addr) (m c1 c2 : Nat) (ps : List (List Num)) (w : World) (h : Pcs w A m ps) (h' : Pcs w B m ps)
    (hv : ∀ k, k < m → ∀ i, i < (ps.getD k []).length → valEq ((ps.getD k []).getD i (0, 0)) ((ps.getD k []).getD i (0, 0))) :
    Calls Try.prog 84 #[.slice A m c1, .slice B m c2] w fun e w' => e = .returned (.bool true) ∧ ∃ d, w.drewN d = w' := by
  have hn := h.2.1
  have HX := Lib.hid h.2.2
  have HY := Lib.hid h'.2.2
  have HV := Lib.hid hv
  clear h h' hv
  go_enter Try.func84, Try.ntmps84
  go_wp2_with fail
  go_loopw [5] (fun i wr => ∃ k : Nat, k ≤ m ∧ i = .int .i64 k ∧ ∃ d, w.drewN d = wr) (fun i _ => m - (intOf i).toNat)
  case atStart => exact ⟨0, Nat.zero_le _, rfl, 0, rfl⟩
  case round =>
    obtain ⟨k, hk, rfl, d, rfl⟩ := hrel
    by_cases hlt : k < m
    · obtain ⟨b, o, B1, c1', rfl, hbs, hcell, _, _, hs1⟩ := HX.out k hlt
      obtain ⟨b', o', B2, c2', rfl, hbs', hcell', _, _, hs2⟩ := HY.out k hlt
      have HVk := Lib.hid (HV.out k hlt)
      have S1 := Lib.hid hs1
      have S2 := Lib.hid hs2
      generalize ps.getD k [] = p at *
      have HNr := Lib.hid (fun (d : Nat) => sameSignal_eq B1 B2 p.length c1' c2' p p (w.drewN d) (S1.out.drewN d) (S2.out.drewN d) HVk.out)
      generalize p.length = np at *
      have i1 : (0 : Int) ≤ (k : Int) := by omega
      have i2 : (k : Int) < (m : Int) := by omega
      clear hs1 hs2
      go_wp2_with fail
      go_quiet ((go_at_call 44; exact quiet_more' (HNr.out _)))
      go_wp2_with fail
      go_roundw
      case rel => exact ⟨k + 1, by omega, by go_num, _, rfl⟩
      case measure => simp [intOf]; omega
    · have hkn : k = m := by omega
      subst hkn
      go_wp2_with fail
      go_ret
      exact ⟨rfl, d, rfl⟩

set_option maxHeartbeats 2000000 in
theorem OneNumberOf_yes (A : Option Addr) (n cap : Nat) (xs : List Num) (w : World) (h : Sig w A n xs) (hs : sizeOk xs = true) (hc : Calm xs) :
    Calls Try.prog 75 #[.slice A n cap, .int .i64 0] w fun e w' => e = .returned (.tuple #[C (sumK xs (fT 0) xs.length), .bool true]) ∧ w.grownBy w' none := by
  have hl := h.1
  obtain ⟨_, _, hn1, hn16⟩ := sizeOk_parts hs
  rw [hl] at hn1 hn16
  have H := Lib.hid h
  have HS := Lib.hid hs
  have TS := Lib.hid (fun W (hW : Sig W A n xs) => turnedSum_any A n cap 0 xs W hW hc hn1 (by omega))
  clear h hs hc hl
  go_enter Try.func75, Try.ntmps75
  go_wp2_with fail
  refine (SizeOk_any _ _ _ _ _ H.out).mono ?_
  rw [HS.out]
  rintro e w' ⟨rfl, d, rfl⟩
  go_wp2_with fail
  refine (TS.out _ (H.out.drewN d)).mono ?_
  rw [Int.mul_zero]
  rintro e w2 ⟨rfl, hg⟩
  have G1 : Hid (w.grownBy w2 none) := Lib.hid ⟨hg.os, hg.tape, hg.output, hg.size, hg.block⟩
  clear hg
  go_wp2_with fail
  go_ret2
  exact ⟨rfl, G1.out⟩

set_option maxHeartbeats 2000000 in
theorem OneNumberOf_no (A : Option Addr) (n cap : Nat) (xs : List Num) (w : World) (h : Sig w A n xs) (hs : sizeOk xs = false) :
    Calls Try.prog 75 #[.slice A n cap, .int .i64 0] w fun e w' => e = .returned (.tuple #[.complex .f32 0 0, .bool false]) ∧ ∃ d, w.drewN d = w' := by
  have H := Lib.hid h
  have HS := Lib.hid hs
  clear h hs
  go_enter Try.func75, Try.ntmps75
  go_wp2_with fail
  refine (SizeOk_any _ _ _ _ _ H.out).mono ?_
  rw [HS.out]
  rintro e w' ⟨rfl, d, rfl⟩
  go_wp2_with fail
  go_ret2
  exact ⟨rfl, d, rfl⟩

theorem sumZ_up (X : Nat → Int) (q : Nat) (u : Int) : ∀ N, sumZ (fun k => if k = q then X k + u else X k) N = sumZ X N + (if q < N then u else 0) := by
  intro N
  induction N with
  | zero => simp [sumZ]
  | succ N ih =>
    show sumZ _ N + (if N = q then X N + u else X N) = sumZ X N + X N + _
    rw [ih]
    by_cases h1 : N = q
    · subst h1
      rw [if_pos rfl, if_neg (Nat.lt_irrefl _), if_pos (by omega)]
      omega
    · rw [if_neg h1]
      by_cases h2 : q < N
      · rw [if_pos h2, if_pos (by omega)]; omega
      · rw [if_neg h2, if_neg (by omega)]; omega

/-- A row of whole numbers, at most b, and their sum. -/
def GS (ws : List Num) (N : Nat) (sx sy : Int) (b : Nat) : Prop :=
  ∃ X Y : Nat → Int, (∀ k, k < N → G (ws.getD k (0, 0)) (X k) (Y k) ∧ (X k).natAbs ≤ b ∧ (Y k).natAbs ≤ b) ∧ sumZ X N = sx ∧ sumZ Y N = sy
theorem GS.start (N : Nat) : GS (List.replicate N (0, 0)) N 0 0 0 := by
  have hz : ∀ N, sumZ (fun _ => 0) N = 0 := by
    intro N
    induction N with
    | zero => rfl
    | succ N ih => show sumZ _ N + 0 = 0; rw [ih]; rfl
  refine ⟨fun _ => 0, fun _ => 0, fun k hk => ⟨?_, by simp, by simp⟩, hz N, hz N⟩
  have e : (List.replicate N ((0, 0) : Num)).getD k (0, 0) = (0, 0) := by simp [List.getD, hk]
  rw [e]
  exact G_zero
theorem GS.add {ws : List Num} {N q b : Nat} {sx sy u v : Int} {z : Num} (h : GS ws N sx sy b) (hl : ws.length = N) (hq : q < N) (hz : G z u v) (hu : u.natAbs ≤ 1000) (hv : v.natAbs ≤ 1000) (hb : b ≤ 100000) :
    GS (addAt ws q z) N (sx + u) (sy + v) (b + 1000) := by
  obtain ⟨X, Y, hX, e1, e2⟩ := h
  refine ⟨fun k => if k = q then X k + u else X k, fun k => if k = q then Y k + v else Y k, fun k hk => ?_, ?_, ?_⟩
  · obtain ⟨g, b1, b2⟩ := hX k hk
    unfold addAt
    rw [getD_setN, hl]
    by_cases hkq : k = q
    · subst hkq
      rw [if_pos ⟨rfl, hk⟩]
      simp only [if_true]
      exact ⟨G_add g hz (by omega) (by omega) (by omega) (by omega), by omega, by omega⟩
    · rw [if_neg (by omega)]
      simp only [hkq, if_false]
      exact ⟨g, by omega, by omega⟩
  · rw [sumZ_up, if_pos hq, e1]
  · rw [sumZ_up, if_pos hq, e2]

/-- The sums of the first pieces. -/
def TX (ps : List (List Num)) (n : Nat) (j : Nat) : Int := sumZ (fun j => sumZ (gX (ps.getD j [])) n) j
def TY (ps : List (List Num)) (n : Nat) (j : Nat) : Int := sumZ (fun j => sumZ (gY (ps.getD j [])) n) j

theorem TX_succ (ps : List (List Num)) (n j : Nat) : TX ps n (j + 1) = TX ps n j + sumZ (gX (ps.getD j [])) n ∧ TY ps n (j + 1) = TY ps n j + sumZ (gY (ps.getD j [])) n := ⟨rfl, rfl⟩
theorem tgI_inv {h N j i : Nat} {p ws vs : List Num} (hv : tgI h N j p ws (i + 1) = some vs) : ∃ us, tgI h N j p ws i = some us ∧ vs = addAt us ((j * h + i) % N) (p.getD i (0, 0)) := by
  have hv' : (tgI h N j p ws i).bind (fun vs => if finN (addN (vs.getD ((j * h + i) % N) (0, 0)) (p.getD i (0, 0))) then some (addAt vs ((j * h + i) % N) (p.getD i (0, 0))) else none) = some vs := hv
  cases hu : tgI h N j p ws i with
  | none => rw [hu] at hv'; cases hv'
  | some us =>
    refine ⟨us, rfl, ?_⟩
    rw [hu] at hv'
    simp only [Option.bind_some] at hv'
    split at hv'
    · exact (Option.some.inj hv').symm
    · cases hv'
theorem tgO_inv {h N j : Nat} {ps : List (List Num)} {ws : List Num} (hv : tgO h N ps (j + 1) = some ws) : ∃ us, tgO h N ps j = some us ∧ tgI h N j (ps.getD j []) us (2 * h) = some ws := by
  have hv' : (tgO h N ps j).bind (fun ws => tgI h N j (ps.getD j []) ws (2 * h)) = some ws := hv
  cases hu : tgO h N ps j with
  | none => rw [hu] at hv'; cases hv'
  | some us => exact ⟨us, rfl, by rw [hu] at hv'; exact hv'⟩

theorem tgI_GS {h N j b : Nat} {p ws : List Num} {sx sy : Int} (hw : GS ws N sx sy b) (hl : ws.length = N) (hN : 0 < N) (hf : FinW ws) (hp : AllWhole p 1000) : ∀ i vs, i ≤ p.length → b + 1000 * i ≤ 100000 → tgI h N j p ws i = some vs →
    GS vs N (sx + sumZ (gX p) i) (sy + sumZ (gY p) i) (b + 1000 * i) := by
  intro i
  induction i with
  | zero =>
    intro vs _ _ hv
    cases hv
    simpa [sumZ] using hw
  | succ i ih =>
    intro vs hi hb hv
    obtain ⟨us, hu, rfl⟩ := tgI_inv hv
    have h0 := ih us (by omega) (by omega) hu
    obtain ⟨g, b1, b2, b3, b4⟩ := whole_parts hp i (by omega)
    have := h0.add ((tgI_fin hf _ _ hu).2.trans hl) (Nat.mod_lt (j * h + i) hN) g (by omega) (by omega) (by omega)
    have e : b + 1000 * (i + 1) = b + 1000 * i + 1000 := by omega
    rw [e, show sumZ (gX p) (i + 1) = sumZ (gX p) i + gX p i from rfl, show sumZ (gY p) (i + 1) = sumZ (gY p) i + gY p i from rfl, ← Int.add_assoc, ← Int.add_assoc]
    exact this
theorem tgO_GS {h N : Nat} {ps : List (List Num)} (hN : 0 < N) (hlen : ∀ j, j < ps.length → (ps.getD j []).length = 2 * h) (hp : ∀ j, j < ps.length → AllWhole (ps.getD j []) 1000) : ∀ j ws, j ≤ ps.length → 1000 * (2 * h * j) ≤ 100000 → tgO h N ps j = some ws →
    GS ws N (TX ps (2 * h) j) (TY ps (2 * h) j) (1000 * (2 * h * j)) := by
  intro j
  induction j with
  | zero =>
    intro ws _ _ hv
    cases hv
    exact GS.start N
  | succ j ih =>
    intro ws hj hb hv
    have e : 2 * h * (j + 1) = 2 * h * j + 2 * h := by rw [Nat.mul_add, Nat.mul_one]
    rw [e] at hb ⊢
    obtain ⟨us, hu, hi⟩ := tgO_inv hv
    have h0 := ih us (by omega) (by omega) hu
    obtain ⟨f1, f2⟩ := tgO_fin _ _ hu
    have := tgI_GS h0 f2 hN f1 (hp j (by omega)) (2 * h) ws (by rw [hlen j (by omega)]; exact Nat.le_refl _) (by omega) hi
    have e3 : 1000 * (2 * h * j) + 1000 * (2 * h) = 1000 * (2 * h * j + 2 * h) := by omega
    rw [(TX_succ ps (2 * h) j).1, (TX_succ ps (2 * h) j).2, ← e3]
    generalize 1000 * (2 * h * j) + 1000 * (2 * h) = B at *
    exact this

theorem sumZ_le {X : Nat → Int} {B : Nat} {n : Nat} (h : ∀ i, i < n → (X i).natAbs ≤ B) : ∀ i, i ≤ n → (sumZ X i).natAbs ≤ B * i := by
  intro i
  induction i with
  | zero => intro _; simp [sumZ]
  | succ i ih =>
    intro hi
    have a := ih (by omega)
    have b := h i (by omega)
    show (sumZ X i + X i).natAbs ≤ _
    rw [Nat.mul_add, Nat.mul_one]
    omega
theorem part_le {p : List Num} (hp : AllWhole p 1000) {i : Nat} (hi : i ≤ p.length) : (sumZ (gX p) i).natAbs ≤ 1000 * i ∧ (sumZ (gY p) i).natAbs ≤ 1000 * i :=
  ⟨sumZ_le (n := p.length) (fun i hi => by obtain ⟨_, a, b, _, _⟩ := whole_parts hp i hi; omega) i hi, sumZ_le (n := p.length) (fun i hi => by obtain ⟨_, _, _, a, b⟩ := whole_parts hp i hi; omega) i hi⟩
theorem TX_le {ps : List (List Num)} {n j : Nat} (hlen : ∀ k, k < j → (ps.getD k []).length = n) (hp : ∀ k, k < j → AllWhole (ps.getD k []) 1000) : (TX ps n j).natAbs ≤ 1000 * n * j ∧ (TY ps n j).natAbs ≤ 1000 * n * j :=
  ⟨sumZ_le (n := j) (fun i hi => (part_le (hp i hi) (by rw [hlen i hi]; exact Nat.le_refl _)).1) j (Nat.le_refl _), sumZ_le (n := j) (fun i hi => (part_le (hp i hi) (by rw [hlen i hi]; exact Nat.le_refl _)).2) j (Nat.le_refl _)⟩

/-- One number more. -/
theorem sum_step {ps : List (List Num)} {n j i : Nat} {s : Num} (hlen : ∀ k, k ≤ j → (ps.getD k []).length = n) (hp : ∀ k, k ≤ j → AllWhole (ps.getD k []) 1000) (hi : i < n) (hb : 1000 * n * (j + 1) ≤ 100000)
    (hs : G s (TX ps n j + sumZ (gX (ps.getD j [])) i) (TY ps n j + sumZ (gY (ps.getD j [])) i)) :
    floatBits .add .f32 s.1 ((ps.getD j []).getD i (0, 0)).1 = some (addN s ((ps.getD j []).getD i (0, 0))).1 ∧ floatBits .add .f32 s.2 ((ps.getD j []).getD i (0, 0)).2 = some (addN s ((ps.getD j []).getD i (0, 0))).2 ∧
    G (addN s ((ps.getD j []).getD i (0, 0))) (TX ps n j + sumZ (gX (ps.getD j [])) (i + 1)) (TY ps n j + sumZ (gY (ps.getD j [])) (i + 1)) := by
  have hl := hlen j (Nat.le_refl _)
  obtain ⟨g, b1, b2, b3, b4⟩ := whole_parts (hp j (Nat.le_refl _)) i (by omega)
  obtain ⟨t1, t2⟩ := TX_le (ps := ps) (n := n) (j := j) (fun k hk => hlen k (by omega)) (fun k hk => hp k (by omega))
  obtain ⟨p1, p2'⟩ := part_le (hp j (Nat.le_refl _)) (i := i) (by omega)
  have e : 1000 * n * (j + 1) = 1000 * n * j + 1000 * n := by rw [Nat.mul_add, Nat.mul_one]
  have fs : finN s = true := by unfold finN finC; rw [hs.1, hs.2.1]; rfl
  have fz : finN ((ps.getD j []).getD i (0, 0)) = true := by unfold finN finC; rw [g.1, g.2.1]; rfl
  obtain ⟨a1, a2⟩ := add_some fs fz
  refine ⟨a1, a2, ?_⟩
  have := G_add hs g (by omega) (by omega) (by omega) (by omega)
  rw [show sumZ (gX (ps.getD j [])) (i + 1) = sumZ (gX (ps.getD j [])) i + gX (ps.getD j []) i from rfl, show sumZ (gY (ps.getD j [])) (i + 1) = sumZ (gY (ps.getD j [])) i + gY (ps.getD j []) i from rfl, ← Int.add_assoc, ← Int.add_assoc]
  exact this

/-- The number 0 of the spectrum is the sum. -/
theorem SX_zero (X Y : Nat → Int) (n : Nat) : SX X Y (fun _ => 0) n = sumZ X n ∧ SY X Y (fun _ => 0) n = sumZ Y n := by
  induction n with
  | zero => exact ⟨rfl, rfl⟩
  | succ n ih =>
    constructor
    · show SX X Y _ n + qx 0 (X n) (Y n) = sumZ X n + X n
      rw [ih.1]; rfl
    · show SY X Y _ n + qy 0 (X n) (Y n) = sumZ Y n + Y n
      rw [ih.2]; rfl
theorem fT_zero (n : Nat) : fT 0 n = 0 := by unfold fT; simp
theorem GS.calm {ws : List Num} {N b : Nat} {sx sy : Int} (h : GS ws N sx sy b) (hl : ws.length = N) (hN : N ≤ 16) (hb : b ≤ 40000) : Calm ws := by
  obtain ⟨X, Y, hX, _, _⟩ := h
  refine ⟨by omega, List.replicate ws.length 1, by simp, fun i hi => ?_, by simp; omega⟩
  obtain ⟨g, b1, b2⟩ := hX i (by omega)
  have e : (List.replicate ws.length 1).getD i 0 = 1 := by simp [List.getD, hi]
  rw [e]
  exact G_nm g (by omega) (by omega)
theorem GS.dft {ws : List Num} {N b : Nat} {sx sy : Int} (h : GS ws N sx sy b) (hl : ws.length = N) (hN : N ≤ 16) (hb : b ≤ 40000) : G (sumK ws (fT 0) ws.length) sx sy := by
  obtain ⟨X, Y, hX, e1, e2⟩ := h
  have := sumK_G (xs := ws) (f := fT 0) (m := fun _ => 0) (X := X) (Y := Y) (B := 40000) (n := N) (by omega) (by omega) (fun j hj => (hX j hj).1) (fun j hj => by obtain ⟨_, b1, b2⟩ := hX j hj; omega) (fun j _ => ⟨fT_zero j, by omega⟩) N (Nat.le_refl _)
  rw [hl, ← e1, ← e2, ← (SX_zero X Y N).1, ← (SX_zero X Y N).2]
  exact this
theorem G_same {a b : Num} {x y : Int} (ha : G a x y) (hb : G b x y) : (FloatKind.f32.format.order a.1 b.1 == some .eq) = true ∧ (FloatKind.f32.format.order a.2 b.2 == some .eq) = true := by
  constructor
  · show (single.order a.1 b.1 == some .eq) = true
    rw [cmp_eq single ha.1 hb.1, ha.2.2.1, hb.2.2.1]; simp
  · show (single.order a.2 b.2 == some .eq) = true
    rw [cmp_eq single ha.2.1 hb.2.1, ha.2.2.2, hb.2.2.2]; simp
end Go.Proofs.Ytcnlgoghnlcndaa
