/- Plain: pieces together are the signal, exactly for halves and triangles, near for the smooth window; and the walk of the law FnPiecesOf: true at every code. -/
import Derived.Test.YtcnlgoghnlcndaaTd
import Derived.Test.YtcnlgoghnlcndaaAf
import Derived.Test.YtcnlgoghnlcndaaTk
import Derived.Test.YtcnlgoghnlcndaaTg
import Derived.Test.YtcnlgoghnlcndaaLExactWindowOf
namespace Go.Proofs.Ytcnlgoghnlcndaa
open Go.RowKit Ieee

/-! When a place gets its first half and its second half. -/
def tA (h q : Nat) : Nat := q / h * (2 * h) + q % h
def tB (h M q : Nat) : Nat := (q / h + M - 1) % M * (2 * h) + q % h + h
def plB (h M j i : Nat) : Bool :=
  if i < h then (tA h ((j * h + i) % (h * M)) == j * (2 * h) + i) && ((j * h + i) % (h * M) % h == i) &&
    (List.range (h * M)).all fun q => (q == (j * h + i) % (h * M) || tA h q != j * (2 * h) + i) && tB h M q != j * (2 * h) + i
  else (tB h M ((j * h + i) % (h * M)) == j * (2 * h) + i) && ((j * h + i) % (h * M) % h + h == i) &&
    (List.range (h * M)).all fun q => (q == (j * h + i) % (h * M) || tB h M q != j * (2 * h) + i) && tA h q != j * (2 * h) + i
def plE (h M : Nat) : Bool := (List.range (h * M)).all fun q => decide (tA h q < M * (2 * h)) && decide (tB h M q < M * (2 * h))
set_option maxRecDepth 100000 in
theorem place_all : ∀ h ∈ [1, 2, 4, 8], ∀ M, M < 17 → h * M ≤ 16 → (∀ j, j < M → ∀ i, i < 2 * h → plB h M j i = true) ∧ plE h M = true := by decide +kernel

theorem place_lo {h M j i : Nat} (hp : plB h M j i = true) (hi : i < h) : tA h ((j * h + i) % (h * M)) = j * (2 * h) + i ∧ (j * h + i) % (h * M) % h = i ∧
    ∀ q, q < h * M → (q ≠ (j * h + i) % (h * M) → tA h q ≠ j * (2 * h) + i) ∧ tB h M q ≠ j * (2 * h) + i := by
  unfold plB at hp
  rw [if_pos hi] at hp
  simp only [Bool.and_eq_true, beq_iff_eq, List.all_eq_true, List.mem_range, Bool.or_eq_true, bne_iff_ne] at hp
  obtain ⟨⟨a, b⟩, c⟩ := hp
  exact ⟨a, b, fun q hq => ⟨fun hne => ((c q hq).1).resolve_left hne, (c q hq).2⟩⟩
theorem place_hi {h M j i : Nat} (hp : plB h M j i = true) (hi : ¬ i < h) : tB h M ((j * h + i) % (h * M)) = j * (2 * h) + i ∧ (j * h + i) % (h * M) % h + h = i ∧
    ∀ q, q < h * M → (q ≠ (j * h + i) % (h * M) → tB h M q ≠ j * (2 * h) + i) ∧ tA h q ≠ j * (2 * h) + i := by
  unfold plB at hp
  rw [if_neg hi] at hp
  simp only [Bool.and_eq_true, beq_iff_eq, List.all_eq_true, List.mem_range, Bool.or_eq_true, bne_iff_ne] at hp
  obtain ⟨⟨a, b⟩, c⟩ := hp
  exact ⟨a, b, fun q hq => ⟨fun hne => ((c q hq).1).resolve_left hne, (c q hq).2⟩⟩

theorem lt_succ_of_ne {a t : Nat} (h : a ≠ t) : decide (a < t + 1) = decide (a < t) := by
  rw [decide_eq_decide]; omega
theorem lt_succ_of_eq {a t : Nat} (h : a = t) : decide (a < t + 1) = true ∧ decide (a < t) = false := by
  subst h; simp

/-- The relation that holds at a place, step by step. -/
structure Steps (h n : Nat) (xs : List Num) (kd : Int) (R : Nat → Bool → Bool → Num → Prop) : Prop where
  zero : ∀ q, q < n → R q false false (0, 0)
  lo : ∀ q, q < n → ∀ b v, R q false b v → finN (addN v (wdN (xs.getD q (0, 0)) (winW kd (2 * h) (q % h)))) = true ∧ R q true b (addN v (wdN (xs.getD q (0, 0)) (winW kd (2 * h) (q % h))))
  hi : ∀ q, q < n → ∀ a v, R q a false v → finN (addN v (wdN (xs.getD q (0, 0)) (winW kd (2 * h) (q % h + h)))) = true ∧ R q a true (addN v (wdN (xs.getD q (0, 0)) (winW kd (2 * h) (q % h + h))))

def AtT (h M n t : Nat) (R : Nat → Bool → Bool → Num → Prop) (ws : List Num) : Prop := ws.length = n ∧ ∀ q, q < n → R q (decide (tA h q < t)) (decide (tB h M q < t)) (ws.getD q (0, 0))

theorem psF_at {xs : List Num} {kd : Int} {h j i : Nat} (hi : i < 2 * h) : (psF xs kd h j).getD i (0, 0) = wdN (xs.getD ((j * h + i) % xs.length) (0, 0)) (winW kd (2 * h) i) := by
  have hl : (pieceL xs (j * h) (2 * h)).length = 2 * h := by simp [pieceL]
  unfold psF wdL
  rw [getD_range _ _ (by rw [hl]; exact hi)]
  unfold wdF
  rw [hl]
  unfold pieceL
  rw [getD_range _ _ hi]
  rfl

theorem at_inner {h M j : Nat} {xs ws : List Num} {kd : Int} {R : Nat → Bool → Bool → Num → Prop} (hn : xs.length = h * M) (hN : 0 < h * M) (hs : Steps h (h * M) xs kd R)
    (hp : ∀ i, i < 2 * h → plB h M j i = true) (h0 : AtT h M (h * M) (j * (2 * h)) R ws) : ∀ i, i ≤ 2 * h → ∃ vs, tgI h (h * M) j (psF xs kd h j) ws i = some vs ∧ AtT h M (h * M) (j * (2 * h) + i) R vs := by
  intro i
  induction i with
  | zero => intro _; exact ⟨ws, rfl, h0⟩
  | succ i ih =>
    intro hi
    obtain ⟨vs, h1, hl, hv⟩ := ih (by omega)
    have hq0 : (j * h + i) % (h * M) < h * M := Nat.mod_lt _ hN
    have hz : (psF xs kd h j).getD i (0, 0) = wdN (xs.getD ((j * h + i) % (h * M)) (0, 0)) (winW kd (2 * h) i) := by rw [psF_at (by omega), hn]
    have hget : ∀ z q, q < h * M → (addAt vs ((j * h + i) % (h * M)) z).getD q (0, 0) = if (j * h + i) % (h * M) = q then addN (vs.getD ((j * h + i) % (h * M)) (0, 0)) z else vs.getD q (0, 0) := by
      intro z q _
      unfold addAt
      rw [getD_setN, hl]
      by_cases e : (j * h + i) % (h * M) = q
      · rw [if_pos ⟨e, hq0⟩, if_pos e]
      · rw [if_neg (fun c => e c.1), if_neg e]
    by_cases hlo : i < h
    · obtain ⟨p1, p2, p3⟩ := place_lo (hp i (by omega)) hlo
      have hv0 := hv _ hq0
      rw [p1, (lt_succ_of_eq rfl).2] at hv0
      obtain ⟨s1, s2⟩ := hs.lo _ hq0 _ _ hv0
      rw [p2, ← hz] at s1 s2
      refine ⟨_, tgI_yes h1 s1, by unfold addAt; rw [List.length_set, hl], fun q hq => ?_⟩
      rw [hget _ q hq, ← Nat.add_assoc]
      by_cases e : (j * h + i) % (h * M) = q
      · rw [if_pos e]
        subst e
        rw [(lt_succ_of_eq p1).1, lt_succ_of_ne (p3 _ hq).2]
        exact s2
      · rw [if_neg e, lt_succ_of_ne ((p3 q hq).1 (fun c => e c.symm)), lt_succ_of_ne (p3 q hq).2]
        exact hv q hq
    · obtain ⟨p1, p2, p3⟩ := place_hi (hp i (by omega)) hlo
      have hv0 := hv _ hq0
      rw [p1, (lt_succ_of_eq (t := j * (2 * h) + i) rfl).2] at hv0
      obtain ⟨s1, s2⟩ := hs.hi _ hq0 _ _ hv0
      rw [p2, ← hz] at s1 s2
      refine ⟨_, tgI_yes h1 s1, by unfold addAt; rw [List.length_set, hl], fun q hq => ?_⟩
      rw [hget _ q hq, ← Nat.add_assoc]
      by_cases e : (j * h + i) % (h * M) = q
      · rw [if_pos e]
        subst e
        rw [(lt_succ_of_eq p1).1, lt_succ_of_ne (p3 _ hq).2]
        exact s2
      · rw [if_neg e, lt_succ_of_ne ((p3 q hq).1 (fun c => e c.symm)), lt_succ_of_ne (p3 q hq).2]
        exact hv q hq

theorem at_outer {h M : Nat} {xs : List Num} {kd : Int} {R : Nat → Bool → Bool → Num → Prop} (hh : h ∈ [1, 2, 4, 8]) (hn : xs.length = h * M) (hN : 0 < h * M) (h16 : h * M ≤ 16) (hM : M < 17) (hs : Steps h (h * M) xs kd R) :
    ∀ j, j ≤ M → ∃ ws, tgO h (h * M) ((List.range M).map (psF xs kd h)) j = some ws ∧ AtT h M (h * M) (j * (2 * h)) R ws := by
  obtain ⟨hp, _⟩ := place_all h hh M hM h16
  intro j
  induction j with
  | zero =>
    intro _
    refine ⟨_, rfl, by simp, fun q hq => ?_⟩
    have e : (List.replicate (h * M) ((0, 0) : Num)).getD q (0, 0) = (0, 0) := by simp [List.getD, hq]
    rw [e, Nat.zero_mul]
    simpa using hs.zero q hq
  | succ j ih =>
    intro hj
    obtain ⟨ws, h1, h2⟩ := ih (by omega)
    obtain ⟨vs, h3, h4⟩ := at_inner hn hN hs (hp j (by omega)) h2 (2 * h) (Nat.le_refl _)
    refine ⟨vs, ?_, ?_⟩
    · rw [tgO_step h1]
      have e : ((List.range M).map (psF xs kd h)).getD j [] = psF xs kd h j := getD_range _ _ (by omega)
      rw [e]
      exact h3
    · rwa [Nat.add_mul, Nat.one_mul]

theorem back_of {h M : Nat} {xs : List Num} {kd : Int} {R : Nat → Bool → Bool → Num → Prop} (hh : h ∈ [1, 2, 4, 8]) (hn : xs.length = h * M) (hN : 0 < h * M) (h16 : h * M ≤ 16) (hM : M < 17) (hs : Steps h (h * M) xs kd R) :
    ∃ ws, tgO h (h * M) ((List.range M).map (psF xs kd h)) M = some ws ∧ ws.length = h * M ∧ ∀ q, q < h * M → R q true true (ws.getD q (0, 0)) := by
  obtain ⟨ws, h1, hl, h2⟩ := at_outer hh hn hN h16 hM hs M (Nat.le_refl _)
  obtain ⟨_, he⟩ := place_all h hh M hM h16
  refine ⟨ws, h1, hl, fun q hq => ?_⟩
  unfold plE at he
  simp only [List.all_eq_true, List.mem_range, Bool.and_eq_true] at he
  have := h2 q hq
  rw [(he q hq).1, (he q hq).2] at this
  exact this

/-! Halves and triangles are exact. -/
def wV (kd : Int) (n k : Nat) : Int := iv single (winW kd n k) / (p2 146 : Int)
theorem win_exact0 : ∀ n ∈ sizes, ∀ kd : Nat, kd < 2 → ∀ k, k < n → fin single (winW kd n k) = true ∧ iv single (winW kd n k) = wV kd n k * p2 146 ∧ 0 ≤ wV kd n k ∧ wV kd n k ≤ 8 := by decide +kernel
theorem win_whole0 : ∀ n ∈ sizes, ∀ kd : Nat, kd < 2 → ∀ k, k < n / 2 → wV kd n k + wV kd n (k + n / 2) = 8 := by decide +kernel
theorem rt_146 : rt single (tm single) (p2 400) < single.infRung := by decide +kernel
theorem rt_200 : rt single 0 (p2 200) < single.infRung := by decide +kernel

/-- One part: what lies there, and a number times a part of the window. -/
theorem ex_part {v x a : Nat} {X s V : Int} (hv : isV single v (X * s) 146) (hx : fin single x = true) (hxv : iv single x = X * (p2 149 : Int)) (hX : X.natAbs ≤ 1000) (hs : s.natAbs ≤ 8)
    (ha : fin single a = true) (hav : iv single a = V * (p2 146 : Int)) (hV : V.natAbs ≤ 8) :
    ∃ r t, floatBits .mul .f32 x a = some r ∧ floatBits .add .f32 v r = some t ∧ isV single t (X * (s + V)) 146 := by
  have b1 : (X * V).natAbs ≤ 8000 := by rw [Int.natAbs_mul]; exact Nat.mul_le_mul hX hV
  have b2 : (X * s).natAbs ≤ 8000 := by rw [Int.natAbs_mul]; exact Nat.mul_le_mul hX hs
  obtain ⟨r, e1, i1⟩ := isV_mul single (N := 400) (by decide) (show isV single x X 149 from ⟨hx, hxv⟩) (show isV single a V 146 from ⟨ha, hav⟩) (by show (_ : Int).natAbs < 2 ^ 24; omega) (by decide) rt_146 (by decide)
  have et : 149 + 146 - tm single = 146 := by decide
  rw [et] at i1
  obtain ⟨t, e2, i2⟩ := isV_add single (N := 200) hv i1 (by show (_ : Int).natAbs < 2 ^ 24; omega) rt_200 (by decide)
  rw [← Int.mul_add] at i2
  exact ⟨r, t, e1, e2, i2⟩

def exR (h : Nat) (xs : List Num) (kd : Int) (q : Nat) (a b : Bool) (v : Num) : Prop :=
  isV single v.1 (gX xs q * ((if a then wV kd (2 * h) (q % h) else 0) + (if b then wV kd (2 * h) (q % h + h) else 0))) 146 ∧
  isV single v.2 (gY xs q * ((if a then wV kd (2 * h) (q % h) else 0) + (if b then wV kd (2 * h) (q % h + h) else 0))) 146
theorem zero_isV : isV single 0 0 146 := by unfold isV; decide +kernel
theorem ex_add {z v : Num} {a : Nat} {X Y s V : Int} (h1 : isV single v.1 (X * s) 146) (h2 : isV single v.2 (Y * s) 146) (hz : G z X Y) (hX : X.natAbs ≤ 1000) (hY : Y.natAbs ≤ 1000) (hs : s.natAbs ≤ 8)
    (ha : fin single a = true) (hav : iv single a = V * (p2 146 : Int)) (hV : V.natAbs ≤ 8) :
    finN (addN v (wdN z a)) = true ∧ isV single (addN v (wdN z a)).1 (X * (s + V)) 146 ∧ isV single (addN v (wdN z a)).2 (Y * (s + V)) 146 := by
  obtain ⟨r, t, e1, e2, i1⟩ := ex_part h1 hz.1 hz.2.2.1 hX hs ha hav hV
  obtain ⟨r', t', e1', e2', i1'⟩ := ex_part h2 hz.2.1 hz.2.2.2 hY hs ha hav hV
  have w1 : wdN z a = (r, r') := by unfold wdN; rw [e1, e1']; rfl
  have w2 : addN v (r, r') = (t, t') := by unfold addN; show ((floatBits .add .f32 v.1 r).getD 0, (floatBits .add .f32 v.2 r').getD 0) = _; rw [e2, e2']; rfl
  rw [w1, w2]
  exact ⟨by unfold finN finC; rw [i1.1, i1'.1]; rfl, i1, i1'⟩

theorem sizes_half {h : Nat} (hh : h ∈ [1, 2, 4, 8]) : 2 * h ∈ sizes ∧ 1 ≤ h ∧ 2 * h / 2 = h := by
  simp only [List.mem_cons, List.not_mem_nil, or_false] at hh
  rcases hh with rfl | rfl | rfl | rfl <;> decide
theorem ex_steps {h n : Nat} {xs : List Num} {kd : Nat} (hh : h ∈ [1, 2, 4, 8]) (hk : kd < 2) (hn : xs.length = n) (hw : AllWhole xs 1000) : Steps h n xs kd (exR h xs kd) := by
  obtain ⟨hs, h1, h2⟩ := sizes_half hh
  have hwp := whole_parts hw
  have hwin := win_exact0 (2 * h) hs kd hk
  refine ⟨fun q _ => ?_, fun q hq b v hv => ?_, fun q hq a v hv => ?_⟩
  · unfold exR
    simp only [Bool.false_eq_true, if_false, Int.add_zero, Int.mul_zero]
    exact ⟨zero_isV, zero_isV⟩
  · have hm : q % h < h := Nat.mod_lt _ h1
    obtain ⟨g, b1, b2, b3, b4⟩ := hwp q (by omega)
    obtain ⟨w1, w2, w3, w4⟩ := hwin (q % h) (by omega)
    obtain ⟨_, _, w5, w6⟩ := hwin (q % h + h) (by omega)
    unfold exR at hv ⊢
    simp only [Bool.false_eq_true, if_false, if_true, Int.zero_add] at hv ⊢
    have hb : (if b = true then wV kd (2 * h) (q % h + h) else 0).natAbs ≤ 8 := by split <;> omega
    rw [Int.add_comm]
    exact ex_add hv.1 hv.2 g (by omega) (by omega) hb w1 w2 (by omega)
  · have hm : q % h < h := Nat.mod_lt _ h1
    obtain ⟨g, b1, b2, b3, b4⟩ := hwp q (by omega)
    obtain ⟨w1, w2, w3, w4⟩ := hwin (q % h + h) (by omega)
    obtain ⟨_, _, w5, w6⟩ := hwin (q % h) (by omega)
    unfold exR at hv ⊢
    simp only [Bool.false_eq_true, if_false, if_true, Int.add_zero] at hv ⊢
    have hb : (if a = true then wV kd (2 * h) (q % h) else 0).natAbs ≤ 8 := by split <;> omega
    exact ex_add hv.1 hv.2 g (by omega) (by omega) hb w1 w2 (by omega)
theorem ex_done {h n : Nat} {xs : List Num} {kd : Nat} {q : Nat} {v : Num} (hh : h ∈ [1, 2, 4, 8]) (hk : kd < 2) (hn : xs.length = n) (hq : q < n) (hw : AllWhole xs 1000) (hv : exR h xs kd q true true v) : valEq v (xs.getD q (0, 0)) := by
  obtain ⟨hs, h1, h2⟩ := sizes_half hh
  have hm : q % h < h := Nat.mod_lt _ h1
  have h8 := win_whole0 (2 * h) hs kd hk (q % h) (by omega)
  rw [h2] at h8
  obtain ⟨g, _⟩ := whole_parts hw q (by omega)
  unfold exR at hv
  simp only [if_true] at hv
  rw [h8] at hv
  have e : (p2 149 : Int) = 8 * (p2 146 : Int) := by
    have : p2 149 = 8 * p2 146 := p2m (a := 3) (b := 146) (by decide)
    rw [this]; simp
  exact ⟨hv.1.1, hv.2.1, g.1, g.2.1, by rw [hv.1.2, g.2.2.1, e, Int.mul_assoc], by rw [hv.2.2, g.2.2.2, e, Int.mul_assoc]⟩

def wU (n k : Nat) : Int := iv single (winW 2 n k) / (p2 124 : Int)
theorem win_smo0 : ∀ n ∈ sizes, ∀ k, k < n → fin single (winW 2 n k) = true ∧ iv single (winW 2 n k) = wU n k * p2 124 ∧ 0 ≤ wU n k ∧ wU n k ≤ 33554432 := by decide +kernel
theorem win_smo1 : ∀ n ∈ sizes, ∀ k, k < n / 2 → (wU n k + wU n (k + n / 2) - 33554432).natAbs ≤ 2 := by decide +kernel
theorem rt_308 : rt single 149 (p2 308) < single.infRung := by decide +kernel
theorem rt_159 : rt single 0 (p2 159) < single.infRung := by decide +kernel

theorem sm_prod {x a : Nat} {X W : Int} (hx : fin single x = true) (hxv : iv single x = X * (p2 149 : Int)) (hX : X.natAbs ≤ 1000) (ha : fin single a = true) (hav : iv single a = W * (p2 124 : Int)) (hW : W.natAbs ≤ 33554432) :
    ∃ r, floatBits .mul .f32 x a = some r ∧ fin single r = true ∧ Nr1 (p2 124) (iv single r) (X * W) 1024 := by
  obtain ⟨r, h1, h2, h3⟩ := mul_iv single (by decide) hx ha
  have et : tm single = 149 := by decide
  have b1 : (X * W).natAbs ≤ 33554432000 := by
    rw [Int.natAbs_mul]
    exact Nat.mul_le_mul hX hW
  have hE : iv single x * iv single a = X * W * (p2 124 : Int) * (p2 149 : Int) := by rw [hxv, hav]; grind
  have hE2 : (X * W * (p2 124 : Int) * (p2 149 : Int)).natAbs = (X * W).natAbs * p2 273 := by
    have : p2 273 = p2 124 * p2 149 := by rw [← p2_add]
    rw [Int.mul_assoc (X * W), Int.natAbs_mul (X * W), ← Int.natCast_mul, Int.natAbs_natCast, this]
  have hlt : (X * W * (p2 124 : Int) * (p2 149 : Int)).natAbs < p2 (307 + 1) := by
    have e1 : p2 (307 + 1) = 34359738368 * p2 273 := p2m (a := 35) (b := 273) (c := 34359738368) (by decide)
    have := p2_pos 273
    have e2 : (X * W).natAbs * p2 273 ≤ 33554432000 * p2 273 := Nat.mul_le_mul_right _ b1
    rw [hE2, e1]
    generalize (X * W).natAbs * p2 273 = q1 at *
    generalize p2 273 = q2 at *
    omega
  rw [et, hE] at h2 h3
  have hF : rF single 149 (X * W * (p2 124 : Int) * (p2 149 : Int)) = true := rF_lt single (N := 308) rt_308 (Nat.le_of_lt hlt)
  obtain ⟨r1, r2⟩ := rI_err single (N := 307) hF hlt
  have eN : p2 (307 - (single.fractionBits + 149) + 149) = 2048 * (p2 124 * p2 149) := by
    have a : p2 (307 - (single.fractionBits + 149) + 149) = p2 284 := rfl
    have b : p2 284 = 2048 * p2 273 := p2m (a := 11) (b := 273) (c := 2048) (by decide)
    have c : p2 273 = p2 124 * p2 149 := by rw [← p2_add]
    rw [a, b, c]
  rw [eN, ← h3] at r1 r2
  refine ⟨r, h1, by rw [h2, hF], ?_⟩
  have hP : (0 : Int) < p2 149 := by have := p2_pos 149; omega
  have e6 : ((2048 * (p2 124 * p2 149) : Nat) : Int) = 2 * (1024 * (p2 124 : Int) * (p2 149 : Int)) := by simp; grind
  rw [e6] at r1 r2
  unfold Nr1
  constructor
  · refine Int.le_of_mul_le_mul_right (a := (p2 149 : Int)) ?_ hP
    rw [Int.sub_mul, Int.neg_mul]
    show -(1024 * (p2 124 : Int) * (p2 149 : Int)) ≤ _
    generalize 1024 * (p2 124 : Int) * (p2 149 : Int) = q1 at *
    omega
  · refine Int.le_of_mul_le_mul_right (a := (p2 149 : Int)) ?_ hP
    rw [Int.sub_mul]
    show _ ≤ 1024 * (p2 124 : Int) * (p2 149 : Int)
    generalize 1024 * (p2 124 : Int) * (p2 149 : Int) = q1 at *
    omega

theorem sm_sum {v r : Nat} {P Q : Int} {e d : Nat} (hv : fin single v = true) (hr : fin single r = true) (hA : Nr1 (p2 124) (iv single v) P e) (hB : Nr1 (p2 124) (iv single r) Q d) (hM : e + d + (P + Q).natAbs ≤ 34359738367) :
    ∃ t, floatBits .add .f32 v r = some t ∧ fin single t = true ∧ Nr1 (p2 124) (iv single t) (P + Q) (e + d + 1024) := by
  obtain ⟨t, t1, t2, t3⟩ := add_iv single hv hr
  obtain ⟨a1, a2⟩ := hA
  obtain ⟨b1, b2⟩ := hB
  have k1 : -(((e + d : Nat) : Int) * p2 124) ≤ (iv single v + iv single r) - (P + Q) * p2 124 ∧ (iv single v + iv single r) - (P + Q) * p2 124 ≤ ((e + d : Nat) : Int) * p2 124 := by
    have e1 : ((e + d : Nat) : Int) * (p2 124 : Int) = (e : Int) * p2 124 + (d : Int) * p2 124 := by rw [← Int.add_mul]; congr 1
    rw [e1, Int.add_mul]
    omega
  obtain ⟨k1, k2⟩ := k1
  generalize iv single v + iv single r = X at *
  generalize P + Q = R at *
  have hRK : (R * (p2 124 : Int)).natAbs = R.natAbs * p2 124 := by rw [Int.natAbs_mul, Int.natAbs_natCast]
  have hXa : X.natAbs ≤ 34359738367 * p2 124 := by
    have e1 : ((e + d : Nat) : Int) * (p2 124 : Int) = (((e + d) * p2 124 : Nat) : Int) := by simp
    rw [e1] at k1 k2
    have e2 : (e + d) * p2 124 + R.natAbs * p2 124 ≤ 34359738367 * p2 124 := by rw [← Nat.add_mul]; exact Nat.mul_le_mul_right _ hM
    generalize (e + d) * p2 124 = q1 at *
    generalize 34359738367 * p2 124 = q2 at *
    generalize R.natAbs * p2 124 = q3 at *
    generalize R * (p2 124 : Int) = q4 at *
    omega
  have hXb : X.natAbs < p2 (158 + 1) := by
    have e1 : p2 (158 + 1) = 34359738368 * p2 124 := p2m (a := 35) (b := 124) (c := 34359738368) (by decide)
    have := p2_pos 124
    rw [e1]
    generalize p2 124 = q3 at *
    omega
  have hF : rF single 0 X = true := rF_lt single (N := 159) rt_159 (Nat.le_of_lt hXb)
  obtain ⟨r1, r2⟩ := rI_err single (N := 158) hF hXb
  have e0 : (p2 0 : Int) = 1 := rfl
  have eN : p2 (158 - (single.fractionBits + 0) + 0) = p2 135 := rfl
  have e135 : p2 135 = 2048 * p2 124 := p2m (a := 11) (b := 124) (c := 2048) (by decide)
  rw [e0, Int.mul_one, eN, e135] at r1 r2
  have e5 : ((e + d + 1024 : Nat) : Int) * (p2 124 : Int) = ((e + d : Nat) : Int) * p2 124 + 1024 * p2 124 := by
    rw [← Int.add_mul]; congr 1
  refine ⟨t, t1, by rw [t2, hF], ?_⟩
  rw [t3]
  unfold Nr1
  rw [e5]
  have e6 : ((2048 * p2 124 : Nat) : Int) = 2048 * (p2 124 : Int) := by simp
  rw [e6] at r1 r2
  generalize ((e + d : Nat) : Int) * (p2 124 : Int) = q1 at *
  generalize R * (p2 124 : Int) = q2 at *
  generalize (p2 124 : Int) = q3 at *
  omega

theorem sm_add {z v : Num} {a e : Nat} {X Y s W : Int} (f1 : fin single v.1 = true) (f2 : fin single v.2 = true) (h1 : Nr1 (p2 124) (iv single v.1) (X * s) e) (h2 : Nr1 (p2 124) (iv single v.2) (Y * s) e) (he : e ≤ 2048)
    (hz : G z X Y) (hX : X.natAbs ≤ 1000) (hY : Y.natAbs ≤ 1000) (ha : fin single a = true) (hav : iv single a = W * (p2 124 : Int)) (hW : W.natAbs ≤ 33554432) (hs : (s + W).natAbs ≤ 33554440) :
    finN (addN v (wdN z a)) = true ∧ fin single (addN v (wdN z a)).1 = true ∧ fin single (addN v (wdN z a)).2 = true ∧ Nr1 (p2 124) (iv single (addN v (wdN z a)).1) (X * (s + W)) (e + 2048) ∧ Nr1 (p2 124) (iv single (addN v (wdN z a)).2) (Y * (s + W)) (e + 2048) := by
  obtain ⟨r, e1, g1, n1⟩ := sm_prod hz.1 hz.2.2.1 hX ha hav hW
  obtain ⟨r', e1', g1', n1'⟩ := sm_prod hz.2.1 hz.2.2.2 hY ha hav hW
  have c1 : (X * s + X * W).natAbs ≤ 1000 * 33554440 := by rw [← Int.mul_add, Int.natAbs_mul]; exact Nat.mul_le_mul hX hs
  have c2 : (Y * s + Y * W).natAbs ≤ 1000 * 33554440 := by rw [← Int.mul_add, Int.natAbs_mul]; exact Nat.mul_le_mul hY hs
  obtain ⟨t, e2, g2, n2⟩ := sm_sum f1 g1 h1 n1 (by omega)
  obtain ⟨t', e2', g2', n2'⟩ := sm_sum f2 g1' h2 n1' (by omega)
  have w1 : wdN z a = (r, r') := by unfold wdN; rw [e1, e1']; rfl
  have w2 : addN v (r, r') = (t, t') := by unfold addN; show ((floatBits .add .f32 v.1 r).getD 0, (floatBits .add .f32 v.2 r').getD 0) = _; rw [e2, e2']; rfl
  rw [← Int.mul_add] at n2 n2'
  rw [w1, w2]
  exact ⟨by unfold finN finC; rw [g2, g2']; rfl, g2, g2', nr_mono n2 (by omega), nr_mono n2' (by omega)⟩

def smR (h : Nat) (xs : List Num) (q : Nat) (a b : Bool) (v : Num) : Prop :=
  fin single v.1 = true ∧ fin single v.2 = true ∧
  Nr1 (p2 124) (iv single v.1) (gX xs q * ((if a then wU (2 * h) (q % h) else 0) + (if b then wU (2 * h) (q % h + h) else 0))) ((if a then 2048 else 0) + (if b then 2048 else 0)) ∧
  Nr1 (p2 124) (iv single v.2) (gY xs q * ((if a then wU (2 * h) (q % h) else 0) + (if b then wU (2 * h) (q % h + h) else 0))) ((if a then 2048 else 0) + (if b then 2048 else 0))
theorem zero_nr : fin single 0 = true ∧ iv single 0 = 0 := by decide +kernel
theorem sm_steps {h n : Nat} {xs : List Num} (hh : h ∈ [1, 2, 4, 8]) (hn : xs.length = n) (hw : AllWhole xs 1000) : Steps h n xs 2 (smR h xs) := by
  obtain ⟨hs, h1, h2⟩ := sizes_half hh
  have hwp := whole_parts hw
  have hwin := win_smo0 (2 * h) hs
  have hsum := win_smo1 (2 * h) hs
  rw [h2] at hsum
  refine ⟨fun q _ => ?_, fun q hq b v hv => ?_, fun q hq a v hv => ?_⟩
  · unfold smR Nr1
    simp only [Bool.false_eq_true, if_false, Int.add_zero, Int.mul_zero, zero_nr.1, zero_nr.2]
    decide
  · have hm : q % h < h := Nat.mod_lt _ h1
    obtain ⟨g, b1, b2, b3, b4⟩ := hwp q (by omega)
    obtain ⟨w1, w2, w3, w4⟩ := hwin (q % h) (by omega)
    obtain ⟨_, _, w5, w6⟩ := hwin (q % h + h) (by omega)
    have h3 := hsum (q % h) hm
    unfold smR at hv ⊢
    simp only [Bool.false_eq_true, if_false, if_true, Int.zero_add, Nat.zero_add] at hv ⊢
    have hb : ((if b = true then wU (2 * h) (q % h + h) else 0) + wU (2 * h) (q % h)).natAbs ≤ 33554440 := by split <;> omega
    have he : (if b = true then 2048 else 0) ≤ 2048 := by split <;> omega
    rw [Int.add_comm, Nat.add_comm 2048]
    exact sm_add hv.1 hv.2.1 hv.2.2.1 hv.2.2.2 he g (by omega) (by omega) w1 w2 (by omega) hb
  · have hm : q % h < h := Nat.mod_lt _ h1
    obtain ⟨g, b1, b2, b3, b4⟩ := hwp q (by omega)
    obtain ⟨w1, w2, w3, w4⟩ := hwin (q % h + h) (by omega)
    obtain ⟨_, _, w5, w6⟩ := hwin (q % h) (by omega)
    have h3 := hsum (q % h) hm
    unfold smR at hv ⊢
    simp only [Bool.false_eq_true, if_false, if_true, Int.add_zero, Nat.add_zero] at hv ⊢
    have hb : ((if a = true then wU (2 * h) (q % h) else 0) + wU (2 * h) (q % h + h)).natAbs ≤ 33554440 := by split <;> omega
    have he : (if a = true then 2048 else 0) ≤ 2048 := by split <;> omega
    exact sm_add hv.1 hv.2.1 hv.2.2.1 hv.2.2.2 he g (by omega) (by omega) w1 w2 (by omega) hb

theorem nr_shift {A P Q : Int} {e d : Nat} (h : Nr1 (p2 124) A P e) (hd : (P - Q).natAbs ≤ d) : Nr1 (p2 124) A Q (e + d) := by
  obtain ⟨h1, h2⟩ := h
  have hU : (0 : Int) ≤ p2 124 := Int.natCast_nonneg _
  have a1 : (P - Q) * (p2 124 : Int) ≤ (d : Int) * p2 124 := Int.mul_le_mul_of_nonneg_right (by omega) hU
  have a2 : -(d : Int) * (p2 124 : Int) ≤ (P - Q) * p2 124 := Int.mul_le_mul_of_nonneg_right (by omega) hU
  rw [Int.sub_mul] at a1 a2
  rw [Int.neg_mul] at a2
  have e1 : ((e + d : Nat) : Int) * (p2 124 : Int) = (e : Int) * p2 124 + (d : Int) * p2 124 := by rw [← Int.add_mul]; congr 1
  unfold Nr1
  rw [e1]
  omega
theorem sm_done {h n : Nat} {xs : List Num} {q : Nat} {v : Num} (hh : h ∈ [1, 2, 4, 8]) (hn : xs.length = n) (hq : q < n) (hw : AllWhole xs 1000) (hv : smR h xs q true true v) : NearN v (xs.getD q (0, 0)) := by
  obtain ⟨hs, h1, h2⟩ := sizes_half hh
  have hm : q % h < h := Nat.mod_lt _ h1
  have h8 := win_smo1 (2 * h) hs (q % h) (by omega)
  rw [h2] at h8
  obtain ⟨g, b1, b2, b3, b4⟩ := whole_parts hw q (by omega)
  unfold smR at hv
  simp only [if_true] at hv
  have key : ∀ X : Int, X.natAbs ≤ 1000 → (X * (wU (2 * h) (q % h) + wU (2 * h) (q % h + h)) - X * 33554432).natAbs ≤ 2000 := by
    intro X hX
    rw [← Int.mul_sub, Int.natAbs_mul]
    exact Nat.mul_le_mul hX h8
  have a1 := nr_shift hv.2.2.1 (key (gX xs q) (by omega))
  have a2 := nr_shift hv.2.2.2 (key (gY xs q) (by omega))
  exact ap_near ⟨hv.1, hv.2.1, a1, a2⟩ (G_Ap g) (by decide)

/-! What Together makes of the pieces. -/
theorem pOk_in {xs : List Num} {kd pt : Int} (h : pOk xs kd pt = true) : sigOk xs = true ∧ winOk kd pt = true ∧ 1 ≤ xs.length ∧ ∃ hf M : Nat, hf ∈ [1, 2, 4, 8] ∧ pt = ((2 * hf : Nat) : Int) ∧ (pt / 2).toNat = hf ∧ xs.length = hf * M ∧ xs.length / hf = M ∧ 1 ≤ M ∧ hf * M ≤ 16 ∧ M < 17 := by
  unfold pOk at h
  simp only [Bool.and_eq_true, decide_eq_true_eq] at h
  obtain ⟨⟨⟨h1, h2⟩, h3⟩, h4⟩ := h
  obtain ⟨_, m, rfl, hs⟩ := winOk_in h2
  have h16 := (sigOk_parts h1).1
  obtain ⟨hf, hh, rfl⟩ : ∃ hf : Nat, hf ∈ [1, 2, 4, 8] ∧ m = 2 * hf := by
    rcases sizes_of hs with rfl | rfl | rfl | rfl
    · exact ⟨1, by decide, rfl⟩
    · exact ⟨2, by decide, rfl⟩
    · exact ⟨4, by decide, rfl⟩
    · exact ⟨8, by decide, rfl⟩
  obtain ⟨_, hf1, _⟩ := sizes_half hh
  have e2 : ((2 * hf : Nat) : Int) / 2 = (hf : Int) := by omega
  rw [e2] at h4
  have hd := Nat.dvd_of_mod_eq_zero (rem_nz.1 h4)
  have hM : hf * (xs.length / hf) = xs.length := Nat.mul_div_cancel' hd
  have hM1 : 1 ≤ xs.length / hf := by
    rcases Nat.eq_zero_or_pos (xs.length / hf) with e | e
    · rw [e] at hM; omega
    · exact e
  have hM17 : xs.length / hf ≤ xs.length := Nat.div_le_self _ _
  exact ⟨h1, h2, h3, hf, xs.length / hf, hh, rfl, by rw [e2]; rfl, hM.symm, rfl, hM1, by omega, by omega⟩

theorem wd_sig {xs : List Num} {kd : Int} (h : sigOk xs = true) (hw : winOk kd xs.length = true) : sigOk (wdL xs kd) = true := by
  obtain ⟨h16, hall⟩ := sigOk_parts h
  unfold sigOk
  rw [wdL_length]
  simp only [Bool.and_eq_true, decide_eq_true_eq]
  refine ⟨h16, ?_⟩
  rw [List.all_eq_true]
  intro z hz
  obtain ⟨j, hj, rfl⟩ := List.mem_map.1 hz
  have hj' : j < xs.length := by simpa using hj
  obtain ⟨_, _, m3, _, _⟩ := wd_some (fin_at' hall hj') (win_unit hw hj')
  exact m3
theorem psL_eq {xs : List Num} {kd : Int} {hf M : Nat} (h : xs.length / hf = M) : psL xs kd hf = (List.range M).map (psF xs kd hf) := by unfold psL; rw [h]
theorem piece_sig {xs : List Num} {kd : Int} {hf j : Nat} (hs : sigOk xs = true) (hn : 1 ≤ xs.length) (hw : winOk kd ((2 * hf : Nat) : Int) = true) (h8 : 2 * hf ≤ 16) : sigOk (psF xs kd hf j) = true := by
  unfold psF
  have hl : (pieceL xs (j * hf) (2 * hf)).length = 2 * hf := by simp [pieceL]
  exact (wd_sig (piece_fin hs hn h8) (by rw [hl]; exact hw))

theorem psL_same {xs : List Num} {kd pt : Int} (h : pOk xs kd pt = true) : ∀ k, k < (psL xs kd (pt / 2).toNat).length → ∀ i, i < ((psL xs kd (pt / 2).toNat).getD k []).length →
    valEq (((psL xs kd (pt / 2).toNat).getD k []).getD i (0, 0)) (((psL xs kd (pt / 2).toNat).getD k []).getD i (0, 0)) := by
  obtain ⟨hs, hw, hn, hf, M, hh, rfl, e2, _, hM, _, h16, _⟩ := pOk_in h
  rw [e2, psL_eq hM]
  intro k hk i hi
  have hk' : k < M := by simpa using hk
  have e : ((List.range M).map (psF xs kd hf)).getD k [] = psF xs kd hf k := getD_range _ _ hk'
  rw [e] at hi ⊢
  have h8 : 2 * hf ≤ 16 := by
    simp only [List.mem_cons, List.not_mem_nil, or_false] at hh
    omega
  exact valEq.refl (fin_at' (sigOk_parts (piece_sig hs hn hw h8)).2 hi)

/-- How many there are. -/
theorem psL_many {xs : List Num} {kd pt : Int} (h : pOk xs kd pt = true) : (psL xs kd (pt / 2).toNat).length ≤ 16 ∧ 2 ≤ pt ∧ pt ≤ 16 ∧ (2 * (xs.length : Int)) / pt = ((psL xs kd (pt / 2).toNat).length : Int) := by
  obtain ⟨hs, hw, hn, hf, M, hh, rfl, e2, hx, hM, _, h16, _⟩ := pOk_in h
  rw [e2, psL_eq hM]
  have hl : ((List.range M).map (psF xs kd hf)).length = M := by simp
  rw [hl]
  obtain ⟨_, hf1, _⟩ := sizes_half hh
  refine ⟨by omega, by omega, ?_, ?_⟩
  · simp only [List.mem_cons, List.not_mem_nil, or_false] at hh
    omega
  · have e : 2 * (xs.length : Int) = ((2 * hf : Nat) : Int) * (M : Int) := by rw [hx]; simp; grind
    rw [e]
    exact Int.mul_ediv_cancel_left _ (by omega)

theorem psL_tog {xs : List Num} {kd pt : Int} (h : pOk xs kd pt = true) (hw : AllWhole xs 1000) : ∃ ws, togR (psL xs kd (pt / 2).toNat) = some ws ∧ ws.length = xs.length ∧
    (kd ≠ 2 → ∀ k, k < xs.length → valEq (ws.getD k (0, 0)) (xs.getD k (0, 0))) ∧ (kd = 2 → ∀ k, k < xs.length → NearN (ws.getD k (0, 0)) (xs.getD k (0, 0))) := by
  obtain ⟨hs, hwi, hn, hf, M, hh, rfl, e2, hx, hM, hM1, h16, h17⟩ := pOk_in h
  rw [e2, psL_eq hM]
  have h8 : 1 ≤ hf ∧ 2 * hf ≤ 16 := by
    simp only [List.mem_cons, List.not_mem_nil, or_false] at hh
    omega
  have hl : ((List.range M).map (psF xs kd hf)).length = M := by simp
  have hat : ∀ j, j < M → ((List.range M).map (psF xs kd hf)).getD j [] = psF xs kd hf j := fun j hj => getD_range _ _ hj
  have hfp : hfP ((List.range M).map (psF xs kd hf)) = hf := by
    unfold hfP
    rw [hat 0 (by omega), psF_len]
    omega
  have hpm : pieceB ((2 * hf : Nat) : Int) = true := by
    unfold winOk at hwi
    simp only [Bool.and_eq_true] at hwi
    exact hwi.1.1
  have hok : togOk ((List.range M).map (psF xs kd hf)) = true := by
    refine togOk_of (by omega) ?_ (by rw [hfp, hl]; exact h16) (fun j hj => ?_)
    · rw [hat 0 (by omega), psF_len]
      exact hpm
    · rw [hl] at hj
      rw [hfp, hat j hj]
      unfold pcB
      rw [psF_len, piece_sig hs hn hwi h8.2]
      simp
  rw [togR_of hok, hfp, hl]
  have hN : 0 < hf * M := by omega
  obtain ⟨hkd, _⟩ := winOk_in hwi
  rcases hkd with rfl | rfl | rfl
  · obtain ⟨ws, a, b, c⟩ := back_of hh hx hN h16 h17 (ex_steps (kd := 0) hh (by omega) hx hw)
    exact ⟨ws, a, by rw [b, hx], fun _ k hk => ex_done (kd := 0) hh (by omega) hx (by omega) hw (c k (by omega)), fun e => absurd e (by decide)⟩
  · obtain ⟨ws, a, b, c⟩ := back_of hh hx hN h16 h17 (ex_steps (kd := 1) hh (by omega) hx hw)
    exact ⟨ws, a, by rw [b, hx], fun _ k hk => ex_done (kd := 1) hh (by omega) hx (by omega) hw (c k (by omega)), fun e => absurd e (by decide)⟩
  · obtain ⟨ws, a, b, c⟩ := back_of hh hx hN h16 h17 (sm_steps hh hx hw)
    exact ⟨ws, a, by rw [b, hx], fun e => absurd rfl e, fun _ k hk => sm_done hh hx (by omega) hw (c k (by omega))⟩

set_option maxRecDepth 100000 in
set_option maxHeartbeats 8000000 in
theorem FnPiecesOf_walk (A : Option Addr) (n cap : Nat) (w : World) (h : Code w A n cap) :
    Calls Try.prog 19 #[.slice A n cap] w fun e w' => e = .returned (.bool true) ∧ Below w.heap.size w w' := by
  have hm := h.2.1
  unfold maxLen at hm
  rcases Nat.lt_or_ge 1048576 n with hn | hn
  · go_enter Try.func19, Try.ntmps19
    go_wp2_with fail
    go_ret
    exact ⟨rfl, Below.refl _ _⟩
  have H := Lib.hid h
  clear h
  go_enter Try.func19, Try.ntmps19
  go_wp2_with fail
  refine (DrawPiecesOf_any _ _ _ _ H.out).mono ?_
  rintro e w1 ⟨B, c, xs, kd, pt, rfl, hc, hcm, hs, hb⟩
  have hsz := hb.size
  have S := Lib.hid hs
  unfold maxLen at hcm
  clear H hs
  have HL : Hid (xs.length = xs.length) := Lib.hid rfl
  generalize hml : xs.length = m at S hc HL ⊢
  clear HL
  have HL := Lib.hid hml
  have hm100 := S.out.2.1
  clear hml
  go_wp2_with fail
  refine (PiecesOf_any B m c kd pt xs w1 S.out).mono ?_
  intro e w2 hres
  rcases hres with ⟨hno, B2, c2, rfl, hcm2, hg2⟩ | ⟨hok, B2, c2, rfl, hc2, hcm2, hp2, hg2, _⟩
  · have hb2 := below_grown hb hg2 hsz
    have hsz2 : w.heap.size ≤ w2.heap.size := Nat.le_trans hsz hg2.size
    have S2 := Lib.hid (S.out.grown hg2)
    have HNo := Lib.hid hno
    clear hg2 hno
    unfold maxLen at hcm2
    go_wp2_with fail
    refine (sPiecesOf_any B m c kd pt xs w2 S2.out).mono ?_
    intro e w3 hres
    rcases hres with ⟨_, B3, c3, rfl, hcm3, hg3⟩ | ⟨hok, _⟩
    · have hb3 := below_grown hb2 hg3 hsz2
      clear hg3
      unfold maxLen at hcm3
      go_wp2_with fail
      refine (samePieces_eq B2 B3 0 _ _ [] _ (Pcs.nil _ _) (Pcs.nil _ _) (fun k hk => absurd hk (by omega))).mono ?_
      rintro e w' ⟨rfl, d2, rfl⟩
      go_wp2_with fail
      refine (alive_any _).mono ?_
      rintro e w' ⟨rfl, rfl⟩
      go_wp2_with fail
      go_ret
      refine ⟨rfl, ?_⟩
      repeat (first | exact hb3 | refine below_drewN ?_ _)
    · exact absurd (HNo.out.symm.trans hok) (by simp)
  · obtain ⟨hl16, hp1, hp2', hquo⟩ := psL_many hok
    have SM := Lib.hid (psL_same hok)
    have TG := Lib.hid (psL_tog hok)
    have HOk := Lib.hid hok
    rw [HL.out] at hquo TG
    have hb2 := below_grown hb hg2 hsz
    have hsz2 : w.heap.size ≤ w2.heap.size := Nat.le_trans hsz hg2.size
    have S2 := Lib.hid (S.out.grown hg2)
    have P2 := Lib.hid hp2
    clear hg2 hp2 hok S
    unfold maxLen at hcm2
    go_wp2_with fail
    refine (sPiecesOf_any B m c kd pt xs w2 S2.out).mono ?_
    intro e w3 hres
    rcases hres with ⟨hno, _⟩ | ⟨_, B3, c3, rfl, hc3, hcm3, hp3, hg3, _⟩
    · exact absurd (HOk.out.symm.trans hno) (by simp)
    have hb3 := below_grown hb2 hg3 hsz2
    have hsz3 : w.heap.size ≤ w3.heap.size := Nat.le_trans hsz2 hg3.size
    have S3 := Lib.hid (S2.out.grown hg3)
    have P3 := Lib.hid (P2.out.grown hg3)
    have U3 := Lib.hid hp3
    clear hg3 hp3 S2 P2 HOk
    unfold maxLen at hcm3
    generalize psL xs kd (pt / 2).toNat = ps at *
    have HLp : Hid (ps.length = ps.length) := Lib.hid rfl
    generalize hmp : ps.length = M at P3 U3 HLp hl16 hquo SM hc2 hc3 ⊢
    clear HLp hmp
    go_wp2_with fail
    refine (samePieces_eq B2 B3 M c2 c3 ps w3 P3.out U3.out SM.out).mono ?_
    rintro e w' ⟨rfl, d0, rfl⟩
    have HB3 := Lib.hid hb3
    clear hb2 hb3 U3 SM
    go_wp2_with fail
    refine (wholeSignal_any B m c 1000 xs _ (S3.out.drewN d0) (by omega) (by omega)).mono ?_
    rintro e w' ⟨bw, rfl, hw, d2, rfl⟩
    cases bw
    · clear hw TG
      have v1 : (2 : Int) * (m : Int) ≤ 1000 := by omega
      have v2 : ¬ pt = 0 := by omega
      have hMM : ((M : Int) == (2 * (m : Int)) / pt) = true := by rw [hquo]; simp
      go_wp2_with fail
      go_ret
      refine ⟨rfl, ?_⟩
      repeat (first | exact HB3.out | refine below_drewN ?_ _)
    · obtain ⟨ws, hts, hlw, hex, hnr⟩ := TG.out (hw rfl)
      have HTS := Lib.hid hts
      have HLW := Lib.hid hlw
      have HEX := Lib.hid hex
      have HNR := Lib.hid hnr
      have M16 := hl16
      clear hw TG hts hlw hex hnr hquo
      go_wp2_with fail
      refine (Together_any _ _ _ _ _ (P3.out.drewN (d0 + d2)) M16).mono ?_
      intro e w4 hres
      rcases hres with ⟨hno, _⟩ | ⟨ws', hts', hmd⟩
      · exact absurd (HTS.out.symm.trans hno) (by simp)
      obtain rfl : ws = ws' := by
        have := HTS.out.symm.trans hts'
        simpa using this
      obtain ⟨B4, c4, rfl, hc4, hcm4, hr4, ho4, hg4⟩ := hmd.out (0, 0) (by rw [HLW.out]; omega)
      rw [HLW.out] at hr4 hc4 ⊢
      have hb4 := below_grown (below_drewN HB3.out (d0 + d2)) hg4 hsz3
      have S4 := Lib.hid ((S3.out.drewN (d0 + d2)).grown hg4)
      have Y4 := Lib.hid (Sig.rw hr4)
      have HB4 := Lib.hid hb4
      clear hmd ho4 hg4 hr4 hts' hb4
      unfold maxLen at hcm4
      by_cases hk : kd = 2
      · have HN := Lib.hid (HNR.out hk)
        clear HNR HEX
        subst hk
        go_wp2_with fail
        refine (nearSignal_yes B4 B m c4 c ws xs w4 Y4.out S4.out HN.out).mono ?_
        rintro e w' ⟨rfl, d3, rfl⟩
        go_wp2_with fail
        go_ret
        refine ⟨rfl, ?_⟩
        repeat (first | exact HB4.out | refine below_drewN ?_ _)
      · have hk1 : (kd == 2) = false := by simpa using hk
        have hk2 : (kd != 2) = true := by simpa using hk
        have HN := Lib.hid (HEX.out hk)
        clear HNR HEX
        go_wp2_with fail
        refine (sameSignal_eq B4 B m c4 c ws xs w4 Y4.out S4.out HN.out).mono ?_
        rintro e w' ⟨rfl, d3, rfl⟩
        go_wp2_with fail
        go_ret
        refine ⟨rfl, ?_⟩
        repeat (first | exact HB4.out | refine below_drewN ?_ _)
end Go.Proofs.Ytcnlgoghnlcndaa
