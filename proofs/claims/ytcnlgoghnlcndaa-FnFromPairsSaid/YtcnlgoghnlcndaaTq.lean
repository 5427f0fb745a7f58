/- Plain: blocks of a signal in turned order, and the rounds over pairs. -/
import Derived.Test.YtcnlgoghnlcndaaDt
namespace Go.Proofs.Ytcnlgoghnlcndaa
open Go.RowKit Ieee

theorem tuN_low (i B c : Nat) (hc : c < 2) : tuN (i + 1) (2 * B + c) = c * 2 ^ i + tuN i B := by
  induction i with
  | zero =>
    show 2 * 0 + (2 * B + c) / 1 % 2 = c * 1 + 0
    omega
  | succ i ih =>
    show 2 * tuN (i + 1) (2 * B + c) + (2 * B + c) / 2 ^ (i + 1) % 2 = c * 2 ^ (i + 1) + (2 * tuN i B + B / 2 ^ i % 2)
    have e : (2 * B + c) / 2 ^ (i + 1) = B / 2 ^ i := by
      rw [Nat.pow_succ, Nat.mul_comm (2 ^ i) 2, ← Nat.div_div_eq_div_mul]
      congr 1
      omega
    have e2 : c * 2 ^ (i + 1) = 2 * (c * 2 ^ i) := by rw [Nat.pow_succ, ← Nat.mul_assoc, Nat.mul_comm]
    rw [ih, e, e2]
    omega
theorem tu_tu : ∀ m, m ≤ 4 → ∀ p, p < 2 ^ m → tuN m (tuN m p) = p := by decide +kernel
theorem tu_inj {m i j : Nat} (hm : m ≤ 4) (hi : i < 2 ^ m) (hj : j < 2 ^ m) (h : tuN m i = tuN m j) : i = j := by
  rw [← tu_tu m hm i hi, h, tu_tu m hm j hj]

/-- The block b of a signal in turned order, of which there are 2^d. -/
def blk : Nat → (Nat → Num) → Nat → (Nat → Num)
  | 0, x, _ => x
  | d + 1, x, b => if b % 2 = 0 then evX (blk d x (b / 2)) else odX (blk d x (b / 2))
theorem blk_even (d : Nat) (x : Nat → Num) (B : Nat) : blk (d + 1) x (2 * B) = evX (blk d x B) := by
  show (if 2 * B % 2 = 0 then _ else _) = _
  rw [if_pos (by omega), show 2 * B / 2 = B by omega]
theorem blk_odd (d : Nat) (x : Nat → Num) (B : Nat) : blk (d + 1) x (2 * B + 1) = odX (blk d x B) := by
  show (if (2 * B + 1) % 2 = 0 then _ else _) = _
  rw [if_neg (by omega), show (2 * B + 1) / 2 = B by omega]
theorem blk_at (d : Nat) (x : Nat → Num) : ∀ b i, blk d x b i = x (i * 2 ^ d + tuN d b) := by
  induction d with
  | zero => intro b i; show x i = x (i * 1 + 0); rw [Nat.mul_one, Nat.add_zero]
  | succ d ih =>
    intro b i
    have hb : b = 2 * (b / 2) + b % 2 := by omega
    have h2 : b % 2 < 2 := by omega
    generalize b / 2 = B at hb
    generalize b % 2 = c at hb h2
    subst hb
    have e2 : 2 ^ (d + 1) = 2 * 2 ^ d := by rw [Nat.pow_succ, Nat.mul_comm]
    rw [tuN_low d B c h2, e2]
    have : c = 0 ∨ c = 1 := by omega
    rcases this with rfl | rfl
    · show blk (d + 1) x (2 * B) i = _
      rw [blk_even]
      show blk d x B (2 * i) = _
      rw [ih]
      congr 1
      rw [Nat.mul_comm 2 i, Nat.mul_assoc, Nat.zero_mul, Nat.zero_add]
    · rw [blk_odd]
      show blk d x B (2 * i + 1) = _
      rw [ih]
      congr 1
      rw [Nat.add_mul, Nat.mul_comm 2 i, Nat.mul_assoc, Nat.one_mul]
      omega
theorem blk_calm {m : Nat} {x : Nat → Num} (h : CalmF m x) : ∀ d, d ≤ m → ∀ b, CalmF (m - d) (blk d x b) := by
  intro d
  induction d with
  | zero => intro _ b; exact h
  | succ d ih =>
    intro hd b
    have e : m - d = (m - (d + 1)) + 1 := by omega
    have := ih (by omega) (b / 2)
    rw [e] at this
    show CalmF _ (if b % 2 = 0 then _ else _)
    by_cases hb : b % 2 = 0
    · rw [if_pos hb]; exact this.halves.1
    · rw [if_neg hb]; exact this.halves.2

/-- The number at the place p after the rounds for up to 2^s neighbours. -/
def stg (m s : Nat) (x : Nat → Num) (p : Nat) : Num := faN s (blk (m - s) x (p / 2 ^ s)) (p % 2 ^ s)
theorem stg_zero (m : Nat) (x : Nat → Num) (p : Nat) : stg m 0 x p = x (tuN m p) := by
  show blk (m - 0) x (p / 2 ^ 0) 0 = _
  rw [blk_at, Nat.zero_mul, Nat.zero_add, Nat.pow_zero, Nat.div_one, Nat.sub_zero]
theorem stg_top {m : Nat} (x : Nat → Num) {p : Nat} (hp : p < 2 ^ m) : stg m m x p = faN m x p := by
  unfold stg
  rw [Nat.sub_self, Nat.mod_eq_of_lt hp]
  rfl
/-- A pair of a round. -/
theorem stg_pair {m s : Nat} {x : Nat → Num} (hm : m ≤ 4) (hs : s < m) (h : CalmF m x) (B : Nat) {k : Nat} (hk : k < 2 ^ s) :
    PairOk (stg m s x (B * (2 * 2 ^ s) + k)) (stg m s x (B * (2 * 2 ^ s) + k + 2 ^ s)) (tn (tk (2 ^ (s + 1)) k))
    ∧ stg m (s + 1) x (B * (2 * 2 ^ s) + k) = addN (stg m s x (B * (2 * 2 ^ s) + k)) (mulN (stg m s x (B * (2 * 2 ^ s) + k + 2 ^ s)) (tn (tk (2 ^ (s + 1)) k)))
    ∧ stg m (s + 1) x (B * (2 * 2 ^ s) + k + 2 ^ s) = subN (stg m s x (B * (2 * 2 ^ s) + k)) (mulN (stg m s x (B * (2 * 2 ^ s) + k + 2 ^ s)) (tn (tk (2 ^ (s + 1)) k))) := by
  have hp : 0 < 2 ^ s := Nat.two_pow_pos s
  have e2 : 2 ^ (s + 1) = 2 * 2 ^ s := by rw [Nat.pow_succ, Nat.mul_comm]
  obtain ⟨d, hd⟩ : ∃ d, m - s = d + 1 := ⟨m - s - 1, by omega⟩
  have hd2 : m - (s + 1) = d := by omega
  have a1 : stg m s x (B * (2 * 2 ^ s) + k) = faN s (evX (blk d x B)) k := by
    unfold stg
    have q : B * (2 * 2 ^ s) + k = 2 ^ s * (2 * B) + k := by rw [← Nat.mul_assoc, Nat.mul_comm B 2, Nat.mul_comm (2 * B)]
    rw [q, Nat.mul_add_div hp, Nat.div_eq_of_lt hk, Nat.add_zero, Nat.mul_add_mod, Nat.mod_eq_of_lt hk, hd, blk_even]
  have a2 : stg m s x (B * (2 * 2 ^ s) + k + 2 ^ s) = faN s (odX (blk d x B)) k := by
    unfold stg
    have q : B * (2 * 2 ^ s) + k + 2 ^ s = 2 ^ s * (2 * B + 1) + k := by rw [Nat.mul_add, Nat.mul_one, ← Nat.mul_assoc, Nat.mul_comm B 2, Nat.mul_comm (2 * B)]; omega
    rw [q, Nat.mul_add_div hp, Nat.div_eq_of_lt hk, Nat.add_zero, Nat.mul_add_mod, Nat.mod_eq_of_lt hk, hd, blk_odd]
  have a3 : stg m (s + 1) x (B * (2 * 2 ^ s) + k) = faN (s + 1) (blk d x B) k := by
    unfold stg
    have q : B * (2 * 2 ^ s) + k = 2 * 2 ^ s * B + k := by rw [Nat.mul_comm]
    rw [e2, q, Nat.mul_add_div (by omega), Nat.div_eq_of_lt (by omega), Nat.mul_add_mod, Nat.mod_eq_of_lt (by omega), hd2]
    rfl
  have a4 : stg m (s + 1) x (B * (2 * 2 ^ s) + k + 2 ^ s) = faN (s + 1) (blk d x B) (k + 2 ^ s) := by
    unfold stg
    have q : B * (2 * 2 ^ s) + k + 2 ^ s = 2 * 2 ^ s * B + (k + 2 ^ s) := by rw [Nat.mul_comm]; omega
    rw [e2, q, Nat.mul_add_div (by omega), Nat.div_eq_of_lt (by omega), Nat.mul_add_mod, Nat.mod_eq_of_lt (by omega), hd2]
    rfl
  have hc := blk_calm h d (by omega) B
  have e3 : m - d = s + 1 := by omega
  rw [e3] at hc
  rw [a1, a2, a3, a4, fa_low s _ hk, fa_high]
  exact ⟨hc.pair (by omega) hk, rfl, rfl⟩
theorem stg_fin {m s : Nat} {x : Nat → Num} (hm : m ≤ 4) (hs : s ≤ m) (h : CalmF m x) (p : Nat) : finN (stg m s x p) = true := by
  have hc := blk_calm h (m - s) (by omega) (p / 2 ^ s)
  rw [show m - (m - s) = s by omega] at hc
  exact hc.fin (by omega) (Nat.mod_lt _ (Nat.two_pow_pos s))

/-- The round of the lots is at the lot that begins at 'fr', and in it at the place k. -/
def Rnd (g f : Nat → Num) (n h fr k : Nat) (ws : List Num) : Prop :=
  ws.length = n ∧ ∀ p, p < n → ws.getD p (0, 0) = if p < fr + k ∨ (fr + h ≤ p ∧ p < fr + h + k) then g p else f p
theorem Rnd.step {g f : Nat → Num} {n h fr k : Nat} {ws : List Num} (H : Rnd g f n h fr k ws) (hk : k < h) (_hn : fr + 2 * h ≤ n) :
    Rnd g f n h fr (k + 1) ((ws.set (fr + k) (g (fr + k))).set (fr + k + h) (g (fr + k + h))) := by
  obtain ⟨hl, H⟩ := H
  refine ⟨by simp [hl], fun p hp => ?_⟩
  have hl2 : (ws.set (fr + k) (g (fr + k))).length = n := by simp [hl]
  rw [getD_set2, getD_set2, hl2, hl]
  by_cases h1 : fr + k + h = p
  · subst h1
    rw [if_pos (by omega), if_pos (by omega)]
  · rw [if_neg (by omega)]
    by_cases h2 : fr + k = p
    · subst h2
      rw [if_pos (by omega), if_pos (by omega)]
    · rw [if_neg (by omega), H p hp]
      by_cases h3 : p < fr + k ∨ (fr + h ≤ p ∧ p < fr + h + k)
      · rw [if_pos h3, if_pos (by omega)]
      · rw [if_neg h3, if_neg (by omega)]
theorem Rnd.at {g f : Nat → Num} {n h fr k : Nat} {ws : List Num} (H : Rnd g f n h fr k ws) (hk : k < h) (hn : fr + 2 * h ≤ n) :
    ws.getD (fr + k) (0, 0) = f (fr + k) ∧ ws.getD (fr + k + h) (0, 0) = f (fr + k + h) := by
  obtain ⟨hl, H⟩ := H
  rw [H _ (by omega), H _ (by omega), if_neg (by omega), if_neg (by omega)]
  exact ⟨rfl, rfl⟩
theorem Rnd.next {g f : Nat → Num} {n h fr : Nat} {ws : List Num} (H : Rnd g f n h fr h ws) : Rnd g f n h (fr + 2 * h) 0 ws := by
  obtain ⟨hl, H⟩ := H
  refine ⟨hl, fun p hp => ?_⟩
  rw [H p hp]
  by_cases h3 : p < fr + h ∨ (fr + h ≤ p ∧ p < fr + h + h)
  · rw [if_pos h3, if_pos (by omega)]
  · rw [if_neg h3, if_neg (by omega)]
theorem Rnd.done {g f : Nat → Num} {n h fr : Nat} {ws : List Num} (H : Rnd g f n h fr 0 ws) (hn : n ≤ fr) : ws = (List.range n).map g := by
  obtain ⟨hl, H⟩ := H
  apply List.ext_getElem?
  intro i
  by_cases hi : i < n
  · have e := H i hi
    rw [if_pos (by omega)] at e
    have hi' : i < ws.length := by omega
    simp only [List.getD, List.getElem?_eq_getElem hi', Option.getD_some] at e
    rw [List.getElem?_eq_getElem hi', e]
    simp [hi]
  · rw [List.getElem?_eq_none (by omega), List.getElem?_eq_none (by simp; omega)]
theorem Rnd.begin (g f : Nat → Num) (n h : Nat) : Rnd g f n h 0 0 ((List.range n).map f) := by
  refine ⟨by simp, fun p hp => ?_⟩
  rw [if_neg (by omega)]
  exact getD_range f (0, 0) hp

/-- The first i numbers lie at their turned places. -/
def Ordd (m i : Nat) (x : Nat → Num) (ws : List Num) : Prop := ∀ j, j < i → ws.getD (tuN m j) (0, 0) = x j
theorem Ordd.step {m i : Nat} {x : Nat → Num} {ws : List Num} (hm : m ≤ 4) (hi : i < 2 ^ m) (hl : ws.length = 2 ^ m) (H : Ordd m i x ws) : Ordd m (i + 1) x (ws.set (tuN m i) (x i)) := by
  intro j hj
  have ht := tuN_lt m i
  rw [getD_set2, hl]
  by_cases hji : i = j
  · subst hji
    rw [if_pos ⟨rfl, ht⟩]
  · rw [if_neg (fun e => hji (tu_inj hm hi (by omega) e.1))]
    exact H j (by omega)
theorem Ordd.done {m : Nat} {x : Nat → Num} {ws : List Num} (hm : m ≤ 4) (hl : ws.length = 2 ^ m) (H : Ordd m (2 ^ m) x ws) : ws = (List.range (2 ^ m)).map (stg m 0 x) := by
  apply List.ext_getElem?
  intro i
  by_cases hi : i < 2 ^ m
  · have e := H (tuN m i) (tuN_lt m i)
    rw [tu_tu m hm i hi, ← stg_zero m x i] at e
    have hi' : i < ws.length := by omega
    simp only [List.getD, List.getElem?_eq_getElem hi', Option.getD_some] at e
    rw [List.getElem?_eq_getElem hi', e]
    simp [hi]
  · rw [List.getElem?_eq_none (by omega), List.getElem?_eq_none (by simp; omega)]
theorem stg_all (m : Nat) (x : Nat → Num) : (List.range (2 ^ m)).map (stg m m x) = faL m x := by
  unfold faL
  apply List.map_congr_left
  intro k hk
  exact stg_top x (List.mem_range.1 hk)
end Go.Proofs.Ytcnlgoghnlcndaa
