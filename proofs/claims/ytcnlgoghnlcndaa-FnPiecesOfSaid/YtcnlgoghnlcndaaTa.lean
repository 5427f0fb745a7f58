/- Plain: the sums of pieces laid over each other; pieces in memory.; Walk: Together (impl); Walk: Together (spec) -/
import Derived.Test.YtcnlgoghnlcndaaRt
import Derived.Test.YtcnlgoghnlcndaaT6
import Derived.WalkMore
namespace Go.Proofs.Ytcnlgoghnlcndaa
open Go.RowKit Ieee

def addAt (ws : List Num) (q : Nat) (z : Num) : List Num := ws.set q (addN (ws.getD q (0, 0)) z)
/-- The first i numbers of the piece j added. -/
def tgI (h N j : Nat) (p ws : List Num) : Nat → Option (List Num)
  | 0 => some ws
  | i + 1 => (tgI h N j p ws i).bind fun vs => if finN (addN (vs.getD ((j * h + i) % N) (0, 0)) (p.getD i (0, 0))) then some (addAt vs ((j * h + i) % N) (p.getD i (0, 0))) else none
/-- The first j pieces added. -/
def tgO (h N : Nat) (ps : List (List Num)) : Nat → Option (List Num)
  | 0 => some (List.replicate N (0, 0))
  | j + 1 => (tgO h N ps j).bind fun ws => tgI h N j (ps.getD j []) ws (2 * h)

theorem tgI_yes {h N j i : Nat} {p ws vs : List Num} (h1 : tgI h N j p ws i = some vs) (h2 : finN (addN (vs.getD ((j * h + i) % N) (0, 0)) (p.getD i (0, 0))) = true) :
    tgI h N j p ws (i + 1) = some (addAt vs ((j * h + i) % N) (p.getD i (0, 0))) := by
  show (tgI h N j p ws i).bind _ = _
  rw [h1]
  show (if _ then _ else _) = _
  rw [if_pos h2]
theorem tgI_no {h N j i : Nat} {p ws vs : List Num} (h1 : tgI h N j p ws i = some vs) (h2 : finN (addN (vs.getD ((j * h + i) % N) (0, 0)) (p.getD i (0, 0))) = false) :
    tgI h N j p ws (i + 1) = none := by
  show (tgI h N j p ws i).bind _ = _
  rw [h1]
  show (if _ then _ else _) = _
  rw [if_neg (by rw [h2]; decide)]
theorem tgI_stay {h N j i : Nat} {p ws : List Num} (h1 : tgI h N j p ws i = none) : ∀ k, tgI h N j p ws (i + k) = none := by
  intro k
  induction k with
  | zero => exact h1
  | succ k ih =>
    show (tgI h N j p ws (i + k)).bind _ = _
    rw [ih]
    rfl
theorem tgO_step {h N j : Nat} {ps : List (List Num)} {ws : List Num} (h1 : tgO h N ps j = some ws) : tgO h N ps (j + 1) = tgI h N j (ps.getD j []) ws (2 * h) := by
  show (tgO h N ps j).bind _ = _
  rw [h1]
  rfl
theorem tgO_stay {h N j : Nat} {ps : List (List Num)} (h1 : tgO h N ps j = none) : ∀ k, tgO h N ps (j + k) = none := by
  intro k
  induction k with
  | zero => exact h1
  | succ k ih =>
    show (tgO h N ps (j + k)).bind _ = _
    rw [ih]
    rfl
/-- A sum that is not finite ends it. -/
theorem tgO_end {h N j i m : Nat} {ps : List (List Num)} {ws vs : List Num} (h0 : tgO h N ps j = some ws) (h1 : tgI h N j (ps.getD j []) ws i = some vs) (hi : i < 2 * h) (hj : j < m)
    (h2 : finN (addN (vs.getD ((j * h + i) % N) (0, 0)) ((ps.getD j []).getD i (0, 0))) = false) : tgO h N ps m = none := by
  have a := tgI_stay (tgI_no h1 h2) (2 * h - (i + 1))
  rw [show i + 1 + (2 * h - (i + 1)) = 2 * h by omega, ← tgO_step h0] at a
  have b := tgO_stay a (m - (j + 1))
  rwa [show j + 1 + (m - (j + 1)) = m by omega] at b

theorem getD_setN (l : List Num) (a b : Nat) (z : Num) : (l.set a z).getD b (0, 0) = if a = b ∧ a < l.length then z else l.getD b (0, 0) := by
  simp only [List.getD, List.getElem?_set]
  by_cases hab : a = b
  · subst hab
    by_cases ha : a < l.length
    · simp [ha]
    · simp [ha]
  · simp [hab]
def FinW (ws : List Num) : Prop := ∀ k, finN (ws.getD k (0, 0)) = true
theorem FinW.zero (N : Nat) : FinW (List.replicate N (0, 0)) := by
  intro k
  have e : (List.replicate N ((0, 0) : Num)).getD k (0, 0) = (0, 0) := by
    by_cases hk : k < N
    · simp [List.getD, hk]
    · simp [List.getD, hk]
  rw [e]; decide +kernel
theorem FinW.addAt {ws : List Num} {q : Nat} {z : Num} (h : FinW ws) (hf : finN (addN (ws.getD q (0, 0)) z) = true) : FinW (addAt ws q z) := by
  intro k
  unfold Ytcnlgoghnlcndaa.addAt
  rw [getD_setN]
  split
  · exact hf
  · exact h k
theorem tgI_fin {h N j : Nat} {p ws : List Num} (hw : FinW ws) : ∀ i vs, tgI h N j p ws i = some vs → FinW vs ∧ vs.length = ws.length := by
  intro i
  induction i with
  | zero => intro vs hv; cases hv; exact ⟨hw, rfl⟩
  | succ i ih =>
    intro vs hv
    have hv' : (tgI h N j p ws i).bind (fun vs => if finN (addN (vs.getD ((j * h + i) % N) (0, 0)) (p.getD i (0, 0))) then some (addAt vs ((j * h + i) % N) (p.getD i (0, 0))) else none) = some vs := hv
    cases hu : tgI h N j p ws i with
    | none => rw [hu] at hv'; cases hv'
    | some us =>
      obtain ⟨a, b⟩ := ih us hu
      rw [hu] at hv'
      simp only [Option.bind_some] at hv'
      split at hv'
      · next hf =>
        cases hv'
        exact ⟨a.addAt hf, by unfold addAt; rw [List.length_set, b]⟩
      · cases hv'
theorem tgO_fin {h N : Nat} {ps : List (List Num)} : ∀ j ws, tgO h N ps j = some ws → FinW ws ∧ ws.length = N := by
  intro j
  induction j with
  | zero => intro ws hv; cases hv; exact ⟨FinW.zero N, by simp⟩
  | succ j ih =>
    intro ws hv
    cases hu : tgO h N ps j with
    | none =>
      have hv' : (tgO h N ps j).bind (fun ws => tgI h N j (ps.getD j []) ws (2 * h)) = some ws := hv
      rw [hu] at hv'; cases hv'
    | some us =>
      obtain ⟨a, b⟩ := ih us hu
      rw [tgO_step hu] at hv
      obtain ⟨c, d⟩ := tgI_fin a _ _ hv
      exact ⟨c, d.trans b⟩

/-- Sums of finite numbers are determined. -/
theorem add_some {a b : Num} (ha : finN a = true) (hb : finN b = true) : floatBits .add .f32 a.1 b.1 = some (addN a b).1 ∧ floatBits .add .f32 a.2 b.2 = some (addN a b).2 := by
  obtain ⟨a1, a2⟩ := finC_parts ha
  obtain ⟨b1, b2⟩ := finC_parts hb
  obtain ⟨r, r1, _, _⟩ := add_iv single a1 b1
  obtain ⟨s, s1, _, _⟩ := add_iv single a2 b2
  have e : addN a b = (r, s) := by
    unfold addN
    rw [show floatBits .add .f32 a.1 b.1 = some r from r1, show floatBits .add .f32 a.2 b.2 = some s from s1]
    rfl
  rw [e]
  exact ⟨r1, s1⟩

/-! Which pieces lie together. -/
def pcB (h : Nat) (p : List Num) : Bool := decide (p.length = 2 * h) && sigOk p
def hfP (ps : List (List Num)) : Nat := (ps.getD 0 []).length / 2
def togOk (ps : List (List Num)) : Bool := decide (1 ≤ ps.length) && pieceB (ps.getD 0 []).length && decide (hfP ps * ps.length ≤ 16) && decide (∀ j, j < ps.length → pcB (hfP ps) (ps.getD j []) = true)
def togR (ps : List (List Num)) : Option (List Num) := if togOk ps then tgO (hfP ps) (hfP ps * ps.length) ps ps.length else none
theorem togR_not {ps : List (List Num)} (h : togOk ps = false) : togR ps = none := by unfold togR; rw [if_neg (by rw [h]; decide)]
theorem togR_of {ps : List (List Num)} (h : togOk ps = true) : togR ps = tgO (hfP ps) (hfP ps * ps.length) ps ps.length := by unfold togR; rw [if_pos h]
theorem togOk_parts {ps : List (List Num)} (h : togOk ps = true) : 1 ≤ ps.length ∧ pieceB (ps.getD 0 []).length = true ∧ hfP ps * ps.length ≤ 16 ∧ ∀ j, j < ps.length → pcB (hfP ps) (ps.getD j []) = true := by
  unfold togOk at h
  simp only [Bool.and_eq_true, decide_eq_true_eq] at h
  exact ⟨h.1.1.1, h.1.1.2, h.1.2, h.2⟩
theorem togOk_of {ps : List (List Num)} (h1 : 1 ≤ ps.length) (h2 : pieceB (ps.getD 0 []).length = true) (h3 : hfP ps * ps.length ≤ 16) (h4 : ∀ j, j < ps.length → pcB (hfP ps) (ps.getD j []) = true) : togOk ps = true := by
  unfold togOk
  simp only [Bool.and_eq_true, decide_eq_true_eq]
  exact ⟨⟨⟨h1, h2⟩, h3⟩, h4⟩
theorem togOk_no {ps : List (List Num)} (h : 1 ≤ ps.length → pieceB (ps.getD 0 []).length = true → hfP ps * ps.length ≤ 16 → (∀ j, j < ps.length → pcB (hfP ps) (ps.getD j []) = true) → False) : togOk ps = false := by
  cases ht : togOk ps
  · rfl
  · obtain ⟨a, b, c, d⟩ := togOk_parts ht
    exact absurd (h a b c d) id
theorem togR_some {ps : List (List Num)} {ws : List Num} (h : togR ps = some ws) : togOk ps = true ∧ tgO (hfP ps) (hfP ps * ps.length) ps ps.length = some ws ∧ FinW ws ∧ ws.length = hfP ps * ps.length := by
  cases ht : togOk ps
  · rw [togR_not ht] at h; cases h
  · rw [togR_of ht] at h
    exact ⟨rfl, h, (tgO_fin _ _ h).1, (tgO_fin _ _ h).2⟩
theorem pcB_parts {h : Nat} {p : List Num} (hp : pcB h p = true) : p.length = 2 * h ∧ sigOk p = true := by
  unfold pcB at hp
  simpa only [Bool.and_eq_true, decide_eq_true_eq] using hp

/-! Pieces in memory: a row of slices. -/
def Pcs (w : World) (A : Option Addr) (m : Nat) (ps : List (List Num)) : Prop :=
  ps.length = m ∧ m ≤ 100 ∧ ∀ k, k < m → ∃ b o B c, A = some ⟨b, o, none⟩ ∧ b < w.heap.size ∧ w.cell? ⟨b, o + k, none⟩ = some (.slice B (ps.getD k []).length c) ∧
    (ps.getD k []).length ≤ c ∧ c ≤ maxLen ∧ Sig w B (ps.getD k []).length (ps.getD k [])
theorem Pcs.keep {w w' : World} {A : Option Addr} {m : Nat} {ps : List (List Num)} (h : Pcs w A m ps) (hb : Below w.heap.size w w') : Pcs w' A m ps := by
  refine ⟨h.1, h.2.1, fun k hk => ?_⟩
  obtain ⟨b, o, B, c, e, hbR, hc, h1, h2, h3⟩ := h.2.2 k hk
  exact ⟨b, o, B, c, e, Nat.lt_of_lt_of_le hbR hb.size, (hb.cell (p := ⟨b, o + k, none⟩) hbR).trans hc, h1, h2, h3.keep hb⟩
theorem Pcs.grown {w w' : World} {A : Option Addr} {m : Nat} {ps : List (List Num)} (h : Pcs w A m ps) (hg : w.grownBy w' none) : Pcs w' A m ps := h.keep (grown_below hg)
theorem Pcs.drewN {w : World} {A : Option Addr} {m : Nat} {ps : List (List Num)} (h : Pcs w A m ps) (d : Nat) : Pcs (w.drewN d) A m ps := h
theorem Pcs.nil (w : World) (A : Option Addr) : Pcs w A 0 [] := ⟨rfl, by omega, fun k hk => absurd hk (by omega)⟩

def TogNo (w : World) (e : Ending) (w' : World) : Prop := ∃ A c, e = .returned (.tuple #[.slice A 0 c, .bool false]) ∧ c ≤ maxLen ∧ w.grownBy w' none
def TogRes (ps : List (List Num)) (w : World) (e : Ending) (w' : World) : Prop :=
  (togR ps = none ∧ TogNo w e w') ∨ ∃ ws, togR ps = some ws ∧ MadeT 34 C ws true w e w'
theorem TogRes.no {ps : List (List Num)} {w w' : World} (h : togR ps = none) (hg : w.grownBy w' none) : TogRes ps w (.returned (.tuple #[.slice none 0 0, .bool false])) w' :=
  .inl ⟨h, none, 0, rfl, Nat.zero_le _, hg⟩
theorem TogRes.no2 {ps : List (List Num)} {w w1 : World} (h : togR ps = none) (hg : w.grownBy w1 none) (b : Nat) (d : Nat) : TogRes ps w (.returned (.tuple #[.slice (some ⟨b, 0, none⟩) 0 0, .bool false])) ((w1.alloc (.cells #[] 34)).drewN d) :=
  .inl ⟨h, _, 0, rfl, Nat.zero_le _, grown_drewN (grown_alloc hg _) d⟩
theorem own_monoT {w : World} {base base' E n : Nat} {v : Value} {xs : List Value} (h : w.ownsRow base E 1 v n xs) (hb : base' ≤ base) : w.ownsRow base' E 1 v n xs := by
  refine ⟨h.1, ?_⟩
  rcases h.2 with h0 | ⟨g, cap, cur, a, b, c⟩
  · exact .inl h0
  · exact .inr ⟨g, cap, cur, a, Nat.le_trans hb b, c⟩
theorem madeT_from {α : Type} {E : TypeId} {T : α → Value} {xs : List α} {ok : Bool} {w w1 w' : World} {e : Ending} (h : MadeT E T xs ok w1 e w') (hg : w.grownBy w1 none) : MadeT E T xs ok w e w' := by
  obtain ⟨v, a, b, c⟩ := h
  exact ⟨v, a, own_monoT b hg.size, grown_trans hg c⟩
theorem fin_atT {xs : List Num} (h : xs.all finN = true) {k : Nat} (hk : k < xs.length) : finN (xs.getD k (0, 0)) = true := by
  have e : xs.getD k (0, 0) = xs[k] := by simp [List.getD, hk]
  rw [e]
  exact List.all_eq_true.1 h _ (List.getElem_mem hk)
theorem rowStart0 {n d : Nat} {w wr : World} (h1 : wr.ownsRow (w.drewN d).heap.size 34 1 (.slice (some ⟨(w.drewN d).heap.size, 0, none⟩) n n) n ((List.replicate n ((0, 0) : Num)).map C)) (h2 : (w.drewN d).grownBy wr none) : RowSt n (List.replicate n (0, 0)) w wr :=
  ⟨by simp, h1, ⟨h2.os, h2.tape, h2.output, h2.size, h2.block⟩⟩
theorem rowDoneT {n : Nat} {ws : List Num} {w wr : World} (h : RowSt n ws w wr) : MadeT 34 C ws true w (.returned (.tuple #[.slice (some ⟨w.heap.size, 0, none⟩) n n, .bool true])) wr := by
  refine ⟨_, rfl, ?_, h.2.2⟩
  have := h.2.1
  rw [← h.1] at this ⊢
  exact this
theorem RowSt.add {n q : Nat} {ws : List Num} {w wr : World} (h : RowSt n ws w wr) (z : Num) : RowSt n (addAt ws q z) w (wr.setCell ⟨w.heap.size, q, none⟩ (C (addN (ws.getD q (0, 0)) z))) := h.put q _

theorem mod_natc (a b n : Nat) : ((a : Int) + (b : Int)) % (n : Int) = (((a + b) % n : Nat) : Int) := by simp
theorem place_ok {j m h i : Nat} (hj : j < m) (hi : i < 2 * h) (h16 : h * m ≤ 16) : j * h + h ≤ h * m ∧ 1 ≤ h * m ∧ j * h ≤ 16 ∧ h ≤ 16 := by
  have h1 : 1 ≤ h := by omega
  have a : (j + 1) * h ≤ m * h := Nat.mul_le_mul_right h (by omega)
  rw [Nat.add_mul, Nat.one_mul, Nat.mul_comm m h] at a
  have b : j * h ≤ j * h + h := Nat.le_add_right _ _
  refine ⟨a, by omega, by omega, by omega⟩

set_option maxRecDepth 100000 in
set_option maxHeartbeats 8000000 in
theorem Together_any (A : Option Addr) (m cap : Nat) (ps : List (List Num)) (w : World) (hp : Pcs w A m ps) (hm : m ≤ 16) :
    Calls Try.prog 72 #[.slice A m cap] w (TogRes ps w) := by
  have hl := hp.1
  have H := Lib.hid hp
  have HL := Lib.hid hl
  clear hp hl
  rcases Nat.eq_zero_or_pos m with rfl | hm1
  · have hno : togR ps = none := togR_not (togOk_no (fun h => absurd h (by have := HL.out; omega)))
    have HN := Lib.hid hno
    clear hno
    go_enter Try.func72, Try.ntmps72
    go_wp2_with fail
    go_ret2
    exact TogRes.no HN.out (grown_refl _ _)
  obtain ⟨b, o, B0, c0, rfl, hb, hc0, _, _, _⟩ := H.out.2.2 0 hm1
  have hz1 : ((m : Int) == 0) = false := by simp; omega
  have hz2 : decide ((16 : Int) < (m : Int)) = false := by simp; omega
  have HF : Hid (hfP ps = (ps.getD 0 []).length / 2) := Lib.hid rfl
  have H0 : Hid ((ps.getD 0 []).length ≤ 100) := Lib.hid (by obtain ⟨_, _, _, _, _, _, _, _, _, q⟩ := H.out.2.2 0 hm1; exact q.2.1)
  have NO := Lib.hid (fun (h : togOk ps = false) => togR_not h)
  have HP : Hid (pieceB (ps.getD 0 []).length = false → togOk ps = false) := Lib.hid (fun h => togOk_no (fun _ h2 _ _ => by rw [h] at h2; cases h2))
  have HM : Hid (16 < hfP ps * m → togOk ps = false) := Lib.hid (fun h => togOk_no (fun _ _ h3 _ => by have := HL.out; rw [this] at h3; omega))
  have HA : Hid (∀ j, j < m → pcB (hfP ps) (ps.getD j []) = false → togOk ps = false) := Lib.hid (fun j hj h => togOk_no (fun _ _ _ h4 => by have := h4 j (by rw [HL.out]; exact hj); rw [h] at this; cases this))
  have HY : Hid (pieceB (ps.getD 0 []).length = true → hfP ps * m ≤ 16 → (∀ j, j < m → pcB (hfP ps) (ps.getD j []) = true) → togR ps = tgO (hfP ps) (hfP ps * m) ps m) := Lib.hid (fun h1 h2 h3 => by
    have e := HL.out
    have := togR_of (togOk_of (ps := ps) (by omega) h1 (by rw [e]; exact h2) (by rw [e]; exact h3))
    rwa [e] at this)
  rw [Nat.add_zero] at hc0
  generalize hn0 : (ps.getD 0 []).length = n0 at *
  have hn100 := H0.out
  clear hn0 H0
  rcases Bool.eq_false_or_eq_true (pieceB n0) with hpb | hpb
  rotate_left
  · have HN := Lib.hid (NO.out (HP.out hpb))
    have HPb := Lib.hid hpb
    clear hpb
    go_enter Try.func72, Try.ntmps72
    go_wp2_with fail
    refine (pieceSize_any _ _).mono ?_
    rw [HPb.out]
    rintro e w' ⟨rfl, rfl⟩
    go_wp2_with fail
    go_ret2
    exact TogRes.no HN.out (grown_refl _ _)
  have HPb := Lib.hid hpb
  have hpc := piece_cases hpb
  obtain ⟨h, hh2, hh1, hh8⟩ : ∃ h : Nat, n0 = 2 * h ∧ 1 ≤ h ∧ h ≤ 8 := by
    rcases hpc with e | e | e | e
    · exact ⟨1, by omega, by omega, by omega⟩
    · exact ⟨2, by omega, by omega, by omega⟩
    · exact ⟨4, by omega, by omega, by omega⟩
    · exact ⟨8, by omega, by omega, by omega⟩
  have hhf : hfP ps = h := by rw [HF.out]; omega
  rw [hhf] at HM HA HY
  have hd2 : (n0 : Int) / 2 = (h : Int) := by omega
  have HH2 := Lib.hid hh2
  have hq1 : n0 ≤ 2 * h := by omega
  have hq2 : 2 * h ≤ n0 := by omega
  clear hpc HF hhf hpb hh2
  obtain ⟨N, hN⟩ : ∃ N, h * m = N := ⟨_, rfl⟩
  have HNe := Lib.hid hN
  rw [hN] at HM HY
  have hNi : (h : Int) * (m : Int) = (N : Int) := by rw [← hN]; simp
  have hN128 : N ≤ 128 := by rw [← hN]; exact Nat.mul_le_mul hh8 hm
  have v1 : IntKind.i64.wrap ((h : Int) * (m : Int)) = (N : Int) := by rw [hNi]; exact IntWalk.i64_in _ (by omega)
  clear hN hNi
  by_cases h16 : 16 < N
  · have HN := Lib.hid (NO.out (HM.out h16))
    go_enter Try.func72, Try.ntmps72
    go_wp2_with fail
    refine (pieceSize_any _ _).mono ?_
    rw [HPb.out]
    rintro e w' ⟨rfl, rfl⟩
    go_wp2_with fail
    go_ret2
    exact TogRes.no HN.out (grown_refl _ _)
  have HD := Lib.hid hd2
  go_enter Try.func72, Try.ntmps72
  go_wp2_with fail
  refine (pieceSize_any _ _).mono ?_
  rw [HPb.out]
  rintro e w' ⟨rfl, rfl⟩
  go_wp2_with fail
  go_loopw [43] (fun i wr => ∃ k : Nat, k ≤ m ∧ i = .int .i64 k ∧ Hid (∀ j, j < k → pcB h (ps.getD j []) = true) ∧ ∃ d, w.drewN d = wr) (fun i _ => m - (intOf i).toNat)
  case atStart => exact ⟨0, Nat.zero_le _, rfl, Lib.hid (fun j hj => absurd hj (by omega)), 0, rfl⟩
  case round =>
    obtain ⟨k, hk, rfl, hall, d, rfl⟩ := hrel
    by_cases hlt : k < m
    · obtain ⟨_, _, B, c, e', _, hcell, hc1, hcm, hsig⟩ := H.out.2.2 k hlt
      cases e'
      have HSg := Lib.hid hsig
      have hl100 := hsig.2.1
      have HNo := Lib.hid (HA.out k hlt)
      generalize hp : ps.getD k [] = p at *
      have HPk := Lib.hid hp
      clear hsig hp
      generalize hlp : p.length = np at *
      have HLp := Lib.hid hlp
      clear hlp
      unfold maxLen at hcm
      by_cases hln : np = n0
      · obtain rfl : n0 = np := hln.symm
        clear hln
        have e2h : (2 : Int) * (h : Int) = (n0 : Int) := by omega
        go_wp2_with fail
        refine (SignalOk_any _ _ _ _ _ (HSg.out.drewN d)).mono ?_
        rintro e w' ⟨rfl, d2, rfl⟩
        rcases Bool.eq_false_or_eq_true (sigOk p) with hs | hs
        · rw [hs]
          go_wp2_with fail
          go_roundw
          case rel =>
            have hnew : Hid (∀ j, j < k + 1 → pcB h (ps.getD j []) = true) := Lib.hid (fun j hj => by
              rcases Nat.lt_or_ge j k with hjk | hjk
              · exact hall.out j hjk
              · obtain rfl : j = k := by omega
                rw [HPk.out]
                unfold pcB
                rw [hs, HLp.out, HH2.out]
                simp)
            exact ⟨k + 1, by omega, by go_num, hnew, d + d2, by first | rfl | rw [World.drewN_drewN]⟩
          case measure => simp [intOf]; omega
        · have HN := Lib.hid (NO.out (HNo.out (by unfold pcB; rw [hs, Bool.and_false])))
          rw [hs]
          go_wp2_with fail
          go_ret2
          exact TogRes.no HN.out (grown_drewN (grown_refl _ _) _)
      · have HN := Lib.hid (NO.out (HNo.out (by unfold pcB; rw [HLp.out]; have : ¬ np = 2 * h := by omega
                                                simp [this])))
        have hne : ((np : Int) != (n0 : Int)) = true := by simp; omega
        have e2h : (2 : Int) * (h : Int) = (n0 : Int) := by omega
        go_wp2_with fail
        go_ret2
        exact TogRes.no HN.out (grown_drewN (grown_refl _ _) _)
    · obtain rfl : k = m := by omega
      have HR := Lib.hid (HY.out HPb.out (by omega) hall.out)
      have HAll := Lib.hid hall.out
      have RN : Hid (tgO h N ps k = none → togR ps = none) := Lib.hid (fun q => HR.out.trans q)
      have RS : Hid (∀ ws, tgO h N ps k = some ws → togR ps = some ws) := Lib.hid (fun ws q => HR.out.trans q)
      clear hall HR HA HM HY NO HP
      go_wp2_with (at_make; go_must (refine make_row (T := C) (0, 0) _ rfl _ _ 37 34 8 rfl Try.underlying37 info34 rfl (by decide) N N rfl rfl rfl (by omega) ?_); intro w1 ho hg; have hst : RowSt N (List.replicate N (0, 0)) w w1 := rowStart0 ho hg; clear ho hg)
      have HP0 := H
      go_loopw [62] (fun i wr => ∃ j : Nat, j ≤ k ∧ i = .int .i64 j ∧ ∃ ws, RowSt N ws w wr ∧ Hid (tgO h N ps j = some ws)) (fun i _ => k - (intOf i).toNat)
      case atStart => exact ⟨0, Nat.zero_le _, rfl, _, hst, Lib.hid rfl⟩
      case round =>
        obtain ⟨j, hj, rfl, ws0, hr0, htg0⟩ := hrel
        clear hst
        by_cases hlj : j < k
        · obtain ⟨_, _, B, c, e', hbs, hcell, hc1, hcm, hsig⟩ := (HP0.out.grown hr0.2.2).2.2 j hlj
          cases e'
          obtain ⟨_, _, B', c', e', _, hcell0, _, _, hsig0⟩ := HP0.out.2.2 j hlj
          cases e'
          have heq := hcell.symm.trans (cell_grown hcell0 hr0.2.2)
          simp only [Option.some.injEq, Value.slice.injEq, true_and] at heq
          obtain ⟨e1, e2⟩ := heq
          subst e1 e2
          obtain ⟨hlen, hso⟩ := pcB_parts (HAll.out j hlj)
          rw [hlen] at hcell hcell0 hc1 hsig hsig0
          have HS0 := Lib.hid hsig0
          have HPl : Hid (∀ i, i < 2 * h → finN ((ps.getD j []).getD i (0, 0)) = true) := Lib.hid (fun i hi => fin_atT (sigOk_parts hso).2 (by omega))
          have FW0 := Lib.hid (tgO_fin _ _ htg0.out).1
          have HE : Hid (∀ i vs, i < 2 * h → tgI h N j (ps.getD j []) ws0 i = some vs → finN (addN (vs.getD ((j * h + i) % N) (0, 0)) ((ps.getD j []).getD i (0, 0))) = false → togR ps = none) :=
            Lib.hid (fun i vs hi h1 h2 => RN.out (tgO_end htg0.out h1 hi hlj h2))
          have HT : Hid (∀ vs, tgI h N j (ps.getD j []) ws0 (2 * h) = some vs → tgO h N ps (j + 1) = some vs) := Lib.hid (fun vs q => (tgO_step htg0.out).trans q)
          have HZ : Hid (tgI h N j (ps.getD j []) ws0 0 = some ws0) := Lib.hid rfl
          generalize ps.getD j [] = p at *
          have hn2 := HH2.out.symm
          rw [hn2] at hcell HS0 HPl HE HT hc1
          clear hn2
          have hjh := place_ok (h := h) (i := 0) hlj (by omega) (by rw [HNe.out]; omega)
          rw [HNe.out] at hjh
          unfold maxLen at hcm
          clear hcell0 hsig hsig0 hlen hso htg0
          have ejh : (j : Int) * (h : Int) = ((j * h : Nat) : Int) := by simp
          generalize hjhe : j * h = F at *
          have HFe := Lib.hid hjhe
          clear hjhe
          have v2 : IntKind.i64.wrap ((j : Int) * (h : Int)) = (F : Int) := by rw [ejh]; exact IntWalk.i64_in _ (by omega)
          go_wp2_with fail
          go_loopw [69] (fun i wr => ∃ i' : Nat, i' ≤ n0 ∧ i = .int .i64 i' ∧ ∃ ws, RowSt N ws w wr ∧ Hid (tgI h N j p ws0 i' = some ws)) (fun i _ => n0 - (intOf i).toNat)
          case atStart => exact ⟨0, Nat.zero_le _, rfl, _, hr0, HZ⟩
          case round =>
            obtain ⟨i, hi, rfl, ws, hr, htg⟩ := hrel
            clear hr0 HZ
            by_cases hli : i < n0
            · obtain ⟨b2, o2, rfl, hb2, hcz⟩ := (HS0.out.grown hr.2.2).2.2 i hli
              have hq : (F + i) % N < N := Nat.mod_lt _ (by omega)
              obtain ⟨hu, hfz⟩ := hr.cell ((F + i) % N) hq
              have hfw := (tgI_fin FW0.out _ _ htg.out).1
              have hadd := add_some (hfw ((F + i) % N)) (HPl.out i hli)
              have hput := hr.add (q := (F + i) % N) (p.getD i (0, 0))
              have HYs := Lib.hid (fun q => tgI_yes (h := h) (N := N) (j := j) (p := p) (i := i) htg.out q)
              have HNs := Lib.hid (fun q => HE.out i ws hli htg.out q)
              rw [HFe.out] at HYs
              have e2 := mod_natc F i N
              generalize (F + i) % N = r at *
              generalize p.getD i (0, 0) = z at *
              generalize ws.getD r (0, 0) = v at *
              generalize addAt ws r z = us at *
              have g1 := fun W : World => cadd_run W 34 hadd.1 hadd.2
              generalize addN v z = s at *
              unfold C at hu hcz hput
              have HPut := Lib.hid hput
              have v3 : (F : Int) + (i : Int) ≤ 1000 := by omega
              have i1 : (0 : Int) ≤ (i : Int) := by omega
              clear hput hadd hfw hr htg
              have HFin := Lib.hid (fun W : World => Finite_any s.1 s.2 W)
              have hN0 : ¬ N = 0 := by omega
              go_wp2_with fail
              refine (HFin.out _).mono ?_
              rintro e w' ⟨rfl, d2, rfl⟩
              rcases Bool.eq_false_or_eq_true (finN s) with hs | hs
              · have hs' : finC s.1 s.2 = true := hs
                rw [hs']
                go_wp2_with fail
                go_roundw
                case rel => exact ⟨i + 1, by omega, by go_num, us, HPut.out.drewN d2, Lib.hid (HYs.out hs)⟩
                case measure => simp [intOf]; omega
              · have hs' : finC s.1 s.2 = false := hs
                rw [hs']
                go_wp2_with fail
                go_ret2
                exact TogRes.no (HNs.out hs) (HPut.out.drewN d2).2.2
            · obtain rfl : i = n0 := by omega
              go_wp2_with fail
              go_roundw
              case rel => exact ⟨j + 1, by omega, by go_num, ws, hr, Lib.hid (HT.out ws htg.out)⟩
              case measure => simp [intOf]; omega
        · obtain rfl : j = k := by omega
          go_wp2_with fail
          go_ret2
          exact .inr ⟨_, RS.out _ htg0.out, rowDoneT hr0⟩

set_option maxRecDepth 100000 in
set_option maxHeartbeats 8000000 in
theorem sTogether_any (A : Option Addr) (m cap : Nat) (ps : List (List Num)) (w : World) (hp : Pcs w A m ps) (hm : m ≤ 16) :
    Calls Try.prog 73 #[.slice A m cap] w (TogRes ps w) := by
  have hl := hp.1
  have H := Lib.hid hp
  have HL := Lib.hid hl
  clear hp hl
  rcases Nat.eq_zero_or_pos m with rfl | hm1
  · have hno : togR ps = none := togR_not (togOk_no (fun h => absurd h (by have := HL.out; omega)))
    have HN := Lib.hid hno
    clear hno
    go_enter Try.func73, Try.ntmps73
    go_wp2_with fail
    go_ret2
    exact TogRes.no2 HN.out (grown_refl _ _) _ 0
  obtain ⟨b, o, B0, c0, rfl, hb, hc0, _, _, _⟩ := H.out.2.2 0 hm1
  have hz1 : ((m : Int) == 0) = false := by simp; omega
  have HF : Hid (hfP ps = (ps.getD 0 []).length / 2) := Lib.hid rfl
  have H0 : Hid ((ps.getD 0 []).length ≤ 100) := Lib.hid (by obtain ⟨_, _, _, _, _, _, _, _, _, q⟩ := H.out.2.2 0 hm1; exact q.2.1)
  have NO := Lib.hid (fun (h : togOk ps = false) => togR_not h)
  have HP : Hid (pieceB (ps.getD 0 []).length = false → togOk ps = false) := Lib.hid (fun h => togOk_no (fun _ h2 _ _ => by rw [h] at h2; cases h2))
  have HM : Hid (16 < hfP ps * m → togOk ps = false) := Lib.hid (fun h => togOk_no (fun _ _ h3 _ => by have := HL.out; rw [this] at h3; omega))
  have HA : Hid (∀ j, j < m → pcB (hfP ps) (ps.getD j []) = false → togOk ps = false) := Lib.hid (fun j hj h => togOk_no (fun _ _ _ h4 => by have := h4 j (by rw [HL.out]; exact hj); rw [h] at this; cases this))
  have HY : Hid (pieceB (ps.getD 0 []).length = true → hfP ps * m ≤ 16 → (∀ j, j < m → pcB (hfP ps) (ps.getD j []) = true) → togR ps = tgO (hfP ps) (hfP ps * m) ps m) := Lib.hid (fun h1 h2 h3 => by
    have e := HL.out
    have := togR_of (togOk_of (ps := ps) (by omega) h1 (by rw [e]; exact h2) (by rw [e]; exact h3))
    rwa [e] at this)
  have HS : Hid (∀ (h : togOk ps = true) (N : Nat), hfP ps * m = N → tgO (hfP ps) N ps m = none → togR ps = none) := Lib.hid (fun h N hN q => by rw [togR_of h, HL.out, hN]; exact q)
  rw [Nat.add_zero] at hc0
  generalize hn0 : (ps.getD 0 []).length = n0 at *
  have hn100 := H0.out
  clear hn0 H0
  have hcell0 : ∀ w', w.grownBy w' none → w'.cell? ⟨b, o, none⟩ = some (.slice B0 n0 c0) := fun w' hg => cell_grown hc0 hg
  have HC0 := Lib.hid hcell0
  clear hcell0
  rcases Bool.eq_false_or_eq_true (pieceB n0) with hpb | hpb
  rotate_left
  · have HN := Lib.hid (NO.out (HP.out hpb))
    have hw : winOk 0 n0 = false := by unfold winOk; rw [hpb]; rfl
    have HW := Lib.hid hw
    clear hpb hw
    go_enter Try.func73, Try.ntmps73
    go_wp2_with fail
    refine (sWindowOf_no 0 n0 _ HW.out).mono ?_
    intro e w1 hmd
    obtain ⟨B, c, rfl, hc, hcm, hr, ho, hg⟩ := hmd.out 0 (by simp)
    simp only [List.length_nil] at hc hr ⊢
    have G1 := Lib.hid hg
    clear hmd hr ho hg
    unfold maxLen at hcm
    go_wp2_with fail
    go_ret2
    exact TogRes.no2 HN.out G1.out _ 0
  have hw : winOk 0 n0 = true := by unfold winOk; rw [hpb]; rfl
  have HW := Lib.hid hw
  have HWL : Hid ((winL 0 n0).length = n0) := Lib.hid (by simp [winL])
  have HPb := Lib.hid hpb
  have hpc := piece_cases hpb
  obtain ⟨h, hh2, hh1, hh8⟩ : ∃ h : Nat, n0 = 2 * h ∧ 1 ≤ h ∧ h ≤ 8 := by
    rcases hpc with e | e | e | e
    · exact ⟨1, by omega, by omega, by omega⟩
    · exact ⟨2, by omega, by omega, by omega⟩
    · exact ⟨4, by omega, by omega, by omega⟩
    · exact ⟨8, by omega, by omega, by omega⟩
  have hhf : hfP ps = h := by rw [HF.out]; omega
  rw [hhf] at HM HA HY HS
  have hd2 : (n0 : Int) / 2 = (h : Int) := by omega
  have HH2 := Lib.hid hh2
  have hq1 : n0 ≤ 2 * h := by omega
  have hq2 : 2 * h ≤ n0 := by omega
  clear hpc HF hhf hpb hh2 hw
  obtain ⟨N, hN⟩ : ∃ N, h * m = N := ⟨_, rfl⟩
  have HNe := Lib.hid hN
  rw [hN] at HM HY HS
  have hNi : (h : Int) * (m : Int) = (N : Int) := by rw [← hN]; simp
  have hNj : (m : Int) * (h : Int) = (N : Int) := by rw [← hNi, Int.mul_comm]
  have hN128 : N ≤ 128 := by rw [← hN]; exact Nat.mul_le_mul hh8 hm
  have v1 : IntKind.i64.wrap ((h : Int) * (m : Int)) = (N : Int) := by rw [hNi]; exact IntWalk.i64_in _ (by omega)
  have v1' : IntKind.i64.wrap ((m : Int) * (h : Int)) = (N : Int) := by rw [hNj]; exact IntWalk.i64_in _ (by omega)
  have hn00 : ((n0 : Int) == 0) = false := by simp; omega
  clear hN hNi hNj
  by_cases h16 : 16 < N
  · have HN := Lib.hid (NO.out (HM.out h16))
    go_enter Try.func73, Try.ntmps73
    go_wp2_with fail
    refine (sWindowOf_yes 0 n0 _ HW.out).mono ?_
    intro e w1 hmd
    obtain ⟨B, c, rfl, hc, hcm, hr, ho, hg⟩ := hmd.out 0 (by rw [HWL.out]; omega)
    rw [HWL.out] at hc hr ⊢
    have G1 := Lib.hid hg
    have hc1 := HC0.out _ hg
    clear hmd hr ho hg
    unfold maxLen at hcm
    go_wp2_with fail
    go_ret2
    exact TogRes.no2 HN.out G1.out _ 0
  have HD := Lib.hid hd2
  go_enter Try.func73, Try.ntmps73
  go_wp2_with fail
  refine (sWindowOf_yes 0 n0 _ HW.out).mono ?_
  intro e w1 hmd
  obtain ⟨B, c, rfl, hc, hcm, hr, ho, hg⟩ := hmd.out 0 (by rw [HWL.out]; omega)
  rw [HWL.out] at hc hr ⊢
  have G1 := Lib.hid hg
  have hc1 := HC0.out _ hg
  have H1 := Lib.hid (H.out.grown hg)
  clear hmd hr ho hg
  unfold maxLen at hcm
  go_wp2_with (at_make; go_must (refine make_row (T := C) (0, 0) _ rfl _ _ 37 34 8 rfl Try.underlying37 info34 rfl (by decide) N N rfl rfl rfl (by omega) ?_); intro w2 ho hg; have hst : RowSt N (List.replicate N (0, 0)) w1 w2 := RowSt.start ho hg; clear ho hg)
  go_loopw [6] (fun i wr => ∃ j : Nat, j ≤ m ∧ i = .int .i64 j ∧ ∃ ws, RowSt N ws w1 wr ∧ Hid (tgO h N ps j = some ws ∧ ∀ j', j' < j → pcB h (ps.getD j' []) = true)) (fun i _ => m - (intOf i).toNat)
  case atStart => exact ⟨0, Nat.zero_le _, rfl, _, hst, Lib.hid ⟨rfl, fun j hj => absurd hj (by omega)⟩⟩
  case round =>
    obtain ⟨k, hk, rfl, ws0, hr0, hall⟩ := hrel
    clear hst hc1
    by_cases hlt : k < m
    · obtain ⟨_, _, B', c', e', hbs, hcell, hcc, hcm', hsig⟩ := (H1.out.grown hr0.2.2).2.2 k hlt
      cases e'
      have HSg := Lib.hid hsig
      have hl100 := hsig.2.1
      have HNo := Lib.hid (HA.out k hlt)
      obtain ⟨_, _, B'', c'', e', hbs1, hcell1, _, _, hsig1⟩ := H1.out.2.2 k hlt
      cases e'
      have heq := hcell.symm.trans (cell_grown hcell1 hr0.2.2)
      simp only [Option.some.injEq, Value.slice.injEq, true_and] at heq
      obtain ⟨e1, e2⟩ := heq
      subst e1 e2
      have HC1 := Lib.hid (fun (W : World) (hg : w1.grownBy W none) => cell_grown hcell1 hg)
      generalize hpp : ps.getD k [] = p at *
      have HPk := Lib.hid hpp
      clear hsig hpp hcell1
      generalize hlp : p.length = np at *
      have HLp := Lib.hid hlp
      clear hlp
      unfold maxLen at hcm'
      have e2h : (2 : Int) * (h : Int) = (n0 : Int) := by omega
      by_cases hln : np = n0
      · obtain rfl : n0 = np := hln.symm
        clear hln
        go_wp2_with fail
        refine (sSignalOk_any _ _ _ _ _ HSg.out).mono ?_
        rintro e w' ⟨rfl, d2, rfl⟩
        rcases Bool.eq_false_or_eq_true (sigOk p) with hs | hs
        · rw [hs]
          have hnew : Hid (∀ j, j < k + 1 → pcB h (ps.getD j []) = true) := Lib.hid (fun j hj => by
              rcases Nat.lt_or_ge j k with hjk | hjk
              · exact hall.out.2 j hjk
              · obtain rfl : j = k := by omega
                rw [HPk.out]
                unfold pcB
                rw [hs, HLp.out, HH2.out]
                simp)
          have htg0 := Lib.hid hall.out.1
          have HS0 := Lib.hid hsig1
          have HPl : Hid (∀ i, i < 2 * h → finN (p.getD i (0, 0)) = true) := Lib.hid (fun i hi => fin_atT (sigOk_parts hs).2 (by rw [HLp.out]; omega))
          have FW0 := Lib.hid (tgO_fin _ _ htg0.out).1
          have HE : Hid (∀ i vs, i < 2 * h → tgI h N k p ws0 i = some vs → finN (addN (vs.getD ((k * h + i) % N) (0, 0)) (p.getD i (0, 0))) = false → togR ps = none) :=
            Lib.hid (fun i vs hi h1 h2 => by
              cases hto : togOk ps
              · exact NO.out hto
              · exact HS.out hto N rfl (tgO_end htg0.out (by rw [HPk.out]; exact h1) hi hlt (by rw [HPk.out]; exact h2)))
          have HT : Hid (∀ vs, tgI h N k p ws0 (2 * h) = some vs → tgO h N ps (k + 1) = some vs) := Lib.hid (fun vs q => by rw [tgO_step htg0.out, HPk.out]; exact q)
          have HZ : Hid (tgI h N k p ws0 0 = some ws0) := Lib.hid rfl
          have hn2 := HH2.out.symm
          rw [hn2] at HPl HE HT
          clear hn2
          have hjh := place_ok (h := h) (i := 0) hlt (by omega) (by rw [HNe.out]; omega)
          rw [HNe.out] at hjh
          have ejh : (k : Int) * (h : Int) = ((k * h : Nat) : Int) := by simp
          generalize hjhe : k * h = F at *
          have HFe := Lib.hid hjhe
          clear hjhe
          have v2 : IntKind.i64.wrap ((k : Int) * (h : Int)) = (F : Int) := by rw [ejh]; exact IntWalk.i64_in _ (by omega)
          have hr1 := hr0.drewN d2
          clear hsig1 htg0 hs hcell hr0 hall
          go_wp2_with fail
          go_loopw [7] (fun i wr => ∃ i' : Nat, i' ≤ n0 ∧ i = .int .i64 i' ∧ ∃ ws, RowSt N ws w1 wr ∧ Hid (tgI h N k p ws0 i' = some ws)) (fun i _ => n0 - (intOf i).toNat)
          case atStart => exact ⟨0, Nat.zero_le _, rfl, _, hr1, HZ⟩
          case round =>
            obtain ⟨i, hi, rfl, ws, hr, htg⟩ := hrel
            clear hr1 HZ
            by_cases hli : i < n0
            · obtain ⟨b2, o2, rfl, hb2, hcz⟩ := (HS0.out.grown hr.2.2).2.2 i hli
              have hcs := HC1.out _ hr.2.2
              have hq : (F + i) % N < N := Nat.mod_lt _ (by omega)
              obtain ⟨hu, hfz⟩ := hr.cell ((F + i) % N) hq
              have hfw := (tgI_fin FW0.out _ _ htg.out).1
              have hadd := add_some (hfw ((F + i) % N)) (HPl.out i hli)
              have hput := hr.add (q := (F + i) % N) (p.getD i (0, 0))
              have HYs := Lib.hid (fun q => tgI_yes (h := h) (N := N) (j := k) (p := p) (i := i) htg.out q)
              have HNs := Lib.hid (fun q => HE.out i ws hli htg.out q)
              rw [HFe.out] at HYs
              have e2 := mod_natc F i N
              generalize (F + i) % N = r at *
              generalize p.getD i (0, 0) = z at *
              generalize ws.getD r (0, 0) = v at *
              generalize addAt ws r z = us at *
              have g1 := fun W : World => cadd_run W 34 hadd.1 hadd.2
              generalize addN v z = s at *
              unfold C at hu hcz hput
              have HPut := Lib.hid hput
              have v3 : (F : Int) + (i : Int) ≤ 1000 := by omega
              have i1 : (0 : Int) ≤ (i : Int) := by omega
              have i2 : (i : Int) < (n0 : Int) := by omega
              have i3 : (0 : Int) ≤ (k : Int) := by omega
              have i4 : (k : Int) < (m : Int) := by omega
              have i5 : (0 : Int) ≤ (r : Int) := by omega
              have i6 : (r : Int) < (N : Int) := by omega
              clear hput hadd hfw hr htg
              have HFin := Lib.hid (fun W : World => sFinite_any s.1 s.2 W)
              have hN0 : ¬ N = 0 := by omega
              go_wp2_with fail
              go_region
              go_wp2_with fail
              refine (HFin.out _).mono ?_
              rintro e w' ⟨rfl, d2, rfl⟩
              rcases Bool.eq_false_or_eq_true (finN s) with hs | hs
              · have hs' : finC s.1 s.2 = true := hs
                rw [hs']
                go_wp2_with fail
                go_roundw
                case rel => exact ⟨i + 1, by omega, by go_num, us, HPut.out.drewN _, Lib.hid (HYs.out hs)⟩
                case measure => simp [intOf]; omega
              · have hs' : finC s.1 s.2 = false := hs
                rw [hs']
                go_wp2_with fail
                go_ret2
                exact TogRes.no2 (HNs.out hs) (grown_trans G1.out HPut.out.2.2) _ (1 + d2)
            · obtain rfl : i = n0 := by omega
              go_wp2_with fail
              go_roundw
              case rel => exact ⟨k + 1, by omega, by go_num, ws, hr, Lib.hid ⟨HT.out ws htg.out, hnew.out⟩⟩
              case measure => simp [intOf]; omega
        · have HN := Lib.hid (NO.out (HNo.out (by unfold pcB; rw [hs, Bool.and_false])))
          have GR := Lib.hid hr0.2.2
          rw [hs]
          clear hcell
          go_wp2_with fail
          go_ret2
          exact TogRes.no2 HN.out (grown_trans G1.out (grown_drewN GR.out d2)) _ 0
      · have HN := Lib.hid (NO.out (HNo.out (by unfold pcB; rw [HLp.out]; have : ¬ np = 2 * h := by omega
                                                simp [this])))
        have hne : ((np : Int) != (n0 : Int)) = true := by simp; omega
        have GR := Lib.hid hr0.2.2
        go_wp2_with fail
        go_ret2
        exact TogRes.no2 HN.out (grown_trans G1.out GR.out) _ 0
    · obtain rfl : k = m := by omega
      have HR := Lib.hid ((HY.out HPb.out (by omega) hall.out.2).trans hall.out.1)
      go_wp2_with fail
      go_ret2
      exact .inr ⟨_, HR.out, madeT_from (rowDoneT hr0) G1.out⟩
end Go.Proofs.Ytcnlgoghnlcndaa
