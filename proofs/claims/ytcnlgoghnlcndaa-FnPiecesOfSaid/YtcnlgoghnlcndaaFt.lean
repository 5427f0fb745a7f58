/- Plain: the fast transform; walk: addedAndLess. -/
import Derived.Test.YtcnlgoghnlcndaaT5
namespace Go.Proofs.Ytcnlgoghnlcndaa
open Go.RowKit Ieee

def evX {α : Type} (x : Nat → α) (i : Nat) : α := x (2 * i)
def odX {α : Type} (x : Nat → α) (i : Nat) : α := x (2 * i + 1)
/-- The turn of place k among n. -/
def tk (n k : Nat) : Nat := fT (-(16 / (n : Int))) k
theorem tk_lt (n k : Nat) : tk n k < 16 := fT_lt _ _

theorem turn_tk (n k : Nat) : turn (-(16 / (n : Int)) * k) = tn (tk n k) := rfl

/-- The number k of the fast spectrum of 2^m numbers. -/
def faN : Nat → (Nat → Num) → Nat → Num
  | 0, x, _ => x 0
  | m + 1, x, k => if k < 2 ^ m then addN (faN m (evX x) k) (mulN (faN m (odX x) k) (tn (tk (2 ^ (m + 1)) k)))
    else subN (faN m (evX x) (k - 2 ^ m)) (mulN (faN m (odX x) (k - 2 ^ m)) (tn (tk (2 ^ (m + 1)) (k - 2 ^ m))))
theorem fa_low (m : Nat) (x : Nat → Num) {k : Nat} (h : k < 2 ^ m) : faN (m + 1) x k = addN (faN m (evX x) k) (mulN (faN m (odX x) k) (tn (tk (2 ^ (m + 1)) k))) := by
  show (if k < 2 ^ m then _ else _) = _
  rw [if_pos h]
theorem fa_high (m : Nat) (x : Nat → Num) (k : Nat) : faN (m + 1) x (k + 2 ^ m) = subN (faN m (evX x) k) (mulN (faN m (odX x) k) (tn (tk (2 ^ (m + 1)) k))) := by
  show (if k + 2 ^ m < 2 ^ m then _ else _) = _
  rw [if_neg (by omega), Nat.add_sub_cancel]
theorem fa_congr : ∀ (m : Nat) (x y : Nat → Num), (∀ i, i < 2 ^ m → x i = y i) → ∀ k, faN m x k = faN m y k := by
  intro m
  induction m with
  | zero => intro x y h k; exact h 0 (by decide)
  | succ m ih =>
    intro x y h k
    have h2 : 2 ^ (m + 1) = 2 * 2 ^ m := by rw [Nat.pow_succ, Nat.mul_comm]
    have a := ih (evX x) (evX y) (fun i hi => h _ (by omega))
    have b := ih (odX x) (odX y) (fun i hi => h _ (by omega))
    show (if k < 2 ^ m then _ else _) = (if k < 2 ^ m then _ else _)
    rw [a, a, b, b]

def sumR (f : Nat → Nat) : Nat → Nat
  | 0 => 0
  | n + 1 => sumR f n + f n
theorem sumR_two (f : Nat → Nat) (n : Nat) : sumR f (2 * n) = sumR (evX f) n + sumR (odX f) n := by
  induction n with
  | zero => rfl
  | succ n ih =>
    show sumR f (2 * n + 1 + 1) = (sumR (evX f) n + f (2 * n)) + (sumR (odX f) n + f (2 * n + 1))
    show sumR f (2 * n) + f (2 * n) + f (2 * n + 1) = _
    omega
theorem sumR_list (ms : List Nat) : ∀ k, k ≤ ms.length → sumR (fun i => ms.getD i 0) k = (ms.take k).sum := by
  intro k
  induction k with
  | zero => intro _; rfl
  | succ k ih =>
    intro hk
    rw [sum_take_succ ms k (by omega), ← ih (by omega)]
    rfl
/-- How much longer the roundings make it. -/
def faC : Nat → Nat
  | 0 => 0
  | m + 1 => 2 * faC m + 12

/-- What one pair makes. -/
structure PairOk (a b t : Num) : Prop where
  mul : cmul32 b.1 b.2 t.1 t.2 = some (mulN b t)
  fmul : finN (mulN b t) = true
  add1 : floatBits .add .f32 a.1 (mulN b t).1 = some (addN a (mulN b t)).1
  add2 : floatBits .add .f32 a.2 (mulN b t).2 = some (addN a (mulN b t)).2
  fadd : finN (addN a (mulN b t)) = true
  sub1 : floatBits .sub .f32 a.1 (mulN b t).1 = some (subN a (mulN b t)).1
  sub2 : floatBits .sub .f32 a.2 (mulN b t).2 = some (subN a (mulN b t)).2
  fsub : finN (subN a (mulN b t)) = true

theorem pair_of {a b : Num} {p q j : Nat} (ha : Nm a p) (hb : Nm b q) (hj : j < 16) (h : p + q ≤ 16776000) :
    PairOk a b (tn j) ∧ Nm (addN a (mulN b (tn j))) (p + q + 12) ∧ Nm (subN a (mulN b (tn j))) (p + q + 12) := by
  have hp := mul_Nm hb hj (by omega)
  have h1 := add_Nm ha hp.2.1 (by omega)
  have h2 := sub_Nm ha hp.2.1 (by omega)
  exact ⟨⟨hp.1, hp.2.1.fin, h1.1, h1.2.1, h1.2.2.1.fin, h2.1, h2.2.1, h2.2.2.1.fin⟩, h1.2.2.1.mono (by omega), h2.2.2.1.mono (by omega)⟩

theorem fa_Nm : ∀ (m : Nat) (x : Nat → Num) (f : Nat → Nat), (∀ i, i < 2 ^ m → Nm (x i) (f i)) → sumR f (2 ^ m) + faC m ≤ 16776000 → ∀ k, k < 2 ^ m → Nm (faN m x k) (sumR f (2 ^ m) + faC m) := by
  intro m
  induction m with
  | zero =>
    intro x f h _ k _
    have := h 0 (by decide)
    exact this.mono (by show f 0 ≤ 0 + f 0 + 0; omega)
  | succ m ih =>
    intro x f h hs k hk
    have h2 : 2 ^ (m + 1) = 2 * 2 ^ m := by rw [Nat.pow_succ, Nat.mul_comm]
    have hC : faC (m + 1) = 2 * faC m + 12 := rfl
    rw [h2, sumR_two, hC] at hs ⊢
    have a := ih (evX x) (evX f) (fun i hi => h _ (by omega)) (by omega)
    have b := ih (odX x) (odX f) (fun i hi => h _ (by omega)) (by omega)
    by_cases hlt : k < 2 ^ m
    · rw [fa_low m x hlt]
      exact (pair_of (a k hlt) (b k hlt) (tk_lt _ _) (by omega)).2.1.mono (by omega)
    · obtain ⟨j, rfl⟩ : ∃ j, k = j + 2 ^ m := ⟨k - 2 ^ m, by omega⟩
      have hj : j < 2 ^ m := by omega
      rw [fa_high]
      exact (pair_of (a j hj) (b j hj) (tk_lt _ _) (by omega)).2.2.mono (by omega)

/-- Numbers of which no fast spectrum is too great. -/
def CalmF (m : Nat) (x : Nat → Num) : Prop := ∃ f : Nat → Nat, (∀ i, i < 2 ^ m → Nm (x i) (f i)) ∧ sumR f (2 ^ m) ≤ 16000000
theorem CalmF.halves {m : Nat} {x : Nat → Num} (h : CalmF (m + 1) x) : CalmF m (evX x) ∧ CalmF m (odX x) := by
  obtain ⟨f, hf, hs⟩ := h
  have h2 : 2 ^ (m + 1) = 2 * 2 ^ m := by rw [Nat.pow_succ, Nat.mul_comm]
  rw [h2, sumR_two] at hs
  exact ⟨⟨evX f, fun i hi => hf _ (by omega), by omega⟩, ⟨odX f, fun i hi => hf _ (by omega), by omega⟩⟩
theorem faC_le : ∀ m, m ≤ 4 → faC m ≤ 200 := by decide
theorem CalmF.pair {m : Nat} {x : Nat → Num} (h : CalmF (m + 1) x) (hm : m ≤ 3) {k : Nat} (hk : k < 2 ^ m) : PairOk (faN m (evX x) k) (faN m (odX x) k) (tn (tk (2 ^ (m + 1)) k)) := by
  obtain ⟨f, hf, hs⟩ := h
  have h2 : 2 ^ (m + 1) = 2 * 2 ^ m := by rw [Nat.pow_succ, Nat.mul_comm]
  have hC := faC_le m (by omega)
  rw [h2, sumR_two] at hs
  have a := fa_Nm m (evX x) (evX f) (fun i hi => hf _ (by omega)) (by omega) k hk
  have b := fa_Nm m (odX x) (odX f) (fun i hi => hf _ (by omega)) (by omega) k hk
  exact (pair_of a b (tk_lt _ _) (by omega)).1
theorem CalmF.fin {m : Nat} {x : Nat → Num} (h : CalmF m x) (hm : m ≤ 4) {k : Nat} (hk : k < 2 ^ m) : finN (faN m x k) = true := by
  obtain ⟨f, hf, hs⟩ := h
  have hC := faC_le m hm
  exact (fa_Nm m x f hf (by omega) k hk).fin
def atX (xs : List Num) (i : Nat) : Num := xs.getD i (0, 0)
theorem calmF_of {xs : List Num} (h : Calm xs) {m : Nat} (hl : xs.length = 2 ^ m) : CalmF m (atX xs) := by
  obtain ⟨_, ms, h1, h2, h3⟩ := h
  refine ⟨fun i => ms.getD i 0, fun i hi => h2 i (by omega), ?_⟩
  rw [sumR_list ms _ (by omega), List.take_of_length_le (by omega)]
  exact h3
def faL (m : Nat) (x : Nat → Num) : List Num := (List.range (2 ^ m)).map (faN m x)
theorem faL_length (m : Nat) (x : Nat → Num) : (faL m x).length = 2 ^ m := by simp [faL]

set_option maxRecDepth 100000 in
set_option maxHeartbeats 2000000 in
theorem pair_any (a b t : Num) (w : World) (h : PairOk a b t) :
    Calls Try.prog 110 #[C a, C b, C t] w fun e w' => e = .returned (.tuple #[C (addN a (mulN b t)), C (subN a (mulN b t)), .bool true]) ∧ w = w' := by
  have g1 := fun W : World => run_cmul32 (P := Try.prog) W 34 b.1 b.2 t.1 t.2 (mulN b t).1 (mulN b t).2 h.mul
  have g2 := fun W : World => cadd_run W 34 h.add1 h.add2
  have g3 := fun W : World => csub_run W 34 h.sub1 h.sub2
  have F1 := Lib.hid (finC_parts h.fmul)
  have F2 := Lib.hid (finC_parts h.fadd)
  have F3 := Lib.hid (finC_parts h.fsub)
  clear h
  unfold C
  obtain ⟨a1, a2⟩ := a
  obtain ⟨b1, b2⟩ := b
  obtain ⟨t1, t2⟩ := t
  simp only at g1 g2 g3
  generalize mulN (b1, b2) (t1, t2) = p at *
  generalize addN (a1, a2) p = q at *
  generalize subN (a1, a2) p = r at *
  go_enter Try.func110, Try.ntmps110
  go_wp2_with fail
  refine (finite_yes _ _ _ F1.out.1 F1.out.2).mono ?_
  rintro e w' ⟨rfl, rfl⟩
  go_wp2_with fail
  refine (finite_yes _ _ _ F2.out.1 F2.out.2).mono ?_
  rintro e w' ⟨rfl, rfl⟩
  go_wp2_with fail
  refine (finite_yes _ _ _ F3.out.1 F3.out.2).mono ?_
  rintro e w' ⟨rfl, rfl⟩
  go_wp2_with fail
  go_ret3
  exact ⟨rfl, rfl⟩
end Go.Proofs.Ytcnlgoghnlcndaa
