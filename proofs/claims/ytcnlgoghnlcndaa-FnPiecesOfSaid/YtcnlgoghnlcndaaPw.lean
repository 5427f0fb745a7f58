/- Plain: the powers of whole signals of 1, 2 or 4 points. -/
import Derived.Test.YtcnlgoghnlcndaaGx
import Derived.Test.YtcnlgoghnlcndaaWk
import Derived.Test.YtcnlgoghnlcndaaP1
import Derived.Test.YtcnlgoghnlcndaaMv
namespace Go.Proofs.Ytcnlgoghnlcndaa
open Ieee

def wx (z : Num) : Int := iv single z.1 / p2 149
def wy (z : Num) : Int := iv single z.2 / p2 149
theorem whole_G {z : Num} {most : Int} (h : Whole z most) : G z (wx z) (wy z) ∧ -most ≤ wx z ∧ wx z ≤ most ∧ -most ≤ wy z ∧ wy z ≤ most := by
  obtain ⟨f1, f2, x, y, a, b, c, d, e1, e2⟩ := h
  have hp := p2_pos 149
  have g1 : wx z = x := by unfold wx; rw [e1]; exact Int.mul_ediv_cancel _ (by omega)
  have g2 : wy z = y := by unfold wy; rw [e2]; exact Int.mul_ediv_cancel _ (by omega)
  rw [g1, g2]
  exact ⟨⟨f1, f2, e1, e2⟩, a, b, c, d⟩

def SX (X Y : Nat → Int) (m : Nat → Nat) : Nat → Int
  | 0 => 0
  | k + 1 => SX X Y m k + qx (m k) (X k) (Y k)
def SY (X Y : Nat → Int) (m : Nat → Nat) : Nat → Int
  | 0 => 0
  | k + 1 => SY X Y m k + qy (m k) (X k) (Y k)
theorem q_le {m : Nat} {x y B : Int} (h1 : -B ≤ x) (h2 : x ≤ B) (h3 : -B ≤ y) (h4 : y ≤ B) : (-B ≤ qx m x y ∧ qx m x y ≤ B) ∧ (-B ≤ qy m x y ∧ qy m x y ≤ B) := by
  unfold qx qy
  constructor <;> (repeat' split) <;> omega

theorem S_le {X Y : Nat → Int} {m : Nat → Nat} {B : Int} {n : Nat} (h : ∀ j, j < n → -B ≤ X j ∧ X j ≤ B ∧ -B ≤ Y j ∧ Y j ≤ B) : ∀ k, k ≤ n → (-(B * k) ≤ SX X Y m k ∧ SX X Y m k ≤ B * k) ∧ (-(B * k) ≤ SY X Y m k ∧ SY X Y m k ≤ B * k) := by
  intro k
  induction k with
  | zero => intro _; simp [SX, SY]
  | succ k ih =>
    intro hk
    obtain ⟨a, b⟩ := ih (by omega)
    obtain ⟨h1, h2, h3, h4⟩ := h k (by omega)
    obtain ⟨q1, q2⟩ := q_le (m := m k) h1 h2 h3 h4
    have e : B * ((k + 1 : Nat) : Int) = B * k + B := by rw [Int.natCast_succ, Int.mul_add, Int.mul_one]
    rw [e]
    unfold SX SY
    omega

theorem sumK_G {xs : List Num} {f m : Nat → Nat} {X Y : Nat → Int} {B : Int} {n : Nat} (hB : 0 ≤ B) (hBn : B * n ≤ 1000000) (hg : ∀ j, j < n → G (xs.getD j (0, 0)) (X j) (Y j)) (h : ∀ j, j < n → -B ≤ X j ∧ X j ≤ B ∧ -B ≤ Y j ∧ Y j ≤ B)
    (hf : ∀ j, j < n → f j = 4 * m j ∧ m j < 4) : ∀ k, k ≤ n → G (sumK xs f k) (SX X Y m k) (SY X Y m k) := by
  intro k
  induction k with
  | zero => intro _; exact G_zero
  | succ k ih =>
    intro hk
    have h0 := ih (by omega)
    obtain ⟨b1, b2⟩ := S_le (m := m) h k (by omega)
    obtain ⟨h1, h2, h3, h4⟩ := h k (by omega)
    obtain ⟨q1, q2⟩ := q_le (m := m k) h1 h2 h3 h4
    obtain ⟨f1, f2⟩ := hf k (by omega)
    have hkn : B * k ≤ B * n := Int.mul_le_mul_of_nonneg_left (by omega) hB
    have hB2 : B ≤ B * n := by
      have : B * 1 ≤ B * n := Int.mul_le_mul_of_nonneg_left (by omega) hB
      omega
    have hm := G_mul (hg k (by omega)) f2 (by omega) (by omega)
    unfold sumK SX SY
    rw [f1]
    exact G_add h0 hm (by omega) (by omega) (by omega) (by omega)

/-- The quarter turns of a transform of 1, 2 or 4 points. -/
def qm (n k j : Nat) : Nat := if n = 4 then (4 - k * j % 4) % 4 else if n = 2 then (k * j % 2) * 2 else 0
def small : List Nat := [1, 2, 4]
theorem qm_ok : ∀ n ∈ small, ∀ k, k < n → ∀ j, j < n → fT (16 / (n : Int) * -(k : Int)) j = 4 * qm n k j ∧ qm n k j < 4 := by decide +kernel

/-- The power of the number k, as a whole number. -/
def PP (n : Nat) (X Y : Nat → Int) (k : Nat) : Int := SX X Y (qm n k) n * SX X Y (qm n k) n + SY X Y (qm n k) n * SY X Y (qm n k) n
def sumZ (f : Nat → Int) : Nat → Int
  | 0 => 0
  | k + 1 => sumZ f k + f k

theorem parseval (n : Nat) (hn : n ∈ small) (X Y : Nat → Int) : sumZ (PP n X Y) n = n * sumZ (fun j => X j * X j + Y j * Y j) n := by
  have : n = 1 ∨ n = 2 ∨ n = 4 := by simpa [small] using hn
  rcases this with rfl | rfl | rfl
  · simp only [sumZ, PP, SX, SY, qm, qx, qy]; simp
  · simp only [sumZ, PP, SX, SY, qm, qx, qy]; simp <;> grind
  · simp only [sumZ, PP, SX, SY, qm, qx, qy]; simp <;> grind
theorem moved_PP (n : Nat) (hn : n ∈ small) (X Y : Nat → Int) (k : Nat) (hk : k < n) : PP n (fun j => X ((j + (n - 1)) % n)) (fun j => Y ((j + (n - 1)) % n)) k = PP n X Y k := by
  have : n = 1 ∨ n = 2 ∨ n = 4 := by simpa [small] using hn
  rcases this with rfl | rfl | rfl
  · obtain rfl : k = 0 := by omega
    simp only [PP, SX, SY, qm, qx, qy]
  · have : k = 0 ∨ k = 1 := by omega
    rcases this with rfl | rfl <;> (simp only [PP, SX, SY, qm, qx, qy]; simp <;> grind)
  · have : k = 0 ∨ k = 1 ∨ k = 2 ∨ k = 3 := by omega
    rcases this with rfl | rfl | rfl | rfl <;> (simp only [PP, SX, SY, qm, qx, qy]; simp <;> grind)
end Go.Proofs.Ytcnlgoghnlcndaa
