/- Plain: whole numbers: sums and products with quarter turns are exact. -/
import Derived.Test.YtcnlgoghnlcndaaT2
namespace Go.Proofs.Ytcnlgoghnlcndaa
open Ieee

/-- z is x + iy. -/
def G (z : Num) (x y : Int) : Prop := fin single z.1 = true ∧ fin single z.2 = true ∧ iv single z.1 = x * p2 149 ∧ iv single z.2 = y * p2 149

theorem G_zero : G (0, 0) 0 0 := by unfold G; decide +kernel
theorem G_nm {z : Num} {x y : Int} (h : G z x y) (hx : x.natAbs ≤ 2 ^ 20) (hy : y.natAbs ≤ 2 ^ 20) : Nm z 1 := by
  refine ⟨h.1, h.2.1, ?_⟩
  have a : (iv single z.1).natAbs ≤ 2 ^ 20 * p2 149 := by rw [h.2.2.1, Int.natAbs_mul, Int.natAbs_natCast]; exact Nat.mul_le_mul_right _ hx
  have b : (iv single z.2).natAbs ≤ 2 ^ 20 * p2 149 := by rw [h.2.2.2, Int.natAbs_mul, Int.natAbs_natCast]; exact Nat.mul_le_mul_right _ hy
  have h1 := sq_le a
  have h2 := sq_le b
  have h3 : (2 ^ 20 * p2 149) * (2 ^ 20 * p2 149) + (2 ^ 20 * p2 149) * (2 ^ 20 * p2 149) ≤ (1 * p2 253) * (1 * p2 253) := by decide +kernel
  have h4 : ((2 ^ 20 * p2 149 : Nat) : Int) * ((2 ^ 20 * p2 149 : Nat) : Int) + ((2 ^ 20 * p2 149 : Nat) : Int) * ((2 ^ 20 * p2 149 : Nat) : Int) ≤ ((1 * p2 253 : Nat) : Int) * ((1 * p2 253 : Nat) : Int) := by exact_mod_cast h3
  exact Int.le_trans (Int.add_le_add h1 h2) h4

theorem rI_whole {m : Int} (h : m.natAbs < 2 ^ 24) : rI single 0 (m * p2 149) = m * p2 149 :=
  (rI_exact_mul single (t := 0) (e := 149) (N := 270) (m := m) h (Nat.zero_le _) rt_single_big0 (by decide)).2
theorem rI_whole925 {m : Int} (h : m.natAbs < 2 ^ 24) : rI single 925 (m * p2 1074) = m * p2 149 :=
  (rI_exact_mul single (t := 925) (e := 1074) (N := 1200) (m := m) h (by decide) rt_single_big (by decide)).2
theorem rI_wholeD {m : Int} (h : m.natAbs < 2 ^ 53) : rI double 0 (m * p2 1074) = m * p2 1074 :=
  (rI_exact_mul double (t := 0) (e := 1074) (N := 2000) (m := m) h (Nat.zero_le _) rt_double_big (by decide)).2

theorem G_add {a b : Num} {x y u v : Int} (ha : G a x y) (hb : G b u v) (h1 : x.natAbs ≤ 2 ^ 20) (h2 : y.natAbs ≤ 2 ^ 20) (h3 : u.natAbs ≤ 2 ^ 20) (h4 : v.natAbs ≤ 2 ^ 20) : G (addN a b) (x + u) (y + v) := by
  obtain ⟨_, _, n1, e1, e2⟩ := add_Nm (G_nm ha h1 h2) (G_nm hb h3 h4) (by omega)
  refine ⟨n1.1, n1.2.1, ?_, ?_⟩
  · rw [e1, ha.2.2.1, hb.2.2.1, ← Int.add_mul]; exact rI_whole (by omega)
  · rw [e2, ha.2.2.2, hb.2.2.2, ← Int.add_mul]; exact rI_whole (by omega)
theorem G_sub {a b : Num} {x y u v : Int} (ha : G a x y) (hb : G b u v) (h1 : x.natAbs ≤ 2 ^ 20) (h2 : y.natAbs ≤ 2 ^ 20) (h3 : u.natAbs ≤ 2 ^ 20) (h4 : v.natAbs ≤ 2 ^ 20) : G (subN a b) (x - u) (y - v) := by
  obtain ⟨_, _, n1, e1, e2⟩ := sub_Nm (G_nm ha h1 h2) (G_nm hb h3 h4) (by omega)
  refine ⟨n1.1, n1.2.1, ?_, ?_⟩
  · rw [e1, ha.2.2.1, hb.2.2.1, ← Int.sub_mul]; exact rI_whole (by omega)
  · rw [e2, ha.2.2.2, hb.2.2.2, ← Int.sub_mul]; exact rI_whole (by omega)

/-- A quarter turn. -/
def qx (m : Nat) (x y : Int) : Int := if m = 0 then x else if m = 1 then -y else if m = 2 then -x else y
def qy (m : Nat) (x y : Int) : Int := if m = 0 then y else if m = 1 then x else if m = 2 then -y else -x
def cq (m : Nat) : Int := if m = 0 then 1 else if m = 1 then 0 else if m = 2 then -1 else 0
def dq (m : Nat) : Int := if m = 0 then 0 else if m = 1 then 1 else if m = 2 then 0 else -1
theorem tn_quarter : ∀ m, m < 4 → iv single (tn (4 * m)).1 = cq m * p2 149 ∧ iv single (tn (4 * m)).2 = dq m * p2 149 := by decide +kernel

theorem G_mul {z : Num} {x y : Int} {m : Nat} (h : G z x y) (hm : m < 4) (h1 : x.natAbs ≤ 2 ^ 20) (h2 : y.natAbs ≤ 2 ^ 20) : G (mulN z (tn (4 * m))) (qx m x y) (qy m x y) := by
  obtain ⟨_, n1, e1, e2⟩ := mul_Nm (j := 4 * m) (G_nm h h1 h2) (by omega) (by omega)
  obtain ⟨t1, t2⟩ := tn_quarter m hm
  have e0 : ∀ a b : Int, a * (p2 149 : Int) * (b * p2 149) * p2 776 = a * b * p2 1074 := by
    intro a b
    have : (p2 149 : Int) * p2 149 * p2 776 = p2 1074 := by
      have : p2 149 * p2 149 * p2 776 = p2 1074 := by rw [← p2_add, ← p2_add]
      exact_mod_cast this
    rw [← this]; grind
  refine ⟨n1.1, n1.2.1, ?_, ?_⟩
  · rw [e1]
    unfold cre
    rw [h.2.2.1, h.2.2.2, t1, t2, e0, e0, ← Int.sub_mul]
    have e3 : x * cq m - y * dq m = qx m x y := by
      have : m = 0 ∨ m = 1 ∨ m = 2 ∨ m = 3 := by omega
      rcases this with rfl | rfl | rfl | rfl <;> simp [qx, cq, dq]
    have hb : (qx m x y).natAbs ≤ 2 ^ 20 := by unfold qx; repeat' split
                                               all_goals omega
    rw [e3, rI_wholeD (by omega), rI_whole925 (by omega)]
  · rw [e2]
    unfold cim
    rw [h.2.2.1, h.2.2.2, t1, t2, e0, e0, ← Int.add_mul]
    have e3 : x * dq m + y * cq m = qy m x y := by
      have : m = 0 ∨ m = 1 ∨ m = 2 ∨ m = 3 := by omega
      rcases this with rfl | rfl | rfl | rfl <;> simp [qy, cq, dq]
    have hb : (qy m x y).natAbs ≤ 2 ^ 20 := by unfold qy; repeat' split
                                               all_goals omega
    rw [e3, rI_wholeD (by omega), rI_whole925 (by omega)]
end Go.Proofs.Ytcnlgoghnlcndaa
