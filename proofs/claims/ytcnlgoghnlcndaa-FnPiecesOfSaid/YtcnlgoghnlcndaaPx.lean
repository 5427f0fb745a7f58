/- Plain and walks: powers and energy of whole signals as float64; samePowers. -/
import Derived.Test.YtcnlgoghnlcndaaPw
namespace Go.Proofs.Ytcnlgoghnlcndaa
open Go.RowKit Ieee

def gX (xs : List Num) (j : Nat) : Int := wx (xs.getD j (0, 0))
def gY (xs : List Num) (j : Nat) : Int := wy (xs.getD j (0, 0))

theorem whole_parts {xs : List Num} {most : Int} (h : AllWhole xs most) : ∀ j, j < xs.length → G (xs.getD j (0, 0)) (gX xs j) (gY xs j) ∧ (-most ≤ gX xs j ∧ gX xs j ≤ most ∧ -most ≤ gY xs j ∧ gY xs j ≤ most) :=
  fun j hj => whole_G (h j hj)

theorem whole_calm {xs : List Num} {most : Int} (h : AllWhole xs most) (hm : most ≤ 1000000) (hl : xs.length ≤ 16) : Calm xs := by
  refine ⟨hl, List.replicate xs.length 1, by simp, fun i hi => ?_, by simp; omega⟩
  obtain ⟨g, a, b, c, d⟩ := whole_parts h i hi
  have e : (List.replicate xs.length 1).getD i 0 = 1 := by simp [List.getD, hi]
  rw [e]
  exact G_nm g (by omega) (by omega)

theorem sq_G {a : Nat} {x : Int} (h : iv single a = x * p2 149) : sqI a = x * x * p2 1074 := by
  unfold sqI
  rw [h]
  have : (p2 149 : Int) * p2 149 * p2 776 = p2 1074 := by
    have : p2 149 * p2 149 * p2 776 = p2 1074 := by rw [← p2_add, ← p2_add]
    exact_mod_cast this
  rw [← this]; grind

theorem sq_bound {x B : Int} (h1 : -B ≤ x) (h2 : x ≤ B) : 0 ≤ x * x ∧ x * x ≤ B * B := ⟨sq_nn x, sq_le_of h1 h2⟩

theorem PP_bound {xs : List Num} {n : Nat} (h : AllWhole xs 1000) (hl : xs.length = n) (hn4 : n ≤ 4) (k : Nat) : 0 ≤ PP n (gX xs) (gY xs) k ∧ PP n (gX xs) (gY xs) k ≤ 32000000 := by
  have hp := whole_parts h
  rw [hl] at hp
  obtain ⟨b1, b2⟩ := S_le (m := qm n k) (B := 1000) (n := n) (fun j hj => (hp j hj).2) n (Nat.le_refl _)
  have s1 := sq_bound (B := 4000) (x := SX (gX xs) (gY xs) (qm n k) n) (by omega) (by omega)
  have s2 := sq_bound (B := 4000) (x := SY (gX xs) (gY xs) (qm n k) n) (by omega) (by omega)
  unfold PP
  omega

theorem pow_whole {xs : List Num} {n : Nat} (h : AllWhole xs 1000) (hl : xs.length = n) (hn : n ∈ small) {k : Nat} (hk : k < n) : isV double (powF xs k) (PP n (gX xs) (gY xs) k) 1074 := by
  have hn4 : n ≤ 4 := by have : n = 1 ∨ n = 2 ∨ n = 4 := by simpa [small] using hn
                         omega
  have hp := whole_parts h
  rw [hl] at hp
  have hg : G (dftN xs k) (SX (gX xs) (gY xs) (qm n k) n) (SY (gX xs) (gY xs) (qm n k) n) := by
    unfold dftN
    rw [hl]
    exact sumK_G (B := 1000) (by omega) (by omega) (fun j hj => (hp j hj).1) (fun j hj => (hp j hj).2) (fun j hj => qm_ok n hn k hk j hj) n (Nat.le_refl _)
  have hfin : finN (dftN xs k) = true := by unfold finN finC; rw [hg.1, hg.2.1]; rfl
  obtain ⟨x, y, p, q, s, c1, c2, c3, c4, c5, c6, c7, c8, c9⟩ := pow_vars hfin
  have e : powF xs k = s := c7
  rw [e]
  refine ⟨c8, ?_⟩
  rw [c9, sq_G hg.2.2.1, sq_G hg.2.2.2, ← Int.add_mul]
  have hb := PP_bound h hl hn4 k
  exact rI_wholeD (by unfold PP at hb; omega)

/-- The energy of a whole signal. -/
def EE (xs : List Num) : Nat → Int := sumZ (fun j => gX xs j * gX xs j + gY xs j * gY xs j)
theorem EE_bound {xs : List Num} (h : AllWhole xs 1000) : ∀ k, k ≤ xs.length → 0 ≤ EE xs k ∧ EE xs k ≤ 2000000 * k := by
  intro k
  induction k with
  | zero => intro _; simp [EE, sumZ]
  | succ k ih =>
    intro hk
    obtain ⟨a, b⟩ := ih (by omega)
    obtain ⟨_, h1, h2, h3, h4⟩ := whole_parts h k (by omega)
    have s1 := sq_bound (B := 1000) h1 h2
    have s2 := sq_bound (B := 1000) h3 h4
    unfold EE at *
    unfold sumZ
    omega
theorem en_whole {xs : List Num} (h : AllWhole xs 1000) (hl : xs.length ≤ 16) : ∀ k, k ≤ xs.length → enI (xs.take k) = EE xs k * p2 1074 := by
  intro k
  induction k with
  | zero => intro _; simp [enI, EE, sumZ]
  | succ k ih =>
    intro hk
    have h0 := ih (by omega)
    obtain ⟨g, h1, h2, h3, h4⟩ := whole_parts h k (by omega)
    have bb := EE_bound h k (by omega)
    have s1 := sq_bound (B := 1000) h1 h2
    have s2 := sq_bound (B := 1000) h3 h4
    have e : xs[k]'(by omega) = xs.getD k (0, 0) := by simp [List.getD, (show k < xs.length by omega)]
    have h5 : enI (xs.take (k + 1)) = enStep (enI (xs.take k)) (xs.getD k (0, 0)) := by
      unfold enI
      rw [List.take_succ_eq_append_getElem (by omega), List.foldl_append, e]
      rfl
    rw [h5, h0]
    unfold enStep
    rw [sq_G g.2.2.1, sq_G g.2.2.2, ← Int.add_mul]
    have hE : EE xs (k + 1) = EE xs k + (gX xs k * gX xs k + gY xs k * gY xs k) := rfl
    rw [rI_wholeD (by omega), ← Int.add_mul, rI_wholeD (by omega), hE, Int.add_assoc]

/-! Moved round by one. -/
theorem movedL_len (xs : List Num) (b : Int) : (movedL xs b).length = xs.length := by simp [movedL]
theorem moved_at {xs : List Num} {j : Nat} (hj : j < xs.length) : (movedL xs 1).getD j (0, 0) = xs.getD ((j + (xs.length - 1)) % xs.length) (0, 0) := by
  have e : (movedL xs 1).getD j (0, 0) = movedN xs 1 j := getD_range _ _ hj
  rw [e]
  unfold movedN
  congr 1
  have e3 : (j : Int) - 1 = ((j + (xs.length - 1) : Nat) : Int) + (xs.length : Int) * (-1) := by omega
  rw [e3, Int.add_mul_emod_self_left, ← Int.natCast_emod]
  rfl
theorem moved_whole {xs : List Num} {most : Int} (h : AllWhole xs most) : AllWhole (movedL xs 1) most := by
  intro j hj
  rw [movedL_len] at hj
  rw [moved_at hj]
  exact h _ (Nat.mod_lt _ (by omega))
theorem SX_congr {X Y X' Y' : Nat → Int} {m : Nat → Nat} {n : Nat} (h : ∀ j, j < n → X j = X' j ∧ Y j = Y' j) : ∀ k, k ≤ n → SX X Y m k = SX X' Y' m k ∧ SY X Y m k = SY X' Y' m k := by
  intro k
  induction k with
  | zero => intro _; exact ⟨rfl, rfl⟩
  | succ k ih =>
    intro hk
    obtain ⟨a, b⟩ := ih (by omega)
    obtain ⟨c, d⟩ := h k (by omega)
    unfold SX SY
    rw [a, b, c, d]
    exact ⟨rfl, rfl⟩
theorem moved_pow {xs : List Num} {n : Nat} (hl : xs.length = n) (hn : n ∈ small) {k : Nat} (hk : k < n) : PP n (gX (movedL xs 1)) (gY (movedL xs 1)) k = PP n (gX xs) (gY xs) k := by
  rw [← moved_PP n hn (gX xs) (gY xs) k hk]
  have hc := SX_congr (X := gX (movedL xs 1)) (Y := gY (movedL xs 1)) (X' := fun j => gX xs ((j + (n - 1)) % n)) (Y' := fun j => gY xs ((j + (n - 1)) % n)) (m := qm n k) (n := n) (fun j hj => by
    unfold gX gY
    rw [moved_at (by omega), hl]
    exact ⟨rfl, rfl⟩) n (Nat.le_refl _)
  unfold PP
  rw [hc.1, hc.2]

/-! samePowers -/
set_option maxHeartbeats 1000000 in
theorem samePowers_eq (A B : Option Addr) (n c1 c2 : Nat) (xs ys : List Nat) (w : World) (h : Rw F64 0 w A n xs) (h' : Rw F64 0 w B n ys)
    (hv : ∀ k, k < n → fin double (xs.getD k 0) = true ∧ fin double (ys.getD k 0) = true ∧ iv double (xs.getD k 0) = iv double (ys.getD k 0)) :
    Calls Try.prog 62 #[.slice A n c1, .slice B n c2] w fun e w' => e = .returned (.bool true) ∧ ∃ d, w.drewN d = w' := by
  have hn := h.2.1
  have HX := Lib.hid h.2.2
  have HY := Lib.hid h'.2.2
  have HV := Lib.hid hv
  clear h h' hv
  go_enter Try.func62, Try.ntmps62
  go_wp2_with fail
  go_loopw [5] (fun i wr => ∃ k : Nat, k ≤ n ∧ i = .int .i64 k ∧ ∃ d, w.drewN d = wr) (fun i _ => n - (intOf i).toNat)
  case atStart => exact ⟨0, Nat.zero_le _, rfl, 0, rfl⟩
  case round =>
    obtain ⟨k, hk, rfl, d, rfl⟩ := hrel
    by_cases hlt : k < n
    · obtain ⟨b, o, rfl, hbs, hcell⟩ := HX.out k hlt
      obtain ⟨b', o', rfl, hbs', hcell'⟩ := HY.out k hlt
      obtain ⟨f1, f2, f3⟩ := HV.out k hlt
      generalize xs.getD k 0 = x at *
      generalize ys.getD k 0 = y at *
      have hq : Hid ((double.order x y == some .eq) = true) := by show _ = _; rw [cmp_eq double f1 f2, f3]; simp
      unfold F64 at hcell hcell'
      clear f1 f2 f3
      go_wp2_with fail
      go_quiet ((go_at_call 70; exact quiet_more (samePart_eq _ _ _ hq.out)))
      go_wp2_with fail
      go_roundw
      case rel => exact ⟨k + 1, by omega, by go_num, _, rfl⟩
      case measure => simp [intOf]; omega
    · go_wp2_with fail
      go_ret
      exact ⟨rfl, d, rfl⟩
end Go.Proofs.Ytcnlgoghnlcndaa
