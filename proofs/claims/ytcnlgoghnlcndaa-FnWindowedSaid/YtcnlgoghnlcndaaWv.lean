/- Plain: windows make nothing greater; halves twice. Walk: DrawWindowed. -/
import Derived.Test.YtcnlgoghnlcndaaWu
import Derived.Test.YtcnlgoghnlcndaaEg
import Derived.Test.YtcnlgoghnlcndaaLPd
namespace Go.Proofs.Ytcnlgoghnlcndaa
open Go.RowKit Ieee

theorem sqI_mono {a b : Nat} (h : (iv single a).natAbs ≤ (iv single b).natAbs) : sqI a ≤ sqI b := by
  unfold sqI
  have h1 : iv single a * iv single a ≤ iv single b * iv single b := by
    rw [← Int.natAbs_mul_self' (iv single a), ← Int.natAbs_mul_self' (iv single b)]
    have := Nat.mul_le_mul h h
    exact_mod_cast this
  exact Int.mul_le_mul_of_nonneg_right h1 (Int.natCast_nonneg _)

theorem en_mono {xs ys : List Num} (hx : xs.all finN = true) (hy : ys.all finN = true) (hl : ys.length = xs.length)
    (hle : ∀ k, k < xs.length → (iv single (ys.getD k (0, 0)).1).natAbs ≤ (iv single (xs.getD k (0, 0)).1).natAbs ∧ (iv single (ys.getD k (0, 0)).2).natAbs ≤ (iv single (xs.getD k (0, 0)).2).natAbs) :
    ∀ k, k ≤ xs.length → k ≤ 50 → enI (ys.take k) ≤ enI (xs.take k) := by
  intro k
  induction k with
  | zero => intro _ _; simp [enI]
  | succ k ih =>
    intro hk hk5
    have hkx : k < xs.length := by omega
    have hky : k < ys.length := by omega
    have h0 := ih (by omega) (by omega)
    have bx := en_bound hx k (by omega) (by omega)
    have bY := en_bound hy k (by omega) (by omega)
    have fx : finN xs[k] = true := List.all_eq_true.1 hx _ (List.getElem_mem hkx)
    have fy : finN ys[k] = true := List.all_eq_true.1 hy _ (List.getElem_mem hky)
    obtain ⟨x1, x2⟩ := finC_parts fx
    obtain ⟨y1, y2⟩ := finC_parts fy
    have hz := hle k hkx
    have ex : xs.getD k (0, 0) = xs[k] := by simp [List.getD, hkx]
    have ey : ys.getD k (0, 0) = ys[k] := by simp [List.getD, hky]
    rw [ex, ey] at hz
    unfold enI at *
    rw [List.take_succ_eq_append_getElem hkx, List.take_succ_eq_append_getElem hky, List.foldl_append, List.foldl_append]
    simp only [List.foldl_cons, List.foldl_nil]
    unfold enStep
    have a1 := en_add bx x1 (by omega)
    have b1 := en_add bY y1 (by omega)
    have a2 := en_add a1.2 x2 (by omega)
    have b2 := en_add b1.2 y2 (by omega)
    have s1 := sqI_mono hz.1
    have s2 := sqI_mono hz.2
    have m1 := rI_mono double (t := 0) (Int.add_le_add h0 s1) b1.1 a1.1
    exact rI_mono double (t := 0) (Int.add_le_add m1 s2) b2.1 a2.1

theorem wdL_at {xs : List Num} {kd : Int} {k : Nat} (hk : k < xs.length) : (wdL xs kd).getD k (0, 0) = wdF xs kd k := getD_range (wdF xs kd) (0, 0) hk
theorem wd_en {xs : List Num} {kd : Int} (h : sigOk xs = true) (hw : winOk kd xs.length = true) : sigOk (wdL xs kd) = true ∧ enI (wdL xs kd) ≤ enI xs := by
  obtain ⟨h16, hall⟩ := sigOk_parts h
  have key : ∀ k, k < xs.length → finN (wdF xs kd k) = true ∧ (iv single (wdF xs kd k).1).natAbs ≤ (iv single (xs.getD k (0, 0)).1).natAbs ∧ (iv single (wdF xs kd k).2).natAbs ≤ (iv single (xs.getD k (0, 0)).2).natAbs := by
    intro k hk
    obtain ⟨_, _, m3, m4, m5⟩ := wd_some (fin_at' hall hk) (win_unit hw hk)
    exact ⟨m3, m4, m5⟩
  have hall' : (wdL xs kd).all finN = true := by
    rw [List.all_eq_true]
    intro z hz
    obtain ⟨j, hj, rfl⟩ := List.mem_map.1 hz
    exact (key j (by simpa using hj)).1
  refine ⟨?_, ?_⟩
  · unfold sigOk
    rw [wdL_length]
    simp only [Bool.and_eq_true, decide_eq_true_eq]
    exact ⟨h16, hall'⟩
  · have := en_mono hall hall' (wdL_length xs kd) (fun k hk => by rw [wdL_at hk]; exact (key k hk).2) xs.length (Nat.le_refl _) (by omega)
    rw [List.take_of_length_le (by rw [wdL_length]; exact Nat.le_refl _), List.take_of_length_le (Nat.le_refl _)] at this
    exact this

theorem rt_half : rt single (tm single) (p2 400) < single.infRung := by decide +kernel
theorem rt_two : rt single 0 (p2 200) < single.infRung := by decide +kernel
theorem half_twice {x : Nat} {m : Int} (hx : fin single x = true) (hv : iv single x = m * (p2 149 : Int)) (hm : m.natAbs ≤ 1000) :
    ∃ h s, floatBits .mul .f32 x 1056964608 = some h ∧ floatBits .add .f32 h h = some s ∧ fin single s = true ∧ iv single s = iv single x := by
  have h1 : isV single 1056964608 1 148 := ⟨half_iv.1, by rw [half_iv.2, Int.one_mul]⟩
  obtain ⟨h, e1, i1⟩ := isV_mul single (N := 400) (by decide) (show isV single x m 149 from ⟨hx, hv⟩) h1 (by show (_ : Int).natAbs < 2 ^ 24; omega) (by decide) rt_half (by decide)
  have et : 149 + 148 - tm single = 148 := by decide
  rw [et, Int.mul_one] at i1
  obtain ⟨s, e2, i2⟩ := isV_add single (N := 200) i1 i1 (by show (_ : Int).natAbs < 2 ^ 24; omega) rt_two (by decide)
  refine ⟨h, s, e1, e2, i2.1, ?_⟩
  rw [i2.2, hv]
  have : (p2 149 : Int) = 2 * (p2 148 : Int) := by rw [p2_succ]; simp
  rw [this, Int.add_mul, ← Int.mul_assoc, Int.mul_comm m 2, Int.mul_assoc, Int.two_mul]

theorem tw_eq {z : Num} (h : Whole z 1000) : valEq (twN (wdN z 1056964608)) z := by
  obtain ⟨f1, f2, x, y, a, b, c, d, e1, e2⟩ := h
  obtain ⟨h1, s1, p1, p2, p3, p4⟩ := half_twice f1 e1 (by omega)
  obtain ⟨h2, s2, q1, q2, q3, q4⟩ := half_twice f2 e2 (by omega)
  have w1 : wdN z 1056964608 = (h1, h2) := by unfold wdN; rw [p1, q1]; rfl
  have w2 : twN (h1, h2) = (s1, s2) := by unfold twN; show ((floatBits .add .f32 h1 h1).getD 0, (floatBits .add .f32 h2 h2).getD 0) = _; rw [p2, q2]; rfl
  rw [w1, w2]
  exact ⟨p3, q3, f1, f2, p4, q4⟩
theorem twice_same {xs : List Num} {n : Nat} (h : AllWhole xs 1000) (hl : xs.length = n) (hw : winOk 0 n = true) : ∀ k, k < n → valEq ((twL (wdL xs 0)).getD k (0, 0)) (xs.getD k (0, 0)) := by
  intro k hk
  obtain ⟨_, m, hm, hs⟩ := winOk_in hw
  obtain rfl : n = m := by omega
  rw [show (twL (wdL xs 0)).getD k (0, 0) = twF (wdL xs 0) k from getD_range (twF (wdL xs 0)) (0, 0) (by rw [wdL_length]; omega)]
  unfold twF
  rw [wdL_at (by omega)]
  unfold wdF
  rw [hl, show winW 0 n k = 1056964608 from box_half n hs k hk]
  exact tw_eq (h k (by omega))

/-! The draw. -/
def dwF (j : Int) : Int := if j = 0 then 2 else if j = 1 then 4 else if j = 2 then 8 else if j = 3 then 16 else 3
def dwCells : Array Value := #[.int .i64 2, .int .i64 4, .int .i64 8, .int .i64 16, .int .i64 3]
theorem dw_all (W : World) : AllC (W.alloc (Obj.cells #[.int .i64 2, .int .i64 4, .int .i64 8, .int .i64 16, .int .i64 3] 3)) W.heap.size (fun j => .int .i64 (dwF j)) 5 := by
  intro j h1 h2
  obtain ⟨j, rfl⟩ := Int.eq_ofNat_of_zero_le h1
  show (W.alloc (Obj.cells dwCells 3)).cell? ⟨W.heap.size, j, none⟩ = _
  rw [cell_of_row _ W.heap.size j dwCells 3 (0, 0) (heap_alloc_new W _)]
  have : j = 0 ∨ j = 1 ∨ j = 2 ∨ j = 3 ∨ j = 4 := by omega
  rcases this with rfl | rfl | rfl | rfl | rfl <;> rfl
theorem dw_nat (j : Int) : ∃ n : Nat, dwF j = n ∧ n ≤ 16 := by
  unfold dwF
  split
  · exact ⟨2, rfl, by omega⟩
  · split
    · exact ⟨4, rfl, by omega⟩
    · split
      · exact ⟨8, rfl, by omega⟩
      · split
        · exact ⟨16, rfl, by omega⟩
        · exact ⟨3, rfl, by omega⟩

/-- A drawn signal, and a kind. -/
def DrawKind (w : World) (e : Ending) (w' : World) : Prop :=
  ∃ B c xs, ∃ m : Int, e = .returned (.tuple #[.slice B (List.length xs) c, .int .i64 m]) ∧ xs.length ≤ 41 ∧ xs.length ≤ c ∧ c ≤ maxLen ∧ Sig w' B xs.length xs ∧ Below w.heap.size w w'

set_option maxRecDepth 100000 in
set_option maxHeartbeats 8000000 in
theorem DrawWindowed_any (A : Option Addr) (n cap : Nat) (w : World) (h : Code w A n cap) : Calls Try.prog 55 #[.slice A n cap] w (DrawKind w) := by
  go_enter Try.func55, Try.ntmps55
  go_wp2_with fail
  refine (open_any _ _ _ _ h).mono ?_
  rintro e w1 ⟨rfl, hb1, hr1⟩
  have hlt := hr1.lt
  go_wp2_with fail
  refine (pick_any _ _ _ _ (hr1.alloc _) (by omega) (by omega)).mono ?_
  rintro e w2 ⟨j, j1, j2, rfl, hg2, hr2⟩
  have hc : w2.cell? ⟨w1.heap.size, j.toNat, none⟩ = some (.int .i64 (dwF j)) := (AllC.grown (dw_all w1) hg2 (by omega)) j j1 j2
  obtain ⟨m, hm, hm16⟩ := dw_nat j
  rw [hm] at hc
  have hb2 : Below w.heap.size w w2 := Below.grow (Below.alloc hb1 (by omega) _) hg2 (by simp; omega) (Nat.le_refl _)
  clear hg2 hm
  go_wp2_with fail
  refine (signal_any _ _ m 9 _ hr2 (by omega) (by omega) (.inr (by omega))).mono ?_
  rintro e w3 ⟨v, xs, rfl, hQ, ho, hl, hg3, p', hp', hr3⟩
  have hb3 := Below.grow hb2 hg3 hb2.size (Nat.le_refl _)
  obtain ⟨B, c, rfl, hcc, hcm, hs⟩ := own_form (T := C) (0, 0) ho (by omega)
  have HO := Lib.hid ho
  have h2R : w.heap.size < w2.heap.size := hr2.lt
  clear hg3 hQ hc hr1 hr2 hb1 hb2 hs ho
  generalize hN : xs.length = N at *
  have HN := Lib.hid hN
  clear hN
  go_wp2_with fail
  refine (pick_any _ _ _ _ hr3 (by omega) (by omega)).mono ?_
  rintro e w4 ⟨j4, j5, j6, rfl, hg4, hr4⟩
  have hb4 := Below.grow hb3 hg4 hb3.size (Nat.le_refl _)
  have HO4 := Lib.hid (own_pick HO.out hg4 h2R)
  clear hg4 hr3 hb3 HO
  go_wp2_with fail
  refine (pick_any _ _ _ _ hr4 (by omega) (by omega)).mono ?_
  rintro e w5 ⟨j7, j8, j9, rfl, hg5, hr5⟩
  have hb5 := Below.grow hb4 hg5 hb4.size (Nat.le_refl _)
  have HO5 := Lib.hid (own_pick HO4.out hg5 h2R)
  clear hg5 hr4 hb4 HO4
  go_wp2_with fail
  go_ret2
  have HN' := HN.out
  subst HN'
  obtain ⟨B', c', e', _, _, hs'⟩ := own_form (T := C) (0, 0) HO5.out (by omega)
  cases e'
  exact ⟨B, c, xs, _, rfl, hl, hcc, hcm, Sig.rw hs', hb5⟩
end Go.Proofs.Ytcnlgoghnlcndaa
