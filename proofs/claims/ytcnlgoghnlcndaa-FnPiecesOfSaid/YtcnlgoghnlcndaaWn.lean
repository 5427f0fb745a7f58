/- Walks: WindowOf (impl and spec). -/
import Derived.Test.YtcnlgoghnlcndaaRo
namespace Go.Proofs.Ytcnlgoghnlcndaa
open Go.RowKit Ieee

/-- The number of a window at a place. -/
def triW (n k : Nat) : Nat := (floatBits .quo .f32 (floatOfInt .f32 (2 * (k : Int))) (floatOfInt .f32 (n : Int))).getD 0
def smoW (n k : Nat) : Nat := (floatBits .quo .f32 (turn (16 / (n : Int) * k)).1 1073741824).getD 0
def winW (kd : Int) (n k : Nat) : Nat :=
  if kd = 0 then 1056964608
  else if kd = 1 then (if n / 2 ≤ k then (floatBits .sub .f32 1073741824 (triW n k)).getD 0 else triW n k)
  else (floatBits .sub .f32 1056964608 (smoW n k)).getD 0
def winL (kd : Int) (n : Nat) : List Nat := (List.range n).map (winW kd n)
def sizes : List Nat := [2, 4, 8, 16]

theorem tri_some : ∀ n ∈ sizes, ∀ k, k < n → floatBits .quo .f32 (floatOfInt .f32 (2 * (k : Int))) (floatOfInt .f32 (n : Int)) = some (triW n k) := by decide +kernel
theorem tri_less : ∀ n ∈ sizes, ∀ k, k < n → n / 2 ≤ k → floatBits .sub .f32 1073741824 (triW n k) = some (winW 1 n k) := by decide +kernel
theorem tri_low : ∀ n ∈ sizes, ∀ k, k < n → ¬ n / 2 ≤ k → triW n k = winW 1 n k := by decide +kernel
theorem smo_some : ∀ n ∈ sizes, ∀ k, k < n → floatBits .quo .f32 (turn (16 / (n : Int) * k)).1 1073741824 = some (smoW n k) := by decide +kernel
theorem smo_mul : ∀ n ∈ sizes, ∀ k, k < n → floatBits .mul .f32 (turn (16 / (n : Int) * k)).1 1056964608 = some (smoW n k) := by decide +kernel
theorem smo_less : ∀ n ∈ sizes, ∀ k, k < n → floatBits .sub .f32 1056964608 (smoW n k) = some (winW 2 n k) := by decide +kernel

theorem gr_own0 {a w w' : World} {r : Option Nat} (h : a.grownBy w none) (hg : w.grownBy w' r) (hr : ∀ g, r = some g → a.heap.size ≤ g) : a.grownBy w' none :=
  ⟨hg.os.trans h.os, hg.tape.trans h.tape, hg.output.trans h.output, Nat.le_trans h.size hg.size, fun i hi hn =>
    (hg.block i (Nat.lt_of_lt_of_le hi h.size) (fun e => by have := hr i e.symm; omega)).trans (h.block i hi hn)⟩

/-- The state of a loop that fills a row place by place. -/
def FillSt {α : Type} (E : TypeId) (T : α → Value) (f : Nat → α) (n : Nat) (w : World) (k : Nat) (wr : World) : Prop :=
  ∃ xs : List α, xs.length = n ∧ (∀ i, i < k → xs[i]? = some (f i)) ∧ wr.ownsRow w.heap.size E 1 (.slice (some ⟨w.heap.size, 0, none⟩) n n) n (xs.map T) ∧ w.grownBy wr none

theorem FillSt.start {α : Type} {E : TypeId} {T : α → Value} {f : Nat → α} {n : Nat} {w wr : World} (z : α) (h1 : wr.ownsRow w.heap.size E 1 (.slice (some ⟨w.heap.size, 0, none⟩) n n) n ((List.replicate n z).map T)) (h2 : w.grownBy wr none) : FillSt E T f n w 0 wr :=
  ⟨_, by simp, fun i hi => absurd hi (by omega), h1, h2⟩
theorem FillSt.drewN {α : Type} {E : TypeId} {T : α → Value} {f : Nat → α} {n : Nat} {w wr : World} {k : Nat} (h : FillSt E T f n w k wr) (d : Nat) : FillSt E T f n w k (wr.drewN d) := by
  obtain ⟨xs, a, b, c, d'⟩ := h
  exact ⟨xs, a, b, c, grown_drewN d' _⟩
/-- .. the call may make more memory in between. -/
theorem FillSt.grow {α : Type} {E : TypeId} {T : α → Value} {f : Nat → α} {n : Nat} {w wr w' : World} {k : Nat} (h : FillSt E T f n w k wr) (hg : wr.grownBy w' none) : FillSt E T f n w k w' := by
  obtain ⟨xs, a, b, c, d⟩ := h
  exact ⟨xs, a, b, c.kept hg (.inr (by simp [Value.ownBlock])), grown_trans d hg⟩
theorem FillSt.step {α : Type} {E : TypeId} {T : α → Value} {f : Nat → α} {n : Nat} {w wr : World} {k : Nat} (h : FillSt E T f n w k wr) (hk : k < n) : FillSt E T f n w (k + 1) (wr.setCell ⟨w.heap.size, k, none⟩ (T (f k))) := by
  obtain ⟨xs, a, b, c, d⟩ := h
  obtain ⟨h1, h2⟩ := c.stored k (T (f k))
  refine ⟨xs.set k (f k), by simp [a], ?_, ?_, gr_own0 d h2 (fun g e => by cases e; exact Nat.le_refl _)⟩
  · intro i hi
    rw [List.getElem?_set]
    by_cases e : k = i
    · subst e; simp [a, hk]
    · rw [if_neg e]; exact b i (by omega)
  · rw [List.map_set]; exact h1
theorem FillSt.junk {α : Type} {E : TypeId} {T : α → Value} {f : Nat → α} {n : Nat} {w wr : World} {k : Nat} (h : FillSt E T f n w k wr) (x : α) : FillSt E T f n w k (wr.setCell ⟨w.heap.size, k, none⟩ (T x)) := by
  obtain ⟨xs, a, b, c, d⟩ := h
  obtain ⟨h1, h2⟩ := c.stored k (T x)
  refine ⟨xs.set k x, by simp [a], ?_, ?_, gr_own0 d h2 (fun g e => by cases e; exact Nat.le_refl _)⟩
  · intro i hi
    rw [List.getElem?_set, if_neg (by omega)]; exact b i hi
  · rw [List.map_set]; exact h1
theorem FillSt.cell {α : Type} {E : TypeId} {T : α → Value} {f : Nat → α} {n : Nat} {w wr : World} {k : Nat} (h : FillSt E T f n w k wr) (j : Nat) (hj : j < n) :
    (∃ u, wr.cell? ⟨w.heap.size, j, none⟩ = some u) ∧ wr.frozen? ⟨w.heap.size, j, none⟩ = false := by
  obtain ⟨xs, a, b, c, d⟩ := h
  refine ⟨?_, c.frozenAt j⟩
  have := c.cellAt j (by omega)
  have hlen : j < (xs.map T).length := by simp [a, hj]
  exact ⟨_, this.trans (List.getElem?_eq_getElem hlen)⟩
theorem FillSt.done {α : Type} {E : TypeId} {T : α → Value} {f : Nat → α} {n : Nat} {w wr : World} {k : Nat} (h : FillSt E T f n w k wr) (hk : n ≤ k) : Made E T ((List.range n).map f) w (.returned (.slice (some ⟨w.heap.size, 0, none⟩) n n)) wr := by
  obtain ⟨xs, a, b, c, d⟩ := h
  have e : xs = (List.range n).map f := by
    apply List.ext_getElem?
    intro i
    by_cases hi : i < n
    · rw [b i (by omega)]; simp [hi]
    · rw [List.getElem?_eq_none (by omega), List.getElem?_eq_none (by simp; omega)]
  subst e
  exact ⟨_, rfl, by simpa using c, d⟩

theorem sizes_of {n : Nat} (h : n ∈ sizes) : n = 2 ∨ n = 4 ∨ n = 8 ∨ n = 16 := by simpa [sizes] using h

set_option maxRecDepth 100000 in
set_option maxHeartbeats 4000000 in
theorem WindowOf_box (n : Nat) (w : World) (hn : n ∈ sizes) : Calls Try.prog 25 #[.int .i64 0, .int .i64 n] w (Made 43 F32 (winL 0 n) w) := by
  have hp : pieceB n = true := by rcases sizes_of hn with rfl | rfl | rfl | rfl <;> rfl
  have hn16 : n ≤ 16 := by rcases sizes_of hn with rfl | rfl | rfl | rfl <;> omega
  have HP := Lib.hid hp
  clear hp hn
  go_enter Try.func25, Try.ntmps25
  go_wp2_with fail
  refine (pieceSize_any _ _).mono ?_
  rw [HP.out]
  rintro e w' ⟨rfl, rfl⟩
  go_wp2_with (at_make; go_must (refine make_row (T := F32) 0 _ rfl _ _ 29 43 4 rfl Try.underlying29 info43 rfl (by decide) n n rfl rfl rfl (by omega) ?_); intro w1 ho hg)
  have hst := FillSt.start (f := winW 0 n) 0 ho hg
  clear ho hg
  go_loopw [23] (fun i wr => ∃ k : Nat, k ≤ n ∧ i = .int .i64 k ∧ FillSt 43 F32 (winW 0 n) n w k wr) (fun i _ => n - (intOf i).toNat)
  case atStart => exact ⟨0, Nat.zero_le _, rfl, hst⟩
  case round =>
    obtain ⟨k, hk, rfl, h⟩ := hrel
    by_cases hlt : k < n
    · obtain ⟨⟨u, hu⟩, hf⟩ := h.cell k hlt
      go_wp2_with fail
      go_roundw
      case rel => exact ⟨k + 1, by omega, by go_num, h.step hlt⟩
      case measure => simp [intOf]; omega
    · go_wp2_with fail
      go_ret
      exact h.done (by omega)

set_option maxRecDepth 100000 in
set_option maxHeartbeats 4000000 in
theorem WindowOf_tri (n : Nat) (w : World) (hn : n ∈ sizes) : Calls Try.prog 25 #[.int .i64 1, .int .i64 n] w (Made 43 F32 (winL 1 n) w) := by
  have hp : pieceB n = true := by rcases sizes_of hn with rfl | rfl | rfl | rfl <;> rfl
  have hn16 : n ≤ 16 := by rcases sizes_of hn with rfl | rfl | rfl | rfl <;> omega
  have HP := Lib.hid hp
  have HN := Lib.hid hn
  clear hp hn
  go_enter Try.func25, Try.ntmps25
  go_wp2_with fail
  refine (pieceSize_any _ _).mono ?_
  rw [HP.out]
  rintro e w' ⟨rfl, rfl⟩
  go_wp2_with (at_make; go_must (refine make_row (T := F32) 0 _ rfl _ _ 29 43 4 rfl Try.underlying29 info43 rfl (by decide) n n rfl rfl rfl (by omega) ?_); intro w1 ho hg)
  have hst := FillSt.start (f := winW 1 n) 0 ho hg
  clear ho hg
  go_loopw [23] (fun i wr => ∃ k : Nat, k ≤ n ∧ i = .int .i64 k ∧ FillSt 43 F32 (winW 1 n) n w k wr) (fun i _ => n - (intOf i).toNat)
  case atStart => exact ⟨0, Nat.zero_le _, rfl, hst⟩
  case round =>
    obtain ⟨k, hk, rfl, h⟩ := hrel
    clear hst
    by_cases hlt : k < n
    · obtain ⟨⟨u, hu⟩, hf⟩ := h.cell k hlt
      have g1 := fun W : World => run_float_arith (P := Try.prog) W .quo 43 .f32 _ _ _ (tri_some n HN.out k hlt)
      by_cases hh : n / 2 ≤ k
      · have g2 := fun W : World => run_float_arith (P := Try.prog) W .sub 43 .f32 _ _ _ (tri_less n HN.out k hlt hh)
        have hh2 : ((n : Int) / 2 ≤ (k : Int)) := by omega
        go_wp2_with fail
        go_roundw
        case rel => exact ⟨k + 1, by omega, by go_num, (h.junk _).step hlt⟩
        case measure => simp [intOf]; omega
      · have e := tri_low n HN.out k hlt hh
        have hh2 : ¬ ((n : Int) / 2 ≤ (k : Int)) := by omega
        rw [e] at g1
        clear e
        go_wp2_with fail
        go_roundw
        case rel => exact ⟨k + 1, by omega, by go_num, h.step hlt⟩
        case measure => simp [intOf]; omega
    · go_wp2_with fail
      go_ret
      exact h.done (by omega)

theorem turn_rng {n k : Nat} (hn : n ∈ sizes) (hk : k < n) : 0 ≤ 16 / (n : Int) * k ∧ 16 / (n : Int) * k ≤ 16 := by
  rcases sizes_of hn with rfl | rfl | rfl | rfl <;> omega

theorem turn_rng0 {n : Nat} (hn : n ∈ sizes) : 0 ≤ 16 / (n : Int) ∧ 16 / (n : Int) ≤ 8 := by
  rcases sizes_of hn with rfl | rfl | rfl | rfl <;> omega

set_option maxRecDepth 100000 in
set_option maxHeartbeats 4000000 in
theorem WindowOf_smo (n : Nat) (w : World) (hn : n ∈ sizes) : Calls Try.prog 25 #[.int .i64 2, .int .i64 n] w (Made 43 F32 (winL 2 n) w) := by
  have hp : pieceB n = true := by rcases sizes_of hn with rfl | rfl | rfl | rfl <;> rfl
  have hn16 : 2 ≤ n ∧ n ≤ 16 := by rcases sizes_of hn with rfl | rfl | rfl | rfl <;> omega
  have hd : (16 : Int).tdiv n = 16 / n := Int.tdiv_eq_ediv_of_nonneg (by omega)
  have HP := Lib.hid hp
  have HN := Lib.hid hn
  clear hp hn
  go_enter Try.func25, Try.ntmps25
  go_wp2_with fail
  refine (pieceSize_any _ _).mono ?_
  rw [HP.out]
  rintro e w' ⟨rfl, rfl⟩
  go_wp2_with (at_make; go_must (refine make_row (T := F32) 0 _ rfl _ _ 29 43 4 rfl Try.underlying29 info43 rfl (by decide) n n rfl rfl rfl (by omega) ?_); intro w1 ho hg)
  have hst := FillSt.start (f := winW 2 n) 0 ho hg
  clear ho hg
  go_loopw [23] (fun i wr => ∃ k : Nat, k ≤ n ∧ i = .int .i64 k ∧ FillSt 43 F32 (winW 2 n) n w k wr) (fun i _ => n - (intOf i).toNat)
  case atStart => exact ⟨0, Nat.zero_le _, rfl, hst⟩
  case round =>
    obtain ⟨k, hk, rfl, h⟩ := hrel
    clear hst
    by_cases hlt : k < n
    · have g1 := fun W : World => run_float_arith (P := Try.prog) W .quo 43 .f32 _ _ _ (smo_some n HN.out k hlt)
      have g2 := fun W : World => run_float_arith (P := Try.prog) W .sub 43 .f32 _ _ _ (smo_less n HN.out k hlt)
      have hr := turn_rng HN.out hlt
      have hr0 := turn_rng0 HN.out
      have hw0 : wrap64 (16 / (n : Int)) = 16 / (n : Int) := IntWalk.wrap64_in _ (by omega)
      have hw : wrap64 (16 / (n : Int) * k) = 16 / (n : Int) * k := IntWalk.wrap64_in _ (by omega)
      have HT := fun W : World => TurnOf_any (16 / (n : Int) * k) W (by omega) (by omega)
      clear hr hr0
      go_wp2_with fail
      refine (HT _).mono ?_
      rintro e w2 ⟨rfl, hg⟩
      have h2 := h.grow hg
      obtain ⟨⟨u, hu⟩, hf⟩ := h2.cell k hlt
      clear hw hw0
      go_wp2_with fail
      go_roundw
      case rel => exact ⟨k + 1, by omega, by go_num, h2.step hlt⟩
      case measure => simp [intOf]; omega
    · go_wp2_with fail
      go_ret
      exact h.done (by omega)

/-! spec.WindowOf: the numbers are put one behind the other. -/
/-- The state of a loop that appends place by place. -/
def AppSt {α : Type} (E : TypeId) (T : α → Value) (f : Nat → α) (w : World) (v : Value) (k : Nat) (wr : World) : Prop :=
  wr.ownsRow w.heap.size E 1 v k (((List.range k).map f).map T) ∧ w.grownBy wr none
theorem AppSt.start {α : Type} {E : TypeId} {T : α → Value} {f : Nat → α} {w : World} : AppSt E T f w (.slice (some ⟨w.heap.size, 0, none⟩) 0 0) 0 (w.alloc (.cells #[] E)) :=
  ⟨World.ownsRow_made w #[] 0 (Nat.le_refl _) (Nat.zero_le _) rfl, World.grownBy_alloc w _ _⟩
theorem AppSt.grow {α : Type} {E : TypeId} {T : α → Value} {f : Nat → α} {w wr w' : World} {v : Value} {k : Nat} (h : AppSt E T f w v k wr) (hg : wr.grownBy w' none) : AppSt E T f w v k w' :=
  ⟨h.1.kept hg (by cases hv : v.ownBlock with | none => exact .inl rfl | some g => exact .inr (by simp)), grown_trans h.2 hg⟩
theorem AppSt.step {α : Type} {E : TypeId} {T : α → Value} {f : Nat → α} {w wr w' : World} {v v' : Value} {k : Nat} (h : AppSt E T f w v k wr)
    (h1 : w'.ownsRow w.heap.size E 1 v' (k + 1) (((List.range k).map f ++ [f k]).map T)) (h2 : (wr.alloc (.cells #[T (f k)] E)).grownBy w' v.ownBlock) : AppSt E T f w v' (k + 1) w' := by
  refine ⟨?_, gr_own0 (grown_alloc h.2 _) h2 (own_ge h.1)⟩
  rw [List.range_succ, List.map_append]
  exact h1
theorem AppSt.done {α : Type} {E : TypeId} {T : α → Value} {f : Nat → α} {w wr : World} {v : Value} {k n : Nat} (h : AppSt E T f w v k wr) (hk : k = n) : Made E T ((List.range n).map f) w (.returned v) wr := by
  subst hk
  exact ⟨v, rfl, by simpa using h.1, h.2⟩
theorem AppSt.size {α : Type} {E : TypeId} {T : α → Value} {f : Nat → α} {w wr : World} {v : Value} {k : Nat} (h : AppSt E T f w v k wr) : w.heap.size ≤ wr.heap.size := h.2.size

theorem size_tests {n : Nat} (h : n ∈ sizes) : ((n : Int) != 2) = false ∨ (((n : Int) != 2) = true ∧ ((n : Int) != 4) = false) ∨ (((n : Int) != 2) = true ∧ ((n : Int) != 4) = true ∧ ((n : Int) != 8) = false) ∨ (((n : Int) != 2) = true ∧ ((n : Int) != 4) = true ∧ ((n : Int) != 8) = true ∧ ((n : Int) != 16) = false) := by
  rcases sizes_of h with rfl | rfl | rfl | rfl <;> decide

set_option maxRecDepth 100000 in
set_option maxHeartbeats 4000000 in
theorem sWindowOf_box (n : Nat) (w : World) (hn : n ∈ sizes) : Calls Try.prog 24 #[.int .i64 0, .int .i64 n] w (Made 43 F32 (winL 0 n) w) := by
  have hn16 : n ≤ 16 := by rcases sizes_of hn with rfl | rfl | rfl | rfl <;> omega
  have hs := size_tests hn
  clear hn
  have hst := AppSt.start (E := 43) (T := F32) (f := winW 0 n) (w := w)
  rcases hs with h1 | ⟨h1, h2⟩ | ⟨h1, h2, h3⟩ | ⟨h1, h2, h3, h4⟩
  all_goals
    go_enter Try.func24, Try.ntmps24
    go_wp2_with fail
    refine (l1In_yes _ _ _ _ (by omega) (by omega)).mono ?_
    rintro e w' ⟨rfl, rfl⟩
    go_wp2_with fail
    go_loopw [5, 6] (fun v i wr => ∃ k : Nat, k ≤ n ∧ i = .int .i64 k ∧ AppSt 43 F32 (winW 0 n) w v k wr) (fun _ i _ => n - (intOf i).toNat)
    case atStart => exact ⟨0, Nat.zero_le _, rfl, hst⟩
    case round =>
      obtain ⟨k, hk, rfl, h⟩ := hrel
      clear hst
      have hsz := h.size
      by_cases hlt : k < n
      · go_wp2_with (at_builtin; go_must (refine append_row (T := F32) _ rfl _ _ 29 43 (.float .f32 0) 4 rfl Try.underlying29 info43 rfl (by decide) w.heap.size u5 k _ (winW 0 n k) rfl rfl h.1 rfl (by omega) hsz ?_); intro v' w' ho' hg')
        go_roundw
        case rel => exact ⟨k + 1, by omega, by go_num, h.step ho' hg'⟩
        case measure => simp [intOf]; omega
      · go_wp2_with fail
        go_ret
        exact h.done (by omega)

set_option maxRecDepth 100000 in
set_option maxHeartbeats 4000000 in
theorem sWindowOf_tri (n : Nat) (w : World) (hn : n ∈ sizes) : Calls Try.prog 24 #[.int .i64 1, .int .i64 n] w (Made 43 F32 (winL 1 n) w) := by
  have hn16 : n ≤ 16 := by rcases sizes_of hn with rfl | rfl | rfl | rfl <;> omega
  have hs := size_tests hn
  have HN := Lib.hid hn
  clear hn
  have hst := AppSt.start (E := 43) (T := F32) (f := winW 1 n) (w := w)
  rcases hs with h1 | ⟨h1, h2⟩ | ⟨h1, h2, h3⟩ | ⟨h1, h2, h3, h4⟩
  all_goals
    go_enter Try.func24, Try.ntmps24
    go_wp2_with fail
    refine (l1In_yes _ _ _ _ (by omega) (by omega)).mono ?_
    rintro e w' ⟨rfl, rfl⟩
    go_wp2_with fail
    go_loopw [5, 6] (fun v i wr => ∃ k : Nat, k ≤ n ∧ i = .int .i64 k ∧ AppSt 43 F32 (winW 1 n) w v k wr) (fun _ i _ => n - (intOf i).toNat)
    case atStart => exact ⟨0, Nat.zero_le _, rfl, hst⟩
    case round =>
      obtain ⟨k, hk, rfl, h⟩ := hrel
      clear hst
      have hsz := h.size
      by_cases hlt : k < n
      · have g1 := fun W : World => run_float_arith (P := Try.prog) W .quo 43 .f32 _ _ _ (tri_some n HN.out k hlt)
        by_cases hh : n / 2 ≤ k
        · have g2 := fun W : World => run_float_arith (P := Try.prog) W .sub 43 .f32 _ _ _ (tri_less n HN.out k hlt hh)
          have hh2 : ((n : Int) / 2 ≤ (k : Int)) := by omega
          go_wp2_with (at_builtin; go_must (refine append_row (T := F32) _ rfl _ _ 29 43 (.float .f32 0) 4 rfl Try.underlying29 info43 rfl (by decide) w.heap.size u5 k _ (winW 1 n k) rfl rfl h.1 rfl (by omega) hsz ?_); intro v' w' ho' hg')
          go_roundw
          case rel => exact ⟨k + 1, by omega, by go_num, h.step ho' hg'⟩
          case measure => simp [intOf]; omega
        · have e := tri_low n HN.out k hlt hh
          have hh2 : ¬ ((n : Int) / 2 ≤ (k : Int)) := by omega
          rw [e] at g1
          clear e
          go_wp2_with (at_builtin; go_must (refine append_row (T := F32) _ rfl _ _ 29 43 (.float .f32 0) 4 rfl Try.underlying29 info43 rfl (by decide) w.heap.size u5 k _ (winW 1 n k) rfl rfl h.1 rfl (by omega) hsz ?_); intro v' w' ho' hg')
          go_roundw
          case rel => exact ⟨k + 1, by omega, by go_num, h.step ho' hg'⟩
          case measure => simp [intOf]; omega
      · go_wp2_with fail
        go_ret
        exact h.done (by omega)

set_option maxRecDepth 100000 in
set_option maxHeartbeats 4000000 in
theorem sWindowOf_smo (n : Nat) (w : World) (hn : n ∈ sizes) : Calls Try.prog 24 #[.int .i64 2, .int .i64 n] w (Made 43 F32 (winL 2 n) w) := by
  have hn16 : 2 ≤ n ∧ n ≤ 16 := by rcases sizes_of hn with rfl | rfl | rfl | rfl <;> omega
  have hs := size_tests hn
  have HN := Lib.hid hn
  clear hn
  have hst := AppSt.start (E := 43) (T := F32) (f := winW 2 n) (w := w)
  rcases hs with h1 | ⟨h1, h2⟩ | ⟨h1, h2, h3⟩ | ⟨h1, h2, h3, h4⟩
  all_goals
    go_enter Try.func24, Try.ntmps24
    go_wp2_with fail
    refine (l1In_yes _ _ _ _ (by omega) (by omega)).mono ?_
    rintro e w' ⟨rfl, rfl⟩
    go_wp2_with fail
    go_loopw [5, 6] (fun v i wr => ∃ k : Nat, k ≤ n ∧ i = .int .i64 k ∧ AppSt 43 F32 (winW 2 n) w v k wr) (fun _ i _ => n - (intOf i).toNat)
    case atStart => exact ⟨0, Nat.zero_le _, rfl, hst⟩
    case round =>
      obtain ⟨k, hk, rfl, h⟩ := hrel
      clear hst
      by_cases hlt : k < n
      · have g1 := fun W : World => run_float_arith (P := Try.prog) W .mul 43 .f32 _ _ _ (smo_mul n HN.out k hlt)
        have g2 := fun W : World => run_float_arith (P := Try.prog) W .sub 43 .f32 _ _ _ (smo_less n HN.out k hlt)
        have hr := turn_rng HN.out hlt
        have hr0 := turn_rng0 HN.out
        have hw0 : wrap64 (16 / (n : Int)) = 16 / (n : Int) := IntWalk.wrap64_in _ (by omega)
        have hw : wrap64 (16 / (n : Int) * k) = 16 / (n : Int) * k := IntWalk.wrap64_in _ (by omega)
        have HT := fun W : World => sTurnOf_any (16 / (n : Int) * k) W (by omega) (by omega)
        clear hr hr0
        go_wp2_with fail
        refine (HT _).mono ?_
        rintro e w2 ⟨rfl, hg⟩
        have h5 := h.grow hg
        have hsz := h5.size
        clear hw hw0
        go_wp2_with (at_builtin; go_must (refine append_row (T := F32) _ rfl _ _ 29 43 (.float .f32 0) 4 rfl Try.underlying29 info43 rfl (by decide) w.heap.size u5 k _ (winW 2 n k) rfl rfl h5.1 rfl (by omega) hsz ?_); intro v' w' ho' hg')
        go_roundw
        case rel => exact ⟨k + 1, by omega, by go_num, h5.step ho' hg'⟩
        case measure => simp [intOf]; omega
      · go_wp2_with fail
        go_ret
        exact h.done (by omega)

/-! Every kind and size. -/
def winOk (kd n : Int) : Bool := pieceB n && decide (0 ≤ kd) && decide (kd ≤ 2)
theorem winOk_in {kd n : Int} (h : winOk kd n = true) : (kd = 0 ∨ kd = 1 ∨ kd = 2) ∧ ∃ m : Nat, n = m ∧ m ∈ sizes := by
  unfold winOk at h
  simp only [Bool.and_eq_true, decide_eq_true_eq] at h
  refine ⟨by omega, ?_⟩
  rcases piece_cases h.1.1 with rfl | rfl | rfl | rfl
  · exact ⟨2, rfl, by decide⟩
  · exact ⟨4, rfl, by decide⟩
  · exact ⟨8, rfl, by decide⟩
  · exact ⟨16, rfl, by decide⟩

theorem WindowOf_yes (kd : Int) (n : Nat) (w : World) (h : winOk kd n = true) : Calls Try.prog 25 #[.int .i64 kd, .int .i64 n] w (Made 43 F32 (winL kd n) w) := by
  obtain ⟨hk, m, hm, hs⟩ := winOk_in h
  obtain rfl : n = m := by omega
  rcases hk with rfl | rfl | rfl
  · exact WindowOf_box n w hs
  · exact WindowOf_tri n w hs
  · exact WindowOf_smo n w hs
theorem sWindowOf_yes (kd : Int) (n : Nat) (w : World) (h : winOk kd n = true) : Calls Try.prog 24 #[.int .i64 kd, .int .i64 n] w (Made 43 F32 (winL kd n) w) := by
  obtain ⟨hk, m, hm, hs⟩ := winOk_in h
  obtain rfl : n = m := by omega
  rcases hk with rfl | rfl | rfl
  · exact sWindowOf_box n w hs
  · exact sWindowOf_tri n w hs
  · exact sWindowOf_smo n w hs

set_option maxHeartbeats 1000000 in
theorem WindowOf_no (kd n : Int) (w : World) (h : winOk kd n = false) : Calls Try.prog 25 #[.int .i64 kd, .int .i64 n] w fun e w' => e = .returned (.slice none 0 0) ∧ w = w' := by
  rcases Bool.eq_false_or_eq_true (pieceB n) with hp | hp
  · have h' : kd < 0 ∨ 2 < kd := by
      unfold winOk at h
      rw [hp] at h
      simp only [Bool.true_and, Bool.and_eq_false_iff, decide_eq_false_iff_not] at h
      omega
    have HP := Lib.hid hp
    clear hp h
    rcases h' with h' | h'
    all_goals
      go_enter Try.func25, Try.ntmps25
      go_wp2_with fail
      refine (pieceSize_any _ _).mono ?_
      rw [HP.out]
      rintro e w' ⟨rfl, rfl⟩
      go_wp2_with fail
      go_ret
      exact ⟨rfl, rfl⟩
  · have HP := Lib.hid hp
    clear hp h
    go_enter Try.func25, Try.ntmps25
    go_wp2_with fail
    refine (pieceSize_any _ _).mono ?_
    rw [HP.out]
    rintro e w' ⟨rfl, rfl⟩
    go_wp2_with fail
    go_ret
    exact ⟨rfl, rfl⟩

theorem made_nil {α : Type} (E : TypeId) (T : α → Value) (w : World) : Made E T [] w (.returned (.slice (some ⟨w.heap.size, 0, none⟩) 0 0)) (w.alloc (.cells #[] E)) :=
  ⟨_, rfl, World.ownsRow_made w #[] 0 (Nat.le_refl _) (Nat.zero_le _) rfl, World.grownBy_alloc w _ _⟩

set_option maxHeartbeats 1000000 in
theorem sWindowOf_no (kd n : Int) (w : World) (h : winOk kd n = false) : Calls Try.prog 24 #[.int .i64 kd, .int .i64 n] w (Made 43 F32 [] w) := by
  rcases Bool.eq_false_or_eq_true (pieceB n) with hp | hp
  · have h' : ¬ (0 ≤ kd ∧ kd ≤ 2) := by
      unfold winOk at h
      rw [hp] at h
      simp only [Bool.true_and, Bool.and_eq_false_iff, decide_eq_false_iff_not] at h
      omega
    have hs : (n != 2) = false ∨ ((n != 2) = true ∧ (n != 4) = false) ∨ ((n != 2) = true ∧ (n != 4) = true ∧ (n != 8) = false) ∨ ((n != 2) = true ∧ (n != 4) = true ∧ (n != 8) = true ∧ (n != 16) = false) := by
      rcases piece_cases hp with rfl | rfl | rfl | rfl <;> decide
    have hm := made_nil 43 F32 w
    clear hp h
    rcases hs with h1 | ⟨h1, h2⟩ | ⟨h1, h2, h3⟩ | ⟨h1, h2, h3, h4⟩
    all_goals
      go_enter Try.func24, Try.ntmps24
      go_wp2_with fail
      refine (l1In_no _ _ _ _ h').mono ?_
      rintro e w' ⟨rfl, rfl⟩
      go_wp2_with fail
      go_ret
      exact hm
  · have hs : (n != 2) = true ∧ (n != 4) = true ∧ (n != 8) = true ∧ (n != 16) = true := by
      unfold pieceB at hp; simpa [bne, and_assoc] using hp
    obtain ⟨h1, h2, h3, h4⟩ := hs
    have hm := made_nil 43 F32 w
    clear hp h
    go_enter Try.func24, Try.ntmps24
    go_wp2_with fail
    go_ret
    exact hm
end Go.Proofs.Ytcnlgoghnlcndaa
