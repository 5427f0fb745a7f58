/- Walks over windows: sameWindow, eqFloat32S, markFloat32S, heldFloat32S. -/
import Derived.Test.YtcnlgoghnlcndaaWn
namespace Go.Proofs.Ytcnlgoghnlcndaa
open Go.RowKit Ieee

theorem samePart_fin (x : Nat) (w : World) (h : fin double x = true) :
    Calls Try.prog 70 #[.float .f64 x, .float .f64 x] w fun e w' => e = .returned (.bool true) ∧ w = w' :=
  samePart_eq x x w (by rw [cmp_eq double h h]; simp)

set_option maxHeartbeats 1000000 in
theorem sameWindow_eq (A B : Option Addr) (n c1 c2 : Nat) (xs : List Nat) (w : World) (h : Rw F32 0 w A n xs) (h' : Rw F32 0 w B n xs) (hv : ∀ k, k < n → fin single (xs.getD k 0) = true) :
    Calls Try.prog 36 #[.slice A n c1, .slice B n c2] w fun e w' => e = .returned (.bool true) ∧ ∃ d, w.drewN d = w' := by
  have hn := h.2.1
  have HX := Lib.hid h.2.2
  have HY := Lib.hid h'.2.2
  have HV := Lib.hid hv
  clear h h' hv
  go_enter Try.func36, Try.ntmps36
  go_wp2_with fail
  go_loopw [5] (fun i wr => ∃ k : Nat, k ≤ n ∧ i = .int .i64 k ∧ ∃ d, w.drewN d = wr) (fun i _ => n - (intOf i).toNat)
  case atStart => exact ⟨0, Nat.zero_le _, rfl, 0, rfl⟩
  case round =>
    obtain ⟨k, hk, rfl, d, rfl⟩ := hrel
    by_cases hlt : k < n
    · obtain ⟨b, o, rfl, hbs, hcell⟩ := HX.out k hlt
      obtain ⟨b', o', rfl, hbs', hcell'⟩ := HY.out k hlt
      have hvk := HV.out k hlt
      generalize xs.getD k 0 = x at *
      unfold F32 at hcell hcell'
      obtain ⟨r, r1, r2, r3⟩ := conv_up hvk
      have k1 := fun W : World => run_convert_float_float (P := Try.prog) W 43 42 .f32 .f64 x r some43 Try.underlying42 r1
      have HR := Lib.hid r2
      clear hvk r1 r2 r3
      go_wp2_with fail
      go_quiet ((go_at_call 70; exact quiet_more (samePart_fin _ _ HR.out)))
      go_wp2_with fail
      go_roundw
      case rel => exact ⟨k + 1, by omega, by go_num, _, rfl⟩
      case measure => simp [intOf]; omega
    · go_wp2_with fail
      go_ret
      exact ⟨rfl, d, rfl⟩

/-! sameFloat of a number and itself. -/
theorem one_by_zero : floatBits .quo .f64 4607182418800017408 0 = some 9218868437227405312 := by decide +kernel
theorem order_00 : (FloatKind.f64.format.order 0 0 == some .eq) = true := by decide +kernel
theorem order_00n : (FloatKind.f64.format.order 0 0 != some .eq) = false := by decide +kernel
theorem order_inf : (FloatKind.f64.format.order 9218868437227405312 0 == some .gt) = true := by decide +kernel

set_option maxHeartbeats 1000000 in
theorem sameFloat_zero (w : World) : Calls Try.prog 93 #[.float .f64 0, .float .f64 0] w fun e w' => e = .returned (.bool true) ∧ w = w' := by
  have g1 := fun W : World => run_float_arith (P := Try.prog) W .quo 42 .f64 _ _ _ one_by_zero
  have g2 := order_00
  have g3 := order_00n
  have g4 := order_inf
  go_enter Try.func93, Try.ntmps93
  go_wp2_with fail
  go_ret
  exact ⟨rfl, rfl⟩
set_option maxHeartbeats 1000000 in
theorem sameFloat_any (x : Nat) (w : World) (h : fin double x = true) (h0 : iv double x ≠ 0) : Calls Try.prog 93 #[.float .f64 x, .float .f64 x] w fun e w' => e = .returned (.bool true) ∧ w = w' := by
  have e1 : (FloatKind.f64.format.order x x == some .eq) = true := by
    show (double.order x x == some .eq) = true
    rw [cmp_eq double h h]; simp
  have e2 : (FloatKind.f64.format.order x x != some .eq) = false := by rw [bne, e1]; rfl
  have e3 : (FloatKind.f64.format.order x 0 == some .eq) = false := by
    show (double.order x 0 == some .eq) = false
    rw [cmp_eq double h (by decide +kernel), show iv double 0 = 0 by decide +kernel]; simpa using h0
  clear h h0
  go_enter Try.func93, Try.ntmps93
  go_wp2_with fail
  go_ret
  exact ⟨rfl, rfl⟩

theorem up_zero : floatToFloatBits .f32 0 .f64 = some 0 := by decide +kernel

set_option maxHeartbeats 1000000 in
theorem eqFloat32S_eq (A B : Option Addr) (n c1 c2 : Nat) (xs : List Nat) (w : World) (h : Rw F32 0 w A n xs) (h' : Rw F32 0 w B n xs) (hv : ∀ k, k < n → fin single (xs.getD k 0) = true ∧ (xs.getD k 0 = 0 ∨ iv single (xs.getD k 0) ≠ 0)) :
    Calls Try.prog 26 #[.slice A n c1, .slice B n c2] w fun e w' => e = .returned (.bool true) ∧ ∃ d, w.drewN d = w' := by
  have hn := h.2.1
  have HX := Lib.hid h.2.2
  have HY := Lib.hid h'.2.2
  have HV := Lib.hid hv
  clear h h' hv
  go_enter Try.func26, Try.ntmps26
  go_wp2_with fail
  go_loopw [5] (fun i wr => ∃ k : Nat, k ≤ n ∧ i = .int .i64 k ∧ ∃ d, w.drewN d = wr) (fun i _ => n - (intOf i).toNat)
  case atStart => exact ⟨0, Nat.zero_le _, rfl, 0, rfl⟩
  case round =>
    obtain ⟨k, hk, rfl, d, rfl⟩ := hrel
    by_cases hlt : k < n
    · obtain ⟨b, o, rfl, hbs, hcell⟩ := HX.out k hlt
      obtain ⟨b', o', rfl, hbs', hcell'⟩ := HY.out k hlt
      obtain ⟨hvk, hz⟩ := HV.out k hlt
      generalize xs.getD k 0 = x at *
      unfold F32 at hcell hcell'
      rcases hz with rfl | hz
      · have k1 := fun W : World => run_convert_float_float (P := Try.prog) W 43 42 .f32 .f64 0 0 some43 Try.underlying42 up_zero
        clear hvk
        go_wp2_with fail
        go_quiet ((go_at_call 93; exact quiet_more (sameFloat_zero _)))
        go_wp2_with fail
        go_roundw
        case rel => exact ⟨k + 1, by omega, by go_num, _, rfl⟩
        case measure => simp [intOf]; omega
      · obtain ⟨r, r1, r2, r3⟩ := conv_up hvk
        have k1 := fun W : World => run_convert_float_float (P := Try.prog) W 43 42 .f32 .f64 x r some43 Try.underlying42 r1
        have r0 : iv double r ≠ 0 := by
          rw [r3]; intro h; rcases Int.mul_eq_zero.1 h with h | h
          · exact hz h
          · have := p2_pos 925; omega
        have HR := Lib.hid r2
        have HR0 := Lib.hid r0
        clear hvk hz r1 r2 r3 r0
        go_wp2_with fail
        go_quiet ((go_at_call 93; exact quiet_more (sameFloat_any _ _ HR.out HR0.out)))
        go_wp2_with fail
        go_roundw
        case rel => exact ⟨k + 1, by omega, by go_num, _, rfl⟩
        case measure => simp [intOf]; omega
    · go_wp2_with fail
      go_ret
      exact ⟨rfl, d, rfl⟩

/-! Marks: 1, 2, 3, .. -/
def markW (i : Nat) : Nat := floatOfInt .f32 ((i : Int) + 1)
theorem mark_eq : ∀ i, i < 17 → (FloatKind.f32.format.order (markW i) (markW i) != some .eq) = false := by decide +kernel

/-- The state of the loop: k places are marked. -/
def MarkSt (w : World) (base g n cap k : Nat) (wr : World) : Prop :=
  ∃ xs : List Nat, xs.length = n ∧ (∀ i, i < k → xs[i]? = some (markW i)) ∧ wr.ownsRow base 43 1 (.slice (some ⟨g, 0, none⟩) n cap) n (xs.map F32) ∧ w.grownBy wr (some g)
theorem MarkSt.step {w wr : World} {base g n cap k : Nat} (h : MarkSt w base g n cap k wr) (hk : k < n) : MarkSt w base g n cap (k + 1) (wr.setCell ⟨g, k, none⟩ (F32 (markW k))) := by
  obtain ⟨xs, a, b, c, d⟩ := h
  obtain ⟨h1, h2⟩ := c.stored k (F32 (markW k))
  refine ⟨xs.set k (markW k), by simp [a], ?_, ?_, grown_trans d h2⟩
  · intro i hi
    rw [List.getElem?_set]
    by_cases e : k = i
    · subst e; simp [a, hk]
    · rw [if_neg e]; exact b i (by omega)
  · rw [List.map_set]; exact h1
theorem MarkSt.cell {w wr : World} {base g n cap k : Nat} (h : MarkSt w base g n cap k wr) (j : Nat) (hj : j < n) : (∃ u, wr.cell? ⟨g, j, none⟩ = some u) ∧ wr.frozen? ⟨g, j, none⟩ = false := by
  obtain ⟨xs, a, b, c, d⟩ := h
  refine ⟨?_, c.frozenAt j⟩
  have := c.cellAt j (by omega)
  have hlen : j < (xs.map F32).length := by simp [a, hj]
  exact ⟨_, this.trans (List.getElem?_eq_getElem hlen)⟩
theorem MarkSt.done {w wr : World} {base g n cap k : Nat} (h : MarkSt w base g n cap k wr) (hk : n ≤ k) : wr.ownsRow base 43 1 (.slice (some ⟨g, 0, none⟩) n cap) n (((List.range n).map markW).map F32) ∧ w.grownBy wr (some g) := by
  obtain ⟨xs, a, b, c, d⟩ := h
  have e : xs = (List.range n).map markW := by
    apply List.ext_getElem?
    intro i
    by_cases hi : i < n
    · rw [b i (by omega)]; simp [hi]
    · rw [List.getElem?_eq_none (by omega), List.getElem?_eq_none (by simp; omega)]
  subst e
  exact ⟨c, d⟩

set_option maxHeartbeats 1000000 in
theorem mark_any (base g n cap : Nat) (xs : List Nat) (w : World) (hn : n ≤ 16) (h : w.ownsRow base 43 1 (.slice (some ⟨g, 0, none⟩) n cap) n (xs.map F32)) :
    Calls Try.prog 27 #[.slice (some ⟨g, 0, none⟩) n cap, .int .i64 1] w fun e w' => e = .returned (.int .i64 (1 + n)) ∧ w'.ownsRow base 43 1 (.slice (some ⟨g, 0, none⟩) n cap) n (((List.range n).map markW).map F32) ∧ w.grownBy w' (some g) := by
  have hst : MarkSt w base g n cap 0 w := ⟨xs, by have := h.1; simpa using this, fun i hi => absurd hi (by omega), h, ⟨rfl, rfl, rfl, Nat.le_refl _, fun _ _ _ => rfl⟩⟩
  clear h
  go_enter Try.func27, Try.ntmps27
  go_wp2_with fail
  go_loopw [1, 5] (fun q i wr => ∃ k : Nat, k ≤ n ∧ i = .int .i64 k ∧ q = .int .i64 (1 + k) ∧ MarkSt w base g n cap k wr) (fun _ i _ => n - (intOf i).toNat)
  case atStart => exact ⟨0, Nat.zero_le _, rfl, rfl, hst⟩
  case round =>
    obtain ⟨k, hk, rfl, rfl, h⟩ := hrel
    clear hst
    by_cases hlt : k < n
    · obtain ⟨⟨u, hu⟩, hf⟩ := h.cell k hlt
      have hs := h.step hlt
      unfold F32 markW at hs
      rw [Int.add_comm] at hs
      go_wp2_with fail
      go_roundw
      case rel => exact ⟨k + 1, by omega, by go_num, by go_num, hs⟩
      case measure => simp [intOf]; omega
    · obtain rfl : k = n := by omega
      go_wp2_with fail
      go_ret
      exact ⟨rfl, h.done (Nat.le_refl _)⟩

set_option maxHeartbeats 1000000 in
theorem mark_nil (w : World) : Calls Try.prog 27 #[.slice none 0 0, .int .i64 1] w fun e w' => e = .returned (.int .i64 1) ∧ w = w' := by
  go_enter Try.func27, Try.ntmps27
  go_wp2_with fail
  go_loop [1, 5] (fun q i => i = .int .i64 0 ∧ q = .int .i64 1) (fun _ _ => 0)
  case atStart => exact ⟨rfl, rfl⟩
  case round =>
    obtain ⟨rfl, rfl⟩ := hrel
    go_wp2_with fail
    go_ret
    exact ⟨rfl, rfl⟩

set_option maxHeartbeats 1000000 in
theorem held_gen (Mf : Nat → Nat) (hM : ∀ k : Nat, k < 17 → floatOfInt .f32 (1 + (k : Int)) = Mf k ∧ (FloatKind.f32.format.order (Mf k) (Mf k) != some .eq) = false) (A : Option Addr) (n cap : Nat) (xs : List Nat) (w : World) (hn : n ≤ 16)
    (hx : ∀ k, k < n → xs.getD k 0 = Mf k) (h : Rw F32 0 w A n xs) :
    Calls Try.prog 28 #[.slice A n cap, .int .i64 1] w fun e w' => e = .returned (.int .i64 (1 + n)) ∧ w = w' := by
  have HX := Lib.hid h.2.2
  have HM := Lib.hid hM
  have HE := Lib.hid hx
  clear h hM hx
  go_enter Try.func28, Try.ntmps28
  go_wp2_with fail
  go_loop [1, 5] (fun q i => ∃ k : Nat, k ≤ n ∧ i = .int .i64 k ∧ q = .int .i64 (1 + k)) (fun _ i => n - (intOf i).toNat)
  case atStart => exact ⟨0, Nat.zero_le _, rfl, rfl⟩
  case round =>
    obtain ⟨k, hk, rfl, rfl⟩ := hrel
    by_cases hlt : k < n
    · obtain ⟨b, o, rfl, hbs, hcell⟩ := HX.out k hlt
      obtain ⟨hM, hm⟩ := HM.out k (by omega)
      rw [HE.out k hlt] at hcell
      generalize Mf k = M at *
      unfold F32 at hcell
      go_wp2_with fail
      go_round
      case rel => exact ⟨k + 1, by omega, by go_num, by go_num⟩
      case measure => simp [intOf]; omega
    · obtain rfl : k = n := by omega
      go_wp2_with fail
      go_ret
      exact ⟨rfl, rfl⟩

theorem getD_range {α : Type} (f : Nat → α) (d : α) {n k : Nat} (h : k < n) : ((List.range n).map f).getD k d = f k := by simp [List.getD, h]
theorem mark_out (k : Nat) (h : k < 17) : floatOfInt .f32 (1 + (k : Int)) = markW k ∧ (FloatKind.f32.format.order (markW k) (markW k) != some .eq) = false :=
  ⟨by unfold markW; rw [Int.add_comm], mark_eq k h⟩
theorem held_any (A : Option Addr) (n cap : Nat) (w : World) (hn : n ≤ 16) (h : Rw F32 0 w A n ((List.range n).map markW)) :
    Calls Try.prog 28 #[.slice A n cap, .int .i64 1] w fun e w' => e = .returned (.int .i64 (1 + n)) ∧ w = w' :=
  held_gen markW mark_out A n cap _ w hn (fun _k hk => getD_range markW 0 hk) h
end Go.Proofs.Ytcnlgoghnlcndaa
