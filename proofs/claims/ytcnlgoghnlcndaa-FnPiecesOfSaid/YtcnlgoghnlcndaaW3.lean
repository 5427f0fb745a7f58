/- Walks: the reader of a code: l20Open, pick, odd. -/
import Derived.Test.YtcnlgoghnlcndaaW2
import Derived.Laws.BitsAllLaws
import Derived.Laws.BitsLemmas
import Derived.Deep.Draws
namespace Go.Proofs.Ytcnlgoghnlcndaa
open Go.RowKit Ieee

theorem ofInt_i64 (a : Nat) (ha : a < 9223372036854775808) : (BitVec.ofInt 64 (a : Int)).toNat = a := by
  rw [BitVec.ofInt_natCast, BitVec.toNat_ofNat]; exact Nat.mod_eq_of_lt (by omega)
theorem i64_xor_nat (a b : Nat) (ha : a < 9223372036854775808) (hb : b < 9223372036854775808) : bits .xor .i64 (a : Int) (b : Int) = ((a ^^^ b : Nat) : Int) := by
  have hx : a ^^^ b < 2 ^ 63 := Nat.xor_lt_two_pow (by omega) (by omega)
  show IntKind.i64.wrap ((BitVec.ofInt 64 (a : Int) ^^^ BitVec.ofInt 64 (b : Int)).toNat : Int) = _
  rw [BitVec.toNat_xor, ofInt_i64 a ha, ofInt_i64 b hb, IntKind.wrap_i64]
  omega

/-- A reader at block R: it has read 'p' bytes. -/
def RdAt (w : World) (R p : Nat) : Prop :=
  ∃ A n cap, w.heap[R]? = some (.cells #[.slice A n cap, .int .i64 p] 105 (0, 0)) ∧ n ≤ 2000 ∧
    (0 < n → ∃ b o, A = some ⟨b, o, none⟩ ∧ b < R ∧ ∀ i, i < n → ∃ v : Int, 0 ≤ v ∧ v ≤ 255 ∧ w.cell? ⟨b, o + i, none⟩ = some (.int .u8 v))

theorem RdAt.lt {w : World} {R p : Nat} (h : RdAt w R p) : R < w.heap.size := by
  obtain ⟨A, n, cap, hh, _⟩ := h
  exact (Array.getElem?_eq_some_iff.1 hh).1

theorem RdAt.keep {w w' : World} {R p : Nat} (h : RdAt w R p) (hb : ∀ k, k ≤ R → w'.heap[k]? = w.heap[k]?) : RdAt w' R p := by
  obtain ⟨A, n, cap, hh, hn, hr⟩ := h
  refine ⟨A, n, cap, (hb R (Nat.le_refl _)).trans hh, hn, fun h0 => ?_⟩
  obtain ⟨b, o, e, hbR, hc⟩ := hr h0
  refine ⟨b, o, e, hbR, fun i hi => ?_⟩
  obtain ⟨v, h1, h2, h3⟩ := hc i hi
  exact ⟨v, h1, h2, (World.cell?_of_block (w := w) (hb b (by omega))).trans h3⟩

theorem RdAt.set {w : World} {R p q : Nat} (h : RdAt w R p) : RdAt (w.setCell ⟨R, 1, none⟩ (.int .i64 q)) R q := by
  obtain ⟨A, n, cap, hh, hn, hr⟩ := h
  refine ⟨A, n, cap, ?_, hn, fun h0 => ?_⟩
  · have := heap_setCell_same w R 1 #[.slice A n cap, .int .i64 p] 105 (.int .i64 q) hh
    simpa using this
  · obtain ⟨b, o, e, hbR, hc⟩ := hr h0
    refine ⟨b, o, e, hbR, fun i hi => ?_⟩
    obtain ⟨v, h1, h2, h3⟩ := hc i hi
    exact ⟨v, h1, h2, (World.cell?_of_block (w := w) (Below.heap_setCell w _ _ _ (by show b ≠ R; omega))).trans h3⟩

set_option maxHeartbeats 1000000 in
theorem pick_first (R p n cap b o : Nat) (N v : Int) (w : World) (hh : w.heap[R]? = some (.cells #[.slice (some ⟨b, o, none⟩) n cap, .int .i64 p] 105 (0, 0)))
    (hp : p < n) (hp' : p < 1000000) (hbR : b ≠ R) (hN : 1 ≤ N) (hv : 0 ≤ v) (hv' : v ≤ 255) (hc : w.cell? ⟨b, o + p, none⟩ = some (.int .u8 v)) :
    Calls Try.prog 89 #[.pointer (some ⟨R, 0, none⟩), .int .i64 N] w fun e w' => e = .returned (.int .i64 (v % N)) ∧ w.setCell ⟨R, 1, none⟩ (.int .i64 (p + 1)) = w' := by
  have c0 : w.cell? ⟨R, 0, none⟩ = some (.slice (some ⟨b, o, none⟩) n cap) := cell_of_row w R 0 _ 105 (0, 0) hh
  have c1 : w.cell? ⟨R, 1, none⟩ = some (.int .i64 p) := cell_of_row w R 1 _ 105 (0, 0) hh
  have f1 : w.frozen? ⟨R, 1, none⟩ = false := frozen_of_row w R 1 _ 105 hh
  have hn0 : ((n : Int) == 0) = false := by simp; omega
  have d1 : decide (N < 1) = false := by simp; omega
  clear hh
  go_enter Try.func89, Try.ntmps89
  go_wp2_with fail
  go_ret
  exact ⟨rfl, rfl⟩

set_option maxHeartbeats 1000000 in
theorem pick_empty (R p cap : Nat) (A : Option Addr) (N : Int) (w : World) (hh : w.heap[R]? = some (.cells #[.slice A 0 cap, .int .i64 p] 105 (0, 0)))
    (hp' : p < 1000000) (hN : 1 ≤ N) :
    Calls Try.prog 89 #[.pointer (some ⟨R, 0, none⟩), .int .i64 N] w fun e w' => e = .returned (.int .i64 0) ∧ w.setCell ⟨R, 1, none⟩ (.int .i64 (p + 1)) = w' := by
  have c0 : w.cell? ⟨R, 0, none⟩ = some (.slice A 0 cap) := cell_of_row w R 0 _ 105 (0, 0) hh
  have c1 : w.cell? ⟨R, 1, none⟩ = some (.int .i64 p) := cell_of_row w R 1 _ 105 (0, 0) hh
  have f1 : w.frozen? ⟨R, 1, none⟩ = false := frozen_of_row w R 1 _ 105 hh
  have d1 : decide (N < 1) = false := by simp; omega
  clear hh
  go_enter Try.func89, Try.ntmps89
  go_wp2_with fail
  go_ret
  exact ⟨rfl, rfl⟩

set_option maxHeartbeats 2000000 in
theorem pick_later (R p n cap b o i j q : Nat) (N v u : Int) (w : World) (hh : w.heap[R]? = some (.cells #[.slice (some ⟨b, o, none⟩) n cap, .int .i64 p] 105 (0, 0)))
    (hp : n ≤ p) (hn : 0 < n) (hn2 : n ≤ 2000) (hp' : p < 1000000) (hbR : b ≠ R) (hN : 1 ≤ N) (hv : 0 ≤ v) (hv' : v ≤ 255) (hu : 0 ≤ u) (hu' : u ≤ 255)
    (hi : i < n) (hj : j < n) (hq : q ≤ 1000000) (e1 : ((p : Int)).tmod n = i) (e2 : ((p : Int) * 7 + 3).tmod n = j) (e3 : ((p : Int)).tdiv n = q)
    (hc : w.cell? ⟨b, o + i, none⟩ = some (.int .u8 v)) (hc' : w.cell? ⟨b, o + j, none⟩ = some (.int .u8 u)) :
    Calls Try.prog 89 #[.pointer (some ⟨R, 0, none⟩), .int .i64 N] w fun e w' => (∃ k : Int, 0 ≤ k ∧ k < N ∧ e = .returned (.int .i64 k)) ∧ ∃ d, (w.setCell ⟨R, 1, none⟩ (.int .i64 (p + 1))).drewN d = w' := by
  have c0 : w.cell? ⟨R, 0, none⟩ = some (.slice (some ⟨b, o, none⟩) n cap) := cell_of_row w R 0 _ 105 (0, 0) hh
  have c1 : w.cell? ⟨R, 1, none⟩ = some (.int .i64 p) := cell_of_row w R 1 _ 105 (0, 0) hh
  have f1 : w.frozen? ⟨R, 1, none⟩ = false := frozen_of_row w R 1 _ 105 hh
  have hn0 : ((n : Int) == 0) = false := by simp; omega
  have d1 : decide (N < 1) = false := by simp; omega
  have d3 : decide (p < n) = false := by simp; omega
  have s1 : IntKind.i64.wrap ((p : Int) * 7) = (p : Int) * 7 := IntWalk.i64_in _ (by omega)
  have s2 : IntKind.i64.wrap ((p : Int) * 7 + 3) = (p : Int) * 7 + 3 := IntWalk.i64_in _ (by omega)
  have s3 : IntKind.i64.wrap (v * 131) = v * 131 := IntWalk.i64_in _ (by omega)
  have s4 : IntKind.i64.wrap (u * 1117) = u * 1117 := IntWalk.i64_in _ (by omega)
  have s5 : IntKind.i64.wrap (v * 131 + u * 1117) = v * 131 + u * 1117 := IntWalk.i64_in _ (by omega)
  have s6 : IntKind.i64.wrap ((p : Int) * 29) = (p : Int) * 29 := IntWalk.i64_in _ (by omega)
  have s7 : IntKind.i64.wrap (v * 131 + u * 1117 + (p : Int) * 29) = v * 131 + u * 1117 + (p : Int) * 29 := IntWalk.i64_in _ (by omega)
  have s8 : IntKind.i64.wrap ((q : Int) * 53) = (q : Int) * 53 := IntWalk.i64_in _ (by omega)
  have s9 : IntKind.i64.wrap (v * 131 + u * 1117 + (p : Int) * 29 + (q : Int) * 53) = v * 131 + u * 1117 + (p : Int) * 29 + (q : Int) * 53 := IntWalk.i64_in _ (by omega)
  clear hh
  go_enter Try.func89, Try.ntmps89
  go_wp2_with fail
  go_quiet (fail)
  clear s1 s2 s3 s4 s5 s6 s7 s8 s9 e1 e2 e3 hc hc' c0 c1 f1 d3 hn0
  have g1 : 0 ≤ v * 131 + u * 1117 + (p : Int) * 29 + (q : Int) * 53 := by omega
  have g2 : v * 131 + u * 1117 + (p : Int) * 29 + (q : Int) * 53 ≤ 1000000000000 := by omega
  generalize v * 131 + u * 1117 + (p : Int) * 29 + (q : Int) * 53 = X at *
  obtain ⟨Y, hY⟩ : ∃ Y : Nat, bits .xor .i64 X (X / 64) = Y := by
    obtain ⟨x, rfl⟩ := Int.eq_ofNat_of_zero_le g1
    exact ⟨x ^^^ (x / 64), i64_xor_nat x (x / 64) (by omega) (by omega)⟩
  clear hv hv' hu hu' hi hj hq hp hn hn2
  go_wp2_with fail
  go_ret
  refine ⟨⟨(Y : Int) % N, Int.emod_nonneg _ (by omega), Int.emod_lt_of_pos _ (by omega), rfl⟩, _, rfl⟩

theorem pick_any (R p : Nat) (N : Int) (w : World) (h : RdAt w R p) (hp : p < 1000000) (hN : 1 ≤ N) :
    Calls Try.prog 89 #[.pointer (some ⟨R, 0, none⟩), .int .i64 N] w fun e w' => ∃ k : Int, 0 ≤ k ∧ k < N ∧ e = .returned (.int .i64 k) ∧ w.grownBy w' (some R) ∧ RdAt w' R (p + 1) := by
  have hset : ∀ q : Nat, w.grownBy (w.setCell ⟨R, 1, none⟩ (.int .i64 q)) (some R) := fun q =>
    ⟨rfl, rfl, rfl, by simp [World.setCell], fun k _ hk => Below.heap_setCell w _ _ _ (fun e => hk (by rw [e]))⟩
  have h0 := h
  obtain ⟨A, n, cap, hh, hn, hr⟩ := h
  have e1 : ((p : Int) + 1) = ((p + 1 : Nat) : Int) := by omega
  rcases Nat.eq_zero_or_pos n with hz | hpos
  · subst hz
    refine (pick_empty R p cap A N w hh hp hN).mono fun e w' ⟨he, hw⟩ => ⟨0, by omega, by omega, he, ?_⟩
    subst hw
    rw [e1]
    exact ⟨hset _, h0.set⟩
  · obtain ⟨b, o, rfl, hbR, hc⟩ := hr hpos
    rcases Nat.lt_or_ge p n with hlt | hge
    · obtain ⟨v, v1, v2, v3⟩ := hc p hlt
      refine (pick_first R p n cap b o N v w hh hlt hp (by omega) hN v1 v2 v3).mono fun e w' ⟨he, hw⟩ => ⟨v % N, Int.emod_nonneg _ (by omega), Int.emod_lt_of_pos _ (by omega), he, ?_⟩
      subst hw
      rw [e1]
      exact ⟨hset _, h0.set⟩
    · obtain ⟨v, v1, v2, v3⟩ := hc (p % n) (Nat.mod_lt _ hpos)
      obtain ⟨u, u1, u2, u3⟩ := hc ((p * 7 + 3) % n) (Nat.mod_lt _ hpos)
      refine (pick_later R p n cap b o (p % n) ((p * 7 + 3) % n) (p / n) N v u w hh hge hpos hn hp (by omega) hN v1 v2 u1 u2 (Nat.mod_lt _ hpos) (Nat.mod_lt _ hpos)
        (Nat.le_trans (Nat.div_le_self _ _) (by omega)) (Int.ofNat_tmod p n).symm ?_ (Int.ofNat_tdiv p n).symm v3 u3).mono fun e w' ⟨⟨k, k1, k2, he⟩, d, hw⟩ => ⟨k, k1, k2, he, ?_⟩
      · exact (Int.ofNat_tmod (p * 7 + 3) n).symm
      · subst hw
        rw [e1]
        have hg := hset (p + 1)
        exact ⟨⟨hg.os, hg.tape, hg.output, hg.size, hg.block⟩, RdAt.set h0⟩

/-! odd -/
set_option maxHeartbeats 400000 in
theorem odd_zero (R : Nat) (w : World) : Calls Try.prog 117 #[.pointer (some ⟨R, 0, none⟩), .int .i64 0] w fun e w' => e = .returned (.bool false) ∧ w = w' := by
  go_enter Try.func117, Try.ntmps117
  go_wp2_with fail
  go_ret
  exact ⟨rfl, rfl⟩
set_option maxHeartbeats 400000 in
theorem odd_any (R p : Nat) (N : Int) (w : World) (h : RdAt w R p) (hp : p < 1000000) (hN : 1 ≤ N) (hN' : N ≤ 1000) :
    Calls Try.prog 117 #[.pointer (some ⟨R, 0, none⟩), .int .i64 N] w fun e w' => ∃ c : Bool, e = .returned (.bool c) ∧ w.grownBy w' (some R) ∧ RdAt w' R (p + 1) := by
  have d1 : decide (0 < N) = true := by simp; omega
  go_enter Try.func117, Try.ntmps117
  go_wp2_with (go_at_call 89; refine (pick_any _ _ _ _ h hp hN).mono ?_; rintro e w' ⟨k, k1, k2, rfl, hg, hr⟩)
  go_ret
  exact ⟨_, rfl, hg, hr⟩

/-! l20Open -/
set_option maxHeartbeats 400000 in
theorem open_short (A : Option Addr) (n cap : Nat) (w : World) (hn : n ≤ 2000) :
    Calls Try.prog 88 #[.slice A n cap] w fun e w' => e = .returned (.pointer (some ⟨w.heap.size, 0, none⟩)) ∧ w.alloc (.cells #[.slice A n cap, .int .i64 0] 105) = w' := by
  have d1 : decide (2000 < n) = false := by simp; omega
  go_enter Try.func88, Try.ntmps88
  go_wp2_with fail
  go_ret
  exact ⟨rfl, rfl⟩
set_option maxHeartbeats 400000 in
theorem open_long (b o n cap : Nat) (w : World) (hn : 2000 < n) (hc : n ≤ cap) :
    Calls Try.prog 88 #[.slice (some ⟨b, o, none⟩) n cap] w fun e w' => e = .returned (.pointer (some ⟨w.heap.size, 0, none⟩)) ∧ w.alloc (.cells #[.slice (some ⟨b, o, none⟩) 2000 cap, .int .i64 0] 105) = w' := by
  have d1 : decide (2000 < n) = true := by simp; omega
  have d2 : 2000 ≤ cap := by omega
  go_enter Try.func88, Try.ntmps88
  go_wp2_with fail
  go_ret
  exact ⟨rfl, rfl⟩
end Go.Proofs.Ytcnlgoghnlcndaa
