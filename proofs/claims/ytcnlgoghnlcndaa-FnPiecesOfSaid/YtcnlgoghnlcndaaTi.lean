/- What is kept between the draws; walks of drawn numbers in that form. -/
import Derived.Test.YtcnlgoghnlcndaaSg
import Derived.Test.YtcnlgoghnlcndaaT6
namespace Go.Proofs.Ytcnlgoghnlcndaa
open Go.RowKit Ieee

theorem alloc_sizeD (w : World) (o : Obj) : (w.alloc o).heap.size = w.heap.size + 1 := by simp
def p7F (j : Int) : Nat := if j = 0 then 4 else if j = 1 then 8 else if j = 2 then 16 else if j = 3 then 12 else if j = 4 then 6 else if j = 5 then 3 else 1
def p6F (j : Int) : Int := if j = 0 then 2 else if j = 1 then 4 else if j = 2 then 4 else if j = 3 then 8 else if j = 4 then 16 else 5
theorem p7F_le (j : Int) : p7F j ≤ 40 := by unfold p7F; (repeat' split) <;> omega
def p7V (j : Int) : Value := .int .i64 (p7F j : Nat)
def p6V (j : Int) : Value := .int .i64 (p6F j)
theorem p7_all (W : World) : AllC (W.alloc (Obj.cells #[.int .i64 4, .int .i64 8, .int .i64 16, .int .i64 12, .int .i64 6, .int .i64 3, .int .i64 1] 3)) W.heap.size p7V 7 := by
  intro j h1 h2
  obtain ⟨j, rfl⟩ := Int.eq_ofNat_of_zero_le h1
  show (W.alloc (Obj.cells #[.int .i64 4, .int .i64 8, .int .i64 16, .int .i64 12, .int .i64 6, .int .i64 3, .int .i64 1] 3)).cell? ⟨W.heap.size, j, none⟩ = _
  rw [cell_of_row _ W.heap.size j #[.int .i64 4, .int .i64 8, .int .i64 16, .int .i64 12, .int .i64 6, .int .i64 3, .int .i64 1] 3 (0, 0) (heap_alloc_new W _)]
  have : j = 0 ∨ j = 1 ∨ j = 2 ∨ j = 3 ∨ j = 4 ∨ j = 5 ∨ j = 6 := by omega
  rcases this with rfl | rfl | rfl | rfl | rfl | rfl | rfl <;> rfl
theorem p6_all (W : World) : AllC (W.alloc (Obj.cells #[.int .i64 2, .int .i64 4, .int .i64 4, .int .i64 8, .int .i64 16, .int .i64 5] 3)) W.heap.size p6V 6 := by
  intro j h1 h2
  obtain ⟨j, rfl⟩ := Int.eq_ofNat_of_zero_le h1
  show (W.alloc (Obj.cells #[.int .i64 2, .int .i64 4, .int .i64 4, .int .i64 8, .int .i64 16, .int .i64 5] 3)).cell? ⟨W.heap.size, j, none⟩ = _
  rw [cell_of_row _ W.heap.size j #[.int .i64 2, .int .i64 4, .int .i64 4, .int .i64 8, .int .i64 16, .int .i64 5] 3 (0, 0) (heap_alloc_new W _)]
  have : j = 0 ∨ j = 1 ∨ j = 2 ∨ j = 3 ∨ j = 4 ∨ j = 5 := by omega
  rcases this with rfl | rfl | rfl | rfl | rfl | rfl <;> rfl

/-- What holds of the world between the draws: the world at the start, the reader's place. -/
structure DInv (w : World) (p : Nat) (W : World) : Prop where
  below : Below w.heap.size w W
  rd : RdAt W w.heap.size p
theorem DInv.lt {w W : World} {p : Nat} (h : DInv w p W) : w.heap.size < W.heap.size := h.rd.lt
theorem DInv.alloc {w W : World} {p : Nat} (h : DInv w p W) (o : Obj) : DInv w p (W.alloc o) := ⟨h.below.alloc (Nat.le_of_lt h.lt) _, h.rd.alloc _⟩
theorem DInv.drew {w W : World} {p : Nat} (h : DInv w p W) : DInv w p W.drew := ⟨⟨h.below.os, h.below.tape, h.below.output, h.below.size, h.below.block⟩, h.rd.drew⟩
/-- A block that was laid behind the start holds the values of f. -/
structure DAll (w W : World) (G : Nat) (f : Int → Value) (n : Int) : Prop where
  lt : w.heap.size < G
  all : AllC W G f n
theorem DAll.alloc {w W : World} {G : Nat} {f : Int → Value} {n : Int} (h : DAll w W G f n) (o : Obj) : DAll w (W.alloc o) G f n :=
  ⟨h.lt, fun j h1 h2 => cell_grown (h.all j h1 h2) (World.grownBy_alloc W _ _)⟩
theorem DAll.drew {w W : World} {G : Nat} {f : Int → Value} {n : Int} (h : DAll w W G f n) : DAll w W.drew G f n := ⟨h.lt, h.all⟩
theorem DAll.p7 {w W : World} {p : Nat} (h : DInv w p W) : DAll w (W.alloc (Obj.cells #[.int .i64 4, .int .i64 8, .int .i64 16, .int .i64 12, .int .i64 6, .int .i64 3, .int .i64 1] 3)) W.heap.size p7V 7 := ⟨h.lt, p7_all W⟩
theorem DAll.p6 {w W : World} {p : Nat} (h : DInv w p W) : DAll w (W.alloc (Obj.cells #[.int .i64 2, .int .i64 4, .int .i64 4, .int .i64 8, .int .i64 16, .int .i64 5] 3)) W.heap.size p6V 6 := ⟨h.lt, p6_all W⟩
theorem DAll.p7' {w W : World} {p : Nat} (h : DInv w p W) : DAll w ((W.alloc (Obj.cells #[.int .i64 2, .int .i64 4, .int .i64 4, .int .i64 8, .int .i64 16, .int .i64 5] 3)).alloc (Obj.cells #[.int .i64 4, .int .i64 8, .int .i64 16, .int .i64 12, .int .i64 6, .int .i64 3, .int .i64 1] 3)) (W.heap.size + 1) p7V 7 := by
  have := DAll.p7 (h.alloc (Obj.cells #[.int .i64 2, .int .i64 4, .int .i64 4, .int .i64 8, .int .i64 16, .int .i64 5] 3))
  rwa [alloc_sizeD] at this
theorem DAll.p6' {w W : World} {p : Nat} (h : DInv w p W) : DAll w ((W.alloc (Obj.cells #[.int .i64 4, .int .i64 8, .int .i64 16, .int .i64 12, .int .i64 6, .int .i64 3, .int .i64 1] 3)).alloc (Obj.cells #[.int .i64 2, .int .i64 4, .int .i64 4, .int .i64 8, .int .i64 16, .int .i64 5] 3)) (W.heap.size + 1) p6V 6 := by
  have := DAll.p6 (h.alloc (Obj.cells #[.int .i64 4, .int .i64 8, .int .i64 16, .int .i64 12, .int .i64 6, .int .i64 3, .int .i64 1] 3))
  rwa [alloc_sizeD] at this
theorem DAll.out7 {w W : World} {G : Nat} (h : DAll w W G p7V 7) : ∀ j : Int, 0 ≤ j → j < 7 → W.cell? ⟨G, j.toNat, none⟩ = some (.int .i64 (p7F j : Nat)) := h.all
theorem DAll.out6 {w W : World} {G : Nat} (h : DAll w W G p6V 6) : ∀ j : Int, 0 ≤ j → j < 6 → W.cell? ⟨G, j.toNat, none⟩ = some (.int .i64 (p6F j)) := h.all
/-- A drawn signal of the call's own. -/
structure DOwn (w : World) (v : Value) (xs : List Num) (W : World) : Prop where
  own : ∃ base, w.heap.size < base ∧ W.ownsRow base 34 1 v xs.length (xs.map C)
theorem DOwn.alloc {w W : World} {v : Value} {xs : List Num} (h : DOwn w v xs W) (o : Obj) : DOwn w v xs (W.alloc o) := by
  obtain ⟨base, a, b⟩ := h.own
  exact ⟨base, a, b.alloc _⟩
/-- What a call of the reader keeps. -/
structure DKeep (w W w' : World) : Prop where
  all : ∀ (G : Nat) (f : Int → Value) (n : Int), DAll w W G f n → DAll w w' G f n
  own : ∀ (v : Value) (xs : List Num), DOwn w v xs W → DOwn w v xs w'
theorem DKeep.of {w W w' : World} (hg : W.grownBy w' (some w.heap.size)) : DKeep w W w' :=
  ⟨fun _ _ _ h => ⟨h.lt, AllC.grown h.all hg (by have := h.lt; omega)⟩, fun v xs h => by
    obtain ⟨base, a, b⟩ := h.own
    exact ⟨base, a, own_pick b hg a⟩⟩
theorem DInv.grow {w W w' : World} {p q : Nat} (h : DInv w p W) (hg : W.grownBy w' (some w.heap.size)) (hr : RdAt w' w.heap.size q) : DInv w q w' :=
  ⟨Below.grow h.below hg (Nat.le_of_lt h.lt) (Nat.le_refl _), hr⟩

theorem pick_D (w : World) (p : Nat) (N : Int) (W : World) (h : DInv w p W) (hp : p < 1000000) (hN : 1 ≤ N) :
    Calls Try.prog 89 #[.pointer (some ⟨w.heap.size, 0, none⟩), .int .i64 N] W fun e w' => ∃ k : Int, 0 ≤ k ∧ k < N ∧ e = .returned (.int .i64 k) ∧ DInv w (p + 1) w' ∧ DKeep w W w' := by
  refine (pick_any _ p N W h.rd hp hN).mono ?_
  rintro e w' ⟨k, k1, k2, rfl, hg, hr⟩
  exact ⟨k, k1, k2, rfl, h.grow hg hr, DKeep.of hg⟩
theorem signal_D (w : World) (p N : Nat) (M : Int) (W : World) (h : DInv w p W) (hp : p < 800000) (hN : N ≤ 40) (HM : M = 0 ∨ (1 ≤ M ∧ M ≤ 1000)) :
    Calls Try.prog 96 #[.pointer (some ⟨w.heap.size, 0, none⟩), .int .i64 N, .int .i64 M] W fun e w' => ∃ (v : Value) (xs : List Num) (q : Nat), e = .returned v ∧ q ≤ p + 500 ∧ xs.length ≤ 41 ∧ DOwn w v xs w' ∧ DInv w q w' ∧ DKeep w W w' := by
  refine (signal_any _ p N M W h.rd hp hN HM).mono ?_
  rintro e w' ⟨v, xs, rfl, _, ho, hl, hg, q, hq, hr⟩
  exact ⟨v, xs, q, rfl, hq, hl, ⟨⟨W.heap.size, h.lt, ho⟩⟩, h.grow hg hr, DKeep.of hg⟩

/-- A drawn signal, and two numbers. -/
def DrawP (w : World) (e : Ending) (w' : World) : Prop :=
  ∃ B c xs m k, e = .returned (.tuple #[.slice B (List.length xs) c, .int .i64 m, .int .i64 k]) ∧ xs.length ≤ c ∧ c ≤ maxLen ∧ Sig w' B xs.length xs ∧ Below w.heap.size w w'
theorem DrawP.mk {w w' : World} {p : Nat} {v : Value} {xs : List Num} {m k : Int} (h4 : xs.length ≤ 41) (ho : DOwn w v xs w') (hi : DInv w p w') :
    DrawP w (.returned (.tuple #[v, .int .i64 m, .int .i64 k])) w' := by
  obtain ⟨base, _, ho⟩ := ho.own
  obtain ⟨B, c, rfl, h5, h6, hsig⟩ := own_form (T := C) (0, 0) ho (by omega)
  exact ⟨B, c, xs, m, k, rfl, h5, h6, Sig.rw hsig, hi.below⟩

end Go.Proofs.Ytcnlgoghnlcndaa
