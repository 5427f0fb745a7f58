/- Rows in memory: what is made by the call, what reads as a list. -/
import Derived.Test.YtcnlgoghnlcndaaT1
import Derived.OwnWalk
namespace Go.Proofs.Ytcnlgoghnlcndaa
open Go.RowKit Ieee

/-- A row of things: at most 100. -/
def Rw {α : Type} (T : α → Value) (d : α) (w : World) (A : Option Addr) (n : Nat) (xs : List α) : Prop :=
  xs.length = n ∧ n ≤ 100 ∧ ∀ k, k < n → ∃ b o, A = some ⟨b, o, none⟩ ∧ b < w.heap.size ∧ w.cell? ⟨b, o + k, none⟩ = some (T (xs.getD k d))

def F32 (a : Nat) : Value := .float .f32 a
def F64 (a : Nat) : Value := .float .f64 a

/-- What a call has made: the value, its elements; nothing else has turned. -/
def Made {α : Type} (E : TypeId) (T : α → Value) (xs : List α) (w : World) (e : Ending) (w' : World) : Prop :=
  ∃ v : Value, e = .returned v ∧ w'.ownsRow w.heap.size E 1 v xs.length (xs.map T) ∧ w.grownBy w' none

theorem own_form {α : Type} {T : α → Value} {w : World} {base n : Nat} {E : TypeId} {v : Value} {xs : List α} (d : α) (h : w.ownsRow base E 1 v n (xs.map T)) (hn : n ≤ 100) :
    ∃ A cap, v = .slice A n cap ∧ n ≤ cap ∧ cap ≤ maxLen ∧ Rw T d w A n xs := by
  have hl : xs.length = n := by have := h.1; simpa using this
  rcases h.2 with ⟨rfl, h0⟩ | ⟨g, cap, cur, rfl, _, hg, hc, hm, _, ht⟩
  · exact ⟨none, 0, by rw [h0], by omega, by unfold maxLen; omega, hl, hn, fun k hk => absurd hk (by omega)⟩
  · refine ⟨_, cap, rfl, hc, hm, hl, hn, fun k hk => ⟨g, 0, rfl, (Array.getElem?_eq_some_iff.1 hg).1, ?_⟩⟩
    have h1 : (xs.map T)[k]? = some (T (xs.getD k d)) := by
      have hk' : k < xs.length := by omega
      simp [List.getD, hk']
    have := h.cells (g := g) rfl k _ h1
    rwa [Addr.add_lit] at this

theorem Made.out {α : Type} {E : TypeId} {T : α → Value} {xs : List α} {w w' : World} {e : Ending} (d : α) (h : Made E T xs w e w') (hn : xs.length ≤ 100) :
    ∃ A cap, e = .returned (.slice A xs.length cap) ∧ xs.length ≤ cap ∧ cap ≤ maxLen ∧ Rw T d w' A xs.length xs ∧ w'.ownsRow w.heap.size E 1 (.slice A xs.length cap) xs.length (xs.map T) ∧ w.grownBy w' none := by
  obtain ⟨v, rfl, ho, hg⟩ := h
  obtain ⟨A, cap, rfl, hc, hm, hr⟩ := own_form d ho hn
  exact ⟨A, cap, rfl, hc, hm, hr, ho, hg⟩

theorem grown_below {w w' : World} (h : w.grownBy w' none) : Below w.heap.size w w' :=
  (Below.refl _ _).grown h (Nat.le_refl _) (fun k hk => by cases hk)
theorem Rw.keep {α : Type} {T : α → Value} {d : α} {w w' : World} {A : Option Addr} {n : Nat} {xs : List α} (h : Rw T d w A n xs) (hb : Below w.heap.size w w') : Rw T d w' A n xs := by
  refine ⟨h.1, h.2.1, fun k hk => ?_⟩
  obtain ⟨b, o, e, hbR, hc⟩ := h.2.2 k hk
  exact ⟨b, o, e, Nat.lt_of_lt_of_le hbR hb.size, (hb.cell (p := ⟨b, o + k, none⟩) hbR).trans hc⟩
theorem Rw.grown {α : Type} {T : α → Value} {d : α} {w w' : World} {A : Option Addr} {n : Nat} {xs : List α} (h : Rw T d w A n xs) (hg : w.grownBy w' none) : Rw T d w' A n xs := h.keep (grown_below hg)
theorem Rw.drewN {α : Type} {T : α → Value} {d : α} {w : World} {A : Option Addr} {n : Nat} {xs : List α} (h : Rw T d w A n xs) (k : Nat) : Rw T d (w.drewN k) A n xs := h
theorem Sig.grown {w w' : World} {A : Option Addr} {n : Nat} {xs : List Num} (h : Sig w A n xs) (hg : w.grownBy w' none) : Sig w' A n xs := h.keep (grown_below hg)
theorem Sig.rw {w : World} {A : Option Addr} {n : Nat} {xs : List Num} (h : Rw C (0, 0) w A n xs) : Sig w A n xs := h

theorem info43 : (Try.prog.info? 43).map (fun i => (i.zero, i.size, i.bytes)) = some (some (.float .f32 0), 1, 4) := by kernel_rfl
theorem info42 : (Try.prog.info? 42).map (fun i => (i.zero, i.size, i.bytes)) = some (some (.float .f64 0), 1, 8) := by kernel_rfl

/-- make([]T, n): n noughts. -/
theorem make_row {α : Type} {T : α → Value} (z : α) {ops : Array Oper} {rest : List Oper} {o : Oper} {a : Act} {Q : Exit → Act → World → Prop} (w : World) (hgd : o.guard = none) (l c : Operand) (t E : TypeId) (by8 : Nat)
    (hop : o.op = .makeSlice t l c) (ht : Try.prog.underlying t = some (.slice E)) (hinfo : (Try.prog.info? E).map (fun i => (i.zero, i.size, i.bytes)) = some (some (T z), 1, by8))
    (hcells : (T z).cells = #[T z]) (h8 : by8 ≤ 16) (L : Int) (n : Nat) (hl : a.eval l = .int .i64 L) (hc : a.eval c = .int .i64 L) (hL : L = (n : Int)) (hn : n ≤ 200)
    (hK : ∀ w', w'.ownsRow w.heap.size E 1 (.slice (some ⟨w.heap.size, 0, none⟩) n n) n ((List.replicate n z).map T) → w.grownBy w' none → wpList Try.prog ops Q rest (a.put o.dst (.slice (some ⟨w.heap.size, 0, none⟩) n n)) w') :
    wpList Try.prog ops Q (o :: rest) a w := by
  obtain ⟨i0, hi, hz0, hz1, hz2⟩ := info_parts hinfo
  refine wpList_make_full w hgd l c t hop w.heap.size E i0 (T z) 1 ht hi hz0 hz1 .i64 .i64 L L n hl hc hL hL ?_ (by unfold maxLen; omega) (Nat.le_refl _) ?_
  · rw [hz2]
    have : by8 * n ≤ 16 * 200 := Nat.mul_le_mul h8 hn
    omega
  · intro w' h1 h2
    refine hK w' ?_ h2
    rw [hcells, Nat.mul_one, toList_madeCells_one] at h1
    rwa [List.map_replicate]

/-- append(out, z). -/
theorem append_row {α : Type} {T : α → Value} {ops : Array Oper} {rest : List Oper} {o : Oper} {a : Act} {Q : Exit → Act → World → Prop} (w : World) (hgd : o.guard = none) (s x : Operand) (t E : TypeId) (z0 : Value) (by8 : Nat)
    (ho : o.op = .call { callee := .builtin .append, args := #[s, x], argTypes := #[t, t] }) (ht : Try.prog.underlying t = some (.slice E)) (hinfo : (Try.prog.info? E).map (fun i => (i.zero, i.size, i.bytes)) = some (some z0, 1, by8))
    (hcells : z0.cells.size = 1) (h8 : by8 ≤ 64) (base : Nat) (v : Value) (n : Nat) (xs : List α) (z : α) (hone : (T z).oneCell' = true)
    (hs : a.eval s = v) (hown : w.ownsRow base E 1 v n (xs.map T)) (hx : a.eval x = .slice (some ⟨w.heap.size, 0, none⟩) 1 1) (hn : n ≤ 200) (hbase : base ≤ w.heap.size)
    (h : ∀ v' w', w'.ownsRow base E 1 v' (n + 1) ((xs ++ [z]).map T) → (w.alloc (.cells #[T z] E)).grownBy w' v.ownBlock → wpList Try.prog ops Q rest (a.put o.dst v') w') :
    wpList Try.prog ops Q (o :: rest) a (w.alloc (.cells #[T z] E)) := by
  obtain ⟨i0, hi, hz0, hz1, hz2⟩ := info_parts hinfo
  refine wpList_append_own _ hgd s x t ho base E i0 z0 1 by8 ht hi hz0 hz1 hz2 hcells (by decide) v n (xs.map T) hs (hown.alloc _) ⟨w.heap.size, 0, none⟩ 1 1 [T z] hx rfl ?_ ?_ ?_ ?_ ?_ ?_
  · intro j u hu
    have hj : j = 0 := by
      rcases Nat.eq_zero_or_pos j with h0 | h0
      · exact h0
      · rw [List.getElem?_eq_none (by simp; omega)] at hu; cases hu
    subst hj
    rw [Addr.add_lit]
    have := cell_of_row (w.alloc (.cells #[T z] E)) w.heap.size 0 #[T z] E (0, 0) (heap_alloc_new w _)
    simp at hu
    subst hu
    exact this
  · intro u hu
    simp at hu
    subst hu
    exact hone
  · unfold maxLen; omega
  · have : (n + 1) * by8 ≤ 201 * 64 := Nat.mul_le_mul (by omega) h8
    omega
  · simp; omega
  · intro v' w' h1 h2 _
    refine h v' w' ?_ h2
    rw [List.map_append]
    exact h1
end Go.Proofs.Ytcnlgoghnlcndaa
