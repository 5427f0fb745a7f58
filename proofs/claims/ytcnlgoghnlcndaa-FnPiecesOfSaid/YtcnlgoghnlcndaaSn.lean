/- Walks: WithNoughts (impl and spec). -/
import Derived.Test.YtcnlgoghnlcndaaSg
import Derived.Laws.CopyOwn
namespace Go.Proofs.Ytcnlgoghnlcndaa
open Go.RowKit Ieee

theorem below_grows {w w' : World} (h : Below w.heap.size w w') : w.grownBy w' none := ⟨h.os, h.tape, h.output, h.size, fun k hk _ => h.block k hk⟩
theorem size34 : (Try.prog.info? 34).map (·.size) = some 1 := by kernel_rfl

/-- A signal with noughts behind it. -/
def noughts (xs : List Num) (m : Nat) : List Num := xs ++ List.replicate (m - xs.length) (0, 0)
def nouOk (xs : List Num) (m : Int) : Bool := sigOk xs && decide ((xs.length : Int) ≤ m) && decide (m ≤ 16)
theorem noughts_length {xs : List Num} {m : Nat} (h : xs.length ≤ m) : (noughts xs m).length = m := by unfold noughts; simp; omega

theorem sigOk_parts {xs : List Num} (h : sigOk xs = true) : xs.length ≤ 16 ∧ xs.all finN = true := by
  unfold sigOk at h; simpa using h
theorem C_one (z : Num) : (C z).oneCell' = true := rfl

/-- copy(longer, x): the first numbers of a row of noughts. -/
theorem own_splice {w w' : World} {base g n : Nat} {xs : List Num} (h : w.ownsRow base 34 1 (.slice (some ⟨g, 0, none⟩) n n) n ((List.replicate n ((0, 0) : Num)).map C)) (hx : xs.length ≤ n)
    (hw : w'.heap[g]? = some (.cells (splice ((List.replicate n ((0, 0) : Num)).map C) 0 (xs.map C)).toArray 34 (0, 0))) :
    w'.ownsRow base 34 1 (.slice (some ⟨g, 0, none⟩) n n) n ((noughts xs n).map C) := by
  have e : splice ((List.replicate n ((0, 0) : Num)).map C) 0 (xs.map C) = (noughts xs n).map C := by
    unfold splice noughts
    simp
  rw [e] at hw
  rcases h.2 with ⟨hv, _⟩ | ⟨g', cap', cur, hv, hb, hg, hnc, hcm, hcs, _⟩
  · cases hv
  · cases hv
    have hl := noughts_length hx
    refine ⟨by simp [hl], .inr ⟨g, n, _, rfl, hb, hw, Nat.le_refl _, hcm, by simp [hl], ?_⟩⟩
    rw [List.take_of_length_le (by simp [hl])]
theorem own_block {w : World} {base g n : Nat} {xs : List Value} (h : w.ownsRow base 34 1 (.slice (some ⟨g, 0, none⟩) n n) n xs) : w.heap[g]? = some (.cells xs.toArray 34 (0, 0)) := by
  rcases h.2 with ⟨hv, _⟩ | ⟨g', cap', cur, hv, hb, hg, hnc, hcm, hcs, ht⟩
  · cases hv
  · cases hv
    rw [List.take_of_length_le (by rw [Array.length_toList]; omega)] at ht
    rw [← ht]
    simpa using hg

theorem wn_facts {w w1 : World} {d n m : Nat} {A : Option Addr} {xs : List Num} (h : Sig w A n xs) (ho : w1.ownsRow (w.drewN d).heap.size 34 1 (.slice (some ⟨(w.drewN d).heap.size, 0, none⟩) m m) m ((List.replicate m ((0, 0) : Num)).map C)) (hg : (w.drewN d).grownBy w1 none) :
    Hid (Sig w1 A n xs) ∧ Hid (w1.heap[w.heap.size]? = some (.cells ((List.replicate m ((0, 0) : Num)).map C).toArray 34 (0, 0))) ∧ Hid (w1.ownsRow w.heap.size 34 1 (.slice (some ⟨w.heap.size, 0, none⟩) m m) m ((List.replicate m ((0, 0) : Num)).map C)) ∧ Below w.heap.size w w1 :=
  have hb : Below w.heap.size w w1 := grown_below ⟨hg.os, hg.tape, hg.output, hg.size, hg.block⟩
  ⟨h.keep hb, own_block ho, ho, hb⟩

set_option maxRecDepth 100000 in
set_option maxHeartbeats 2000000 in
theorem WithNoughts_yes (A : Option Addr) (n cap m : Nat) (xs : List Num) (w : World) (h : Sig w A n xs) (hs : sigOk xs = true) (h1 : n ≤ m) (h2 : m ≤ 16) :
    Calls Try.prog 43 #[.slice A n cap, .int .i64 m] w (Made 34 C (noughts xs m) w) := by
  have hl := h.1
  have H := Lib.hid h
  have HS := Lib.hid hs
  have HL := Lib.hid hl
  clear h hs hl
  go_enter Try.func43, Try.ntmps43
  go_wp2_with fail
  refine (SignalOk_any _ _ _ _ _ H.out).mono ?_
  rw [HS.out]
  rintro e w' ⟨rfl, d, rfl⟩
  go_wp2_with (first | (at_make; go_must (refine make_row (T := C) (0, 0) _ rfl _ _ 37 34 8 rfl Try.underlying37 info34 rfl (by decide) m m rfl rfl rfl (by omega) ?_); intro w1 ho hg; obtain ⟨HSG, HB, HO, HLE⟩ := wn_facts H.out ho hg; clear ho hg) | (with_reducible refine wpList_copy_splice rfl (.tmp 21) (.tmp 22) 37 37 rfl 34 Try.underlying37 size34 _ _ _ _ _ _ rfl rfl w.heap.size 0 _ 34 HB.out (xs.map C) ?_ ?_ ?_ ?_ w.heap.size w HLE (Nat.le_refl _) ?_))
  · rw [List.length_map, HL.out]; exact (Nat.min_eq_left h1).symm
  · intro hpos
    obtain ⟨b, o, e, hb1, hcc⟩ := HSG.out.2.2 0 (by have := HL.out; omega)
    refine ⟨⟨b, o, none⟩, e, fun j v x y hv hC => ?_⟩
    have hj : j < xs.length := (List.getElem?_eq_some_iff.1 hv).1
    obtain ⟨b', o', e', hb1', hcc'⟩ := HSG.out.2.2 j (by have := HL.out; omega)
    rw [e] at e'
    cases e'
    rw [Addr.add_lit, hcc']
    have : xs.getD j (0, 0) = (x, y) := by simp [List.getD, hv]
    rw [this, hC]
  · simp [HL.out]; omega
  · intro v hv
    obtain ⟨z, _, rfl⟩ := List.mem_map.1 hv
    rfl
  · intro w2 hw2 hbl2
    have hown := own_splice HO.out (xs := xs) (by have := HL.out; omega) (by rw [List.map_replicate]; exact hw2.out)
    clear HO HB
    go_wp2_with fail
    go_ret
    refine ⟨_, rfl, ?_, below_grows hbl2⟩
    rw [noughts_length (by have := HL.out; omega)]
    exact hown

theorem nouOk_no {xs : List Num} {m : Int} (h : nouOk xs m = false) (hs : sigOk xs = true) : ¬ ((xs.length : Int) ≤ m ∧ m ≤ 16) := by
  unfold nouOk at h
  rw [hs] at h
  simp only [Bool.true_and, Bool.and_eq_false_iff, decide_eq_false_iff_not] at h
  omega

set_option maxRecDepth 100000 in
set_option maxHeartbeats 2000000 in
theorem WithNoughts_no (A : Option Addr) (n cap : Nat) (m : Int) (xs : List Num) (w : World) (h : Sig w A n xs) (hno : nouOk xs m = false) :
    Calls Try.prog 43 #[.slice A n cap, .int .i64 m] w fun e w' => e = .returned (.slice none 0 0) ∧ ∃ d, w.drewN d = w' := by
  have hl := h.1
  rcases Bool.eq_false_or_eq_true (sigOk xs) with hs | hs
  · have h3 := nouOk_no hno hs
    rw [hl] at h3
    have HS := Lib.hid hs
    have H := Lib.hid h
    clear hs hl h hno
    by_cases h4 : m < n
    · go_enter Try.func43, Try.ntmps43
      go_wp2_with fail
      refine (SignalOk_any _ _ _ _ _ H.out).mono ?_
      rw [HS.out]
      rintro e w' ⟨rfl, d, rfl⟩
      go_wp2_with fail
      go_ret
      exact ⟨rfl, _, rfl⟩
    · have h5 : 16 < m := by omega
      go_enter Try.func43, Try.ntmps43
      go_wp2_with fail
      refine (SignalOk_any _ _ _ _ _ H.out).mono ?_
      rw [HS.out]
      rintro e w' ⟨rfl, d, rfl⟩
      go_wp2_with fail
      go_ret
      exact ⟨rfl, _, rfl⟩
  · have HS := Lib.hid hs
    have H := Lib.hid h
    clear hs hl h hno
    go_enter Try.func43, Try.ntmps43
    go_wp2_with fail
    refine (SignalOk_any _ _ _ _ _ H.out).mono ?_
    rw [HS.out]
    rintro e w' ⟨rfl, d, rfl⟩
    go_wp2_with fail
    go_ret
    exact ⟨rfl, _, rfl⟩

theorem made_nil_drew {α : Type} (E : TypeId) (T : α → Value) (w : World) (d : Nat) : Made E T [] w (.returned (.slice (some ⟨w.heap.size, 0, none⟩) 0 0)) ((w.alloc (.cells #[] E)).drewN d) :=
  ⟨_, rfl, World.ownsRow_made w #[] 0 (Nat.le_refl _) (Nat.zero_le _) rfl, grown_drewN (World.grownBy_alloc w _ _) d⟩

set_option maxRecDepth 100000 in
set_option maxHeartbeats 2000000 in
theorem sWithNoughts_no (A : Option Addr) (n cap : Nat) (m : Int) (xs : List Num) (w : World) (h : Sig w A n xs) (hno : nouOk xs m = false) :
    Calls Try.prog 45 #[.slice A n cap, .int .i64 m] w (Made 34 C [] w) := by
  have hl := h.1
  have HN := fun d => Lib.hid (made_nil_drew 34 C w d)
  rcases Bool.eq_false_or_eq_true (sigOk xs) with hs | hs
  · have h3 := nouOk_no hno hs
    rw [hl] at h3
    have HS := Lib.hid hs
    have H := Lib.hid h
    clear hs hl h hno
    go_enter Try.func45, Try.ntmps45
    go_wp2_with fail
    refine (sSignalOk_any _ _ _ _ _ H.out).mono ?_
    rw [HS.out]
    rintro e w' ⟨rfl, d, rfl⟩
    go_wp2_with fail
    refine (l1In_no _ _ _ _ h3).mono ?_
    rintro e w' ⟨rfl, rfl⟩
    go_wp2_with fail
    go_ret
    exact (HN d).out
  · have HS := Lib.hid hs
    have H := Lib.hid h
    clear hs hl h hno
    go_enter Try.func45, Try.ntmps45
    go_wp2_with fail
    refine (sSignalOk_any _ _ _ _ _ H.out).mono ?_
    rw [HS.out]
    rintro e w' ⟨rfl, d, rfl⟩
    go_wp2_with fail
    go_ret
    exact (HN d).out

/-- The state of spec's loop: k numbers are copied. -/
def CopySt (xs : List Num) (m : Nat) (w : World) (k : Nat) (wr : World) : Prop :=
  wr.ownsRow w.heap.size 34 1 (.slice (some ⟨w.heap.size, 0, none⟩) m m) m ((xs.take k ++ List.replicate (m - k) ((0, 0) : Num)).map C) ∧ w.grownBy wr none
theorem copy_set {xs : List Num} {k m : Nat} (hk : k < xs.length) (hm : xs.length ≤ m) : (xs.take k ++ List.replicate (m - k) ((0, 0) : Num)).set k (xs.getD k (0, 0)) = xs.take (k + 1) ++ List.replicate (m - (k + 1)) (0, 0) := by
  have e : xs.getD k (0, 0) = xs[k] := by simp [List.getD, hk]
  have e2 : m - k = (m - (k + 1)) + 1 := by omega
  have hlen : (xs.take k).length = k := by simp; omega
  rw [e, e2, List.replicate_succ, List.take_succ_eq_append_getElem hk, List.append_assoc, List.set_append_right _ _ (by omega), hlen, Nat.sub_self]
  rfl
theorem CopySt.step {xs : List Num} {m k : Nat} {w wr : World} (h : CopySt xs m w k wr) (hk : k < xs.length) (hm : xs.length ≤ m) : CopySt xs m w (k + 1) (wr.setCell ⟨w.heap.size, k, none⟩ (C (xs.getD k (0, 0)))) := by
  obtain ⟨h1, h2⟩ := h.1.stored k (C (xs.getD k (0, 0)))
  refine ⟨?_, gr_own0 h.2 h2 (fun g e => by cases e; exact Nat.le_refl _)⟩
  rw [← copy_set hk hm, List.map_set]
  exact h1
theorem CopySt.cell {xs : List Num} {m k : Nat} {w wr : World} (h : CopySt xs m w k wr) (j : Nat) (hj : j < m) :
    (∃ u, wr.cell? ⟨w.heap.size, j, none⟩ = some u) ∧ wr.frozen? ⟨w.heap.size, j, none⟩ = false := by
  refine ⟨?_, h.1.frozenAt j⟩
  have := h.1.cellAt j (by omega)
  have hlen : j < ((xs.take k ++ List.replicate (m - k) ((0, 0) : Num)).map C).length := by have := h.1.1; omega
  exact ⟨_, this.trans (List.getElem?_eq_getElem hlen)⟩

set_option maxRecDepth 100000 in
set_option maxHeartbeats 4000000 in
theorem sWithNoughts_yes (A : Option Addr) (n cap m : Nat) (xs : List Num) (w : World) (h : Sig w A n xs) (hs : sigOk xs = true) (h1 : n ≤ m) (h2 : m ≤ 16) :
    Calls Try.prog 45 #[.slice A n cap, .int .i64 m] w (Made 34 C (noughts xs m) w) := by
  have hl := h.1
  have H := Lib.hid h
  have HS := Lib.hid hs
  have HL := Lib.hid hl
  clear h hs hl
  go_enter Try.func45, Try.ntmps45
  go_wp2_with fail
  refine (sSignalOk_any _ _ _ _ _ H.out).mono ?_
  rw [HS.out]
  rintro e w' ⟨rfl, d, rfl⟩
  go_wp2_with fail
  refine (l1In_yes _ _ _ _ (by omega) (by omega)).mono ?_
  rintro e w' ⟨rfl, rfl⟩
  go_wp2_with (at_make; go_must (refine make_row (T := C) (0, 0) _ rfl _ _ 37 34 8 rfl Try.underlying37 info34 rfl (by decide) m m rfl rfl rfl (by omega) ?_); intro w1 ho hg; have hst : CopySt xs m w 0 w1 := ⟨by simpa using ho, ⟨hg.os, hg.tape, hg.output, hg.size, hg.block⟩⟩; clear ho hg)
  go_loopw [6] (fun i wr => ∃ k : Nat, k ≤ n ∧ i = .int .i64 k ∧ CopySt xs m w k wr) (fun i _ => n - (intOf i).toNat)
  case atStart => exact ⟨0, Nat.zero_le _, rfl, hst⟩
  case round =>
    obtain ⟨k, hk, rfl, h⟩ := hrel
    clear hst
    by_cases hlt : k < n
    · have hsig := H.out.keep (grown_below h.2)
      obtain ⟨b, o, rfl, hbs, hcell⟩ := hsig.2.2 k hlt
      obtain ⟨⟨u, hu⟩, hf⟩ := h.cell k (by omega)
      have hs2 := h.step (by have := HL.out; omega) (by have := HL.out; omega)
      clear hsig
      obtain ⟨p, q, hpq⟩ : ∃ p q, xs.getD k (0, 0) = (p, q) := ⟨_, _, rfl⟩
      rw [hpq] at hcell hs2
      unfold C at hcell
      simp only at hcell
      have HS2 := Lib.hid hs2
      clear hpq hs2
      go_wp2_with fail
      go_roundw
      case rel => exact ⟨k + 1, by omega, by go_num, HS2.out⟩
      case measure => simp [intOf]; omega
    · go_wp2_with fail
      go_ret
      refine ⟨_, rfl, ?_, h.2⟩
      rw [noughts_length (by have := HL.out; omega)]
      have h3 := h.1
      rw [List.take_of_length_le (by have := HL.out; omega)] at h3
      have e : noughts xs m = xs ++ List.replicate (m - k) (0, 0) := by unfold noughts; congr 2; have := HL.out; omega
      rw [e]
      exact h3
end Go.Proofs.Ytcnlgoghnlcndaa
