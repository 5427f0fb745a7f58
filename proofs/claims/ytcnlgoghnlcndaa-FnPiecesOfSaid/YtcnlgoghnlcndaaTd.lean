/- Walks: PiecesOf (impl and spec).; Walk: PiecesOf (spec) -/
import Derived.Test.YtcnlgoghnlcndaaTa
import Derived.Test.YtcnlgoghnlcndaaPc
import Derived.Test.YtcnlgoghnlcndaaWt
import Derived.Deep.AppendLies
import Derived.WalkMore
namespace Go.Proofs.Ytcnlgoghnlcndaa
open Go.RowKit Ieee

theorem info37 : (Try.prog.info? 37).map (fun i => (i.zero, i.size, i.bytes)) = some (some (.slice none 0 0), 1, 24) := by kernel_rfl

theorem alloc_sizeT (w : World) (o : Obj) : (w.alloc o).heap.size = w.heap.size + 1 := by simp
/-- append(out, piece), and where the row lies behind it. -/
theorem append_lies_slc {ops : Array Oper} {rest : List Oper} {o : Oper} {a : Act} {Q : Exit → Act → World → Prop} (w : World) (hgd : o.guard = none) (s x : Operand)
    (ho : o.op = .call { callee := .builtin .append, args := #[s, x], argTypes := #[67, 67] })
    (base : Nat) (v : Value) (n : Nat) (xs : List Value) (z : Value) (hz : z.oneCell' = true)
    (hs : a.eval s = v) (hown : w.ownsRow base 37 1 v n xs) (hx : a.eval x = .slice (some ⟨w.heap.size, 0, none⟩) 1 1) (hn : n ≤ 200) (hbase : base ≤ w.heap.size)
    (h : ∀ gg cap w', w'.ownsRow base 37 1 (.slice (some ⟨gg, 0, none⟩) (n + 1) cap) (n + 1) (xs ++ [z]) → (w.alloc (.cells #[z] 37)).grownBy w' v.ownBlock → (v.ownBlock = some gg ∨ gg = w.heap.size + 1) → gg < w'.heap.size →
      wpList Try.prog ops Q rest (a.put o.dst (.slice (some ⟨gg, 0, none⟩) (n + 1) cap)) w') :
    wpList Try.prog ops Q (o :: rest) a (w.alloc (.cells #[z] 37)) := by
  obtain ⟨i0, hi, hz0, hz1, hz2⟩ := info_parts info37
  exact wpList_append_lies (w.alloc (.cells #[z] 37)) hgd s x 67 ho base 37 i0 (.slice none 0 0) 1 24 Try.underlying67 hi hz0 hz1 hz2 (by rfl) (by decide) v n xs hs (hown.alloc _) ⟨w.heap.size, 0, none⟩ 1 1 [z] hx rfl
    (World.news_of_block (cs := #[z]) (t := 37) (fr := (0, 0)) (heap_alloc_new w _)) (by intro u hu; simp at hu; subst hu; exact hz) (by decide) (by unfold maxLen; omega) (by omega)
    (by rw [alloc_sizeT]; omega) (w.heap.size + 1) (alloc_sizeT _ _) h

theorem Sig.far {w w' : World} {b n g : Nat} {xs : List Num} (h : Sig w (some ⟨b, 0, none⟩) n xs) (hg : w.grownBy w' (some g)) (hne : b ≠ g) : Sig w' (some ⟨b, 0, none⟩) n xs := by
  refine ⟨h.1, h.2.1, fun k hk => ?_⟩
  obtain ⟨b', o', e, hb, hc⟩ := h.2.2 k hk
  cases e
  refine ⟨b, 0, rfl, Nat.lt_of_lt_of_le hb hg.size, ?_⟩
  rw [hg.cell_far _ hb (by simpa using hne)]
  exact hc

theorem Sig.farO {w w' : World} {b n : Nat} {r : Option Nat} {xs : List Num} (h : Sig w (some ⟨b, 0, none⟩) n xs) (hg : w.grownBy w' r) (hne : some b ≠ r) : Sig w' (some ⟨b, 0, none⟩) n xs := by
  refine ⟨h.1, h.2.1, fun k hk => ?_⟩
  obtain ⟨b', o', e, hb, hc⟩ := h.2.2 k hk
  cases e
  refine ⟨b, 0, rfl, Nat.lt_of_lt_of_le hb hg.size, ?_⟩
  rw [hg.cell_far _ hb hne]
  exact hc

def updP (f : Nat → List Num) (k : Nat) (xs : List Num) (j : Nat) : List Num := if j = k then xs else f j
theorem updP_self (f : Nat → List Num) (k : Nat) : updP f k (f k) = f := by
  funext j
  unfold updP
  split
  · next e => rw [e]
  · rfl
/-- A row of slices that grows, each of them elsewhere, all behind a block B0. -/
def PcD (f : Nat → List Num) (B0 : Nat) (v : Value) (k : Nat) (wr : World) : Prop :=
  ∃ g c vs, v = .slice (some ⟨g, 0, none⟩) k c ∧ g < wr.heap.size ∧ wr.ownsRow B0 37 1 v k vs ∧
    ∀ j, j < k → ∃ b c', vs[j]? = some (.slice (some ⟨b, 0, none⟩) (f j).length c') ∧ b ≠ g ∧ B0 ≤ b ∧ b < wr.heap.size ∧ (f j).length ≤ c' ∧ c' ≤ maxLen ∧ Sig wr (some ⟨b, 0, none⟩) (f j).length (f j)
theorem PcD.grow {f : Nat → List Num} {B0 : Nat} {wr w' : World} {v : Value} {k : Nat} {r : Option Nat} (h : PcD f B0 v k wr) (hg : wr.grownBy w' r) (hr : ∀ R, r = some R → R < B0) : PcD f B0 v k w' := by
  obtain ⟨g, c, vs, rfl, hl, ho, hall⟩ := h
  have hgb : B0 ≤ g := own_ge ho g rfl
  refine ⟨g, c, vs, rfl, Nat.lt_of_lt_of_le hl hg.size, ho.kept hg (.inr (fun e => by have := hr g e.symm; omega)), fun j hj => ?_⟩
  obtain ⟨b, c', h1, h2, h2', h3, h4, h5, h6⟩ := hall j hj
  exact ⟨b, c', h1, h2, h2', Nat.lt_of_lt_of_le h3 hg.size, h4, h5, h6.farO hg (fun e => by have := hr b e.symm; omega)⟩
theorem PcD.start {f : Nat → List Num} (w : World) : PcD f w.heap.size (.slice (some ⟨w.heap.size, 0, none⟩) 0 0) 0 (w.alloc (.cells #[] 37)) :=
  ⟨w.heap.size, 0, [], rfl, by rw [alloc_sizeT]; omega, World.ownsRow_made w #[] 0 (Nat.le_refl _) (Nat.zero_le _) rfl, fun j hj => absurd hj (by omega)⟩
theorem PcD.own {f : Nat → List Num} {B0 : Nat} {wr : World} {v : Value} {k : Nat} (h : PcD f B0 v k wr) : ∃ vs, wr.ownsRow B0 37 1 v k vs ∧
    ∀ (w' : World) (xs : List Num) (b c gg cap : Nat), some b ≠ v.ownBlock → B0 ≤ b → b < wr.heap.size → xs.length ≤ c → c ≤ maxLen → Sig wr (some ⟨b, 0, none⟩) xs.length xs →
      w'.ownsRow B0 37 1 (.slice (some ⟨gg, 0, none⟩) (k + 1) cap) (k + 1) (vs ++ [.slice (some ⟨b, 0, none⟩) xs.length c]) →
      (wr.alloc (.cells #[.slice (some ⟨b, 0, none⟩) xs.length c] 37)).grownBy w' v.ownBlock → (v.ownBlock = some gg ∨ gg = wr.heap.size + 1) → gg < w'.heap.size →
      PcD (updP f k xs) B0 (.slice (some ⟨gg, 0, none⟩) (k + 1) cap) (k + 1) w' := by
  obtain ⟨g, c0, vs, rfl, hl, ho, hall⟩ := h
  refine ⟨vs, ho, fun w' xs b c gg cap hne hb1 hb2 hc1 hc2 hsig ho' hg' hor hlt => ?_⟩
  have hvl : vs.length = k := by have := ho.1; simpa using this
  have hb : (Value.slice (some ⟨g, 0, none⟩) k c0).ownBlock = some g := rfl
  rw [hb] at hg' hor hne
  have hs2 := hg'.size
  rw [alloc_sizeT] at hs2
  have hbg : b ≠ g := fun e => hne (by rw [e])
  have hgg : gg = g ∨ gg = wr.heap.size + 1 := by
    rcases hor with h | h
    · left; cases h; rfl
    · exact .inr h
  have hga : wr.grownBy (wr.alloc (.cells #[.slice (some ⟨b, 0, none⟩) xs.length c] 37)) none := grown_alloc (grown_refl _ _) _
  refine ⟨gg, cap, _, rfl, hlt, ho', fun j hj => ?_⟩
  rcases Nat.lt_or_ge j k with hjk | hjk
  · obtain ⟨b', c', h1, h2, h2', h3, h4, h5, h6⟩ := hall j hjk
    have e : updP f k xs j = f j := if_neg (by omega)
    rw [e]
    refine ⟨b', c', ?_, by omega, h2', by omega, h4, h5, (h6.grown hga).far hg' h2⟩
    rw [List.getElem?_append_left (by omega)]
    exact h1
  · obtain rfl : j = k := by omega
    have e : updP f j xs j = xs := if_pos rfl
    rw [e]
    refine ⟨b, c, ?_, by omega, hb1, by omega, hc1, hc2, (hsig.grown hga).far hg' hbg⟩
    rw [List.getElem?_append_right (by omega), hvl, Nat.sub_self]
    rfl
theorem PcD.pcs {f : Nat → List Num} {B0 : Nat} {wr : World} {v : Value} {k : Nat} (h : PcD f B0 v k wr) (hk : k ≤ 100) :
    ∃ B c, v = .slice B k c ∧ k ≤ c ∧ c ≤ maxLen ∧ Pcs wr B k ((List.range k).map f) := by
  obtain ⟨g, c, vs, rfl, hl, ho, hall⟩ := h
  have hc : k ≤ c ∧ c ≤ maxLen := by
    rcases ho.2 with ⟨h', _⟩ | ⟨g', cap', cur, h', _, _, hh1, hh2, _⟩
    · simp at h'
    · simp only [Value.slice.injEq, Option.some.injEq, Addr.mk.injEq, and_true, true_and] at h'
      obtain ⟨_, rfl⟩ := h'
      exact ⟨hh1, hh2⟩
  refine ⟨_, c, rfl, hc.1, hc.2, by simp, hk, fun j hj => ?_⟩
  obtain ⟨b, c', h1, h2, _, h3, h4, h5, h6⟩ := hall j hj
  have e : ((List.range k).map f).getD j [] = f j := by simp [List.getD, hj]
  rw [e]
  refine ⟨g, 0, _, c', rfl, hl, ?_, h4, h5, h6⟩
  rw [Nat.zero_add, ho.cellAt j (by omega)]
  exact h1

/-- .. and nothing else has turned. -/
def PcSt (f : Nat → List Num) (w : World) (v : Value) (k : Nat) (wr : World) : Prop := PcD f w.heap.size v k wr ∧ w.grownBy wr none
theorem PcSt.grow {f : Nat → List Num} {w wr w' : World} {v : Value} {k : Nat} (h : PcSt f w v k wr) (hg : wr.grownBy w' none) : PcSt f w v k w' :=
  ⟨h.1.grow hg (fun R e => by cases e), grown_trans h.2 hg⟩
theorem PcSt.gr {f : Nat → List Num} {w wr : World} {v : Value} {k : Nat} (h : PcSt f w v k wr) : w.grownBy wr none := h.2
theorem PcSt.start {f : Nat → List Num} {w wr : World} {g c : Nat} (ho : wr.ownsRow w.heap.size 37 1 (.slice (some ⟨g, 0, none⟩) 0 c) 0 []) (hl : g < wr.heap.size) (hg : w.grownBy wr none) : PcSt f w (.slice (some ⟨g, 0, none⟩) 0 c) 0 wr :=
  ⟨⟨g, c, [], rfl, hl, ho, fun j hj => absurd hj (by omega)⟩, hg⟩
theorem PcD.own_lt {f : Nat → List Num} {B0 : Nat} {wr : World} {v : Value} {k : Nat} (h : PcD f B0 v k wr) : ∀ b, v.ownBlock = some b → b < wr.heap.size := by
  obtain ⟨g, c, vs, rfl, hl, _, _⟩ := h
  intro b e
  cases e
  exact hl
theorem PcSt.own {f : Nat → List Num} {w wr : World} {v : Value} {k : Nat} (h : PcSt f w v k wr) : ∃ vs, wr.ownsRow w.heap.size 37 1 v k vs ∧
    ∀ (w' : World) (b c gg cap : Nat), some b ≠ v.ownBlock → w.heap.size ≤ b → b < wr.heap.size → (f k).length ≤ c → c ≤ maxLen → Sig wr (some ⟨b, 0, none⟩) (f k).length (f k) →
      w'.ownsRow w.heap.size 37 1 (.slice (some ⟨gg, 0, none⟩) (k + 1) cap) (k + 1) (vs ++ [.slice (some ⟨b, 0, none⟩) (f k).length c]) →
      (wr.alloc (.cells #[.slice (some ⟨b, 0, none⟩) (f k).length c] 37)).grownBy w' v.ownBlock → (v.ownBlock = some gg ∨ gg = wr.heap.size + 1) → gg < w'.heap.size →
      PcSt f w (.slice (some ⟨gg, 0, none⟩) (k + 1) cap) (k + 1) w' := by
  obtain ⟨vs, ho, hs⟩ := h.1.own
  refine ⟨vs, ho, fun w' b c gg cap h1 h2 h3 h4 h5 h6 h7 h8 h9 h10 => ⟨?_, gr_own0 (grown_alloc h.2 _) h8 (own_ge ho)⟩⟩
  have := hs w' (f k) b c gg cap h1 h2 h3 h4 h5 h6 h7 h8 h9 h10
  rwa [updP_self] at this
/-- The row is one of pieces. -/
theorem PcSt.pcs {f : Nat → List Num} {w wr : World} {v : Value} {k : Nat} (h : PcSt f w v k wr) (hk : k ≤ 100) :
    ∃ B c, v = .slice B k c ∧ k ≤ c ∧ c ≤ maxLen ∧ Pcs wr B k ((List.range k).map f) ∧ ∀ R w'', R < w.heap.size → wr.grownBy w'' (some R) → Pcs w'' B k ((List.range k).map f) := by
  obtain ⟨B, c, rfl, a1, a2, a3⟩ := h.1.pcs hk
  refine ⟨B, c, rfl, a1, a2, a3, fun R w'' hR hg => ?_⟩
  obtain ⟨B', c', e, _, _, b3⟩ := (h.1.grow hg (fun R' e => by cases e; exact hR)).pcs hk
  cases e
  exact b3

/-! What PiecesOf hands back. -/
def psF (xs : List Num) (kd : Int) (h : Nat) (j : Nat) : List Num := wdL (pieceL xs (j * h) (2 * h)) kd
def psL (xs : List Num) (kd : Int) (h : Nat) : List (List Num) := (List.range (xs.length / h)).map (psF xs kd h)
def pOk (xs : List Num) (kd pt : Int) : Bool := sigOk xs && winOk kd pt && decide (1 ≤ xs.length) && decide ((xs.length : Int) % (pt / 2) = 0)
def PcsYes (ps : List (List Num)) (w : World) (e : Ending) (w' : World) : Prop :=
  ∃ B c, e = .returned (.tuple #[.slice B ps.length c, .bool true]) ∧ ps.length ≤ c ∧ c ≤ maxLen ∧ Pcs w' B ps.length ps ∧ w.grownBy w' none ∧ ∀ R w'', R < w.heap.size → w'.grownBy w'' (some R) → Pcs w'' B ps.length ps
def PcsRes (xs : List Num) (kd pt : Int) (w : World) (e : Ending) (w' : World) : Prop :=
  (pOk xs kd pt = false ∧ TogNo w e w') ∨ (pOk xs kd pt = true ∧ PcsYes (psL xs kd (pt / 2).toNat) w e w')
theorem psF_len (xs : List Num) (kd : Int) (h j : Nat) : (psF xs kd h j).length = 2 * h := by unfold psF; rw [wdL_length]; simp [pieceL]
theorem piece_fin {xs : List Num} (h : sigOk xs = true) (hn : 1 ≤ xs.length) {f m : Nat} (hm : m ≤ 16) : sigOk (pieceL xs f m) = true := by
  unfold sigOk
  simp only [Bool.and_eq_true, decide_eq_true_eq]
  refine ⟨by simp [pieceL, hm], ?_⟩
  rw [List.all_eq_true]
  intro v hv
  obtain ⟨i, _, rfl⟩ := List.mem_map.1 hv
  exact fin_atT (sigOk_parts h).2 (Nat.mod_lt _ (by omega))
theorem TogNo.nil {w w' : World} (hg : w.grownBy w' none) : TogNo w (.returned (.tuple #[.slice none 0 0, .bool false])) w' := ⟨none, 0, rfl, Nat.zero_le _, hg⟩
theorem TogNo.emp {w w' : World} (hg : w.grownBy w' none) (b : Nat) : TogNo w (.returned (.tuple #[.slice (some ⟨b, 0, none⟩) 0 0, .bool false])) w' := ⟨_, 0, rfl, Nat.zero_le _, hg⟩
theorem rem_nz {n h : Nat} : ((n : Int) % (h : Int) = 0) ↔ n % h = 0 := by
  constructor
  · intro q; exact_mod_cast q
  · intro q; exact_mod_cast q

set_option maxRecDepth 100000 in
set_option maxHeartbeats 8000000 in
theorem PiecesOf_any (A : Option Addr) (n cap : Nat) (kd pt : Int) (xs : List Num) (w : World) (hx : Sig w A n xs) :
    Calls Try.prog 82 #[.slice A n cap, .int .i64 kd, .int .i64 pt] w (PcsRes xs kd pt w) := by
  have hl := hx.1
  have H := Lib.hid hx
  have HL := Lib.hid hl
  clear hx hl
  rcases Bool.eq_false_or_eq_true (sigOk xs) with hs | hs
  rotate_left
  · have HN : Hid (pOk xs kd pt = false) := Lib.hid (by unfold pOk; rw [hs]; rfl)
    have HS := Lib.hid hs
    clear hs
    go_enter Try.func82, Try.ntmps82
    go_wp2_with fail
    refine (SignalOk_any _ _ _ _ _ H.out).mono ?_
    rw [HS.out]
    rintro e w' ⟨rfl, d, rfl⟩
    go_wp2_with fail
    go_ret2
    exact .inl ⟨HN.out, TogNo.nil (grown_drewN (grown_refl _ _) _)⟩
  have HS := Lib.hid hs
  rcases Bool.eq_false_or_eq_true (winOk kd pt) with hw | hw
  rotate_left
  · have HN : Hid (pOk xs kd pt = false) := Lib.hid (by unfold pOk; rw [hw, Bool.and_false]; rfl)
    have HW := Lib.hid hw
    clear hs hw
    have hnl := fun W : World => Lib.run_eql_slice_nil (P := Try.prog) W 29 43 none 0 0 0 0 Try.underlying29
    go_enter Try.func82, Try.ntmps82
    go_wp2_with fail
    refine (SignalOk_any _ _ _ _ _ H.out).mono ?_
    rw [HS.out]
    rintro e w' ⟨rfl, d, rfl⟩
    go_wp2_with fail
    refine (WindowOf_no _ _ _ HW.out).mono ?_
    rintro e w' ⟨rfl, rfl⟩
    go_wp2_with fail
    go_ret2
    exact .inl ⟨HN.out, TogNo.nil (grown_drewN (grown_refl _ _) _)⟩
  obtain ⟨hkd, m, rfl, hms⟩ := winOk_in hw
  have HW := Lib.hid hw
  have HWL : Hid ((winL kd m).length = m) := Lib.hid (by simp [winL])
  obtain ⟨h, hh2, hh1, hh8⟩ : ∃ h : Nat, m = 2 * h ∧ 1 ≤ h ∧ h ≤ 8 := by
    rcases sizes_of hms with e | e | e | e
    · exact ⟨1, by omega, by omega, by omega⟩
    · exact ⟨2, by omega, by omega, by omega⟩
    · exact ⟨4, by omega, by omega, by omega⟩
    · exact ⟨8, by omega, by omega, by omega⟩
  have HPM : Hid (pieceB m = true) := Lib.hid (by unfold winOk at hw; simp only [Bool.and_eq_true] at hw; exact hw.1.1)
  have hd2 : (m : Int) / 2 = (h : Int) := by omega
  have HPO : Hid (pOk xs kd m = (decide (1 ≤ n) && decide (n % h = 0))) := Lib.hid (by
    unfold pOk
    rw [hs, hw, HL.out, hd2]
    simp only [Bool.true_and]
    congr 1
    exact decide_eq_decide.2 rem_nz)
  have HTN : Hid (((m : Int) / 2).toNat = h) := Lib.hid (by rw [hd2]; simp)
  have hn16 : n ≤ 16 := by have := (sigOk_parts hs).1; rw [HL.out] at this; exact this
  have HH2 := Lib.hid hh2
  have hq1 : m ≤ 2 * h := by omega
  have hq2 : 2 * h ≤ m := by omega
  clear hh2 hms hkd hs hw
  have hnl0 := fun (W : World) (A : Option Addr) (n c : Nat) => Lib.run_eql_slice_nil (P := Try.prog) W 29 43 A n c 0 0 Try.underlying29
  by_cases hok : 1 ≤ n ∧ n % h = 0
  rotate_left
  · have HN : Hid (pOk xs kd m = false) := Lib.hid (by
      rw [HPO.out]
      simp only [Bool.and_eq_false_iff, decide_eq_false_iff_not]
      omega)
    have hcs : n = 0 ∨ (1 ≤ n ∧ n % h ≠ 0) := by omega
    have hz : ((n : Int) == 0) = true ∨ (((n : Int) == 0) = false ∧ ((n : Int) % (h : Int) != 0) = true) := by
      rcases hcs with e | ⟨e1, e2⟩
      · left; simp [e]
      · right
        refine ⟨by simp; omega, ?_⟩
        have : ¬ ((n : Int) % (h : Int) = 0) := fun q => e2 (rem_nz.1 q)
        simpa [bne] using this
    clear hok hcs
    go_enter Try.func82, Try.ntmps82
    go_wp2_with fail
    refine (SignalOk_any _ _ _ _ _ H.out).mono ?_
    rw [HS.out]
    rintro e w' ⟨rfl, d, rfl⟩
    go_wp2_with fail
    refine (WindowOf_yes kd m _ HW.out).mono ?_
    intro e w1 hmd
    obtain ⟨v, rfl, ho, hg⟩ := hmd
    rw [HWL.out] at ho
    obtain ⟨g, c2, rfl, hbg, hlg⟩ := ho.form (by omega)
    have G1 : Hid (w.grownBy w1 none) := Lib.hid ⟨hg.os, hg.tape, hg.output, hg.size, hg.block⟩
    have hnl := fun W : World => hnl0 W (some ⟨g, 0, none⟩) m c2
    clear ho hg hnl0
    rcases hz with hz | ⟨hz, hz2⟩
    · go_wp2_with fail
      go_ret2
      exact .inl ⟨HN.out, TogNo.nil G1.out⟩
    · have hh0 : ¬ h = 0 := by omega
      go_wp2_with fail
      go_ret2
      exact .inl ⟨HN.out, TogNo.nil G1.out⟩
  obtain ⟨hn1, hnm⟩ := hok
  have HY : Hid (pOk xs kd m = true) := Lib.hid (by rw [HPO.out]; simp [hn1, hnm])
  obtain ⟨M, hM⟩ : ∃ M, n / h = M := ⟨_, rfl⟩
  have hMn : M * h = n := by rw [← hM]; exact Nat.div_mul_cancel (Nat.dvd_of_mod_eq_zero hnm)
  have hM16 : M ≤ 16 := by
    have : M * 1 ≤ M * h := Nat.mul_le_mul_left M hh1
    omega
  have hdi : (n : Int) / (h : Int) = (M : Int) := by rw [← hM]; simp
  have hz1 : ((n : Int) == 0) = false := by simp; omega
  have hz2 : (n : Int) % (h : Int) = 0 := rem_nz.2 hnm
  have HMn := Lib.hid hMn
  have HPS : Hid (psL xs kd ((m : Int) / 2).toNat = (List.range M).map (psF xs kd h)) := Lib.hid (by unfold psL; rw [HTN.out, HL.out, hM])
  have hh0 : ¬ h = 0 := by omega
  clear hnm hM hMn HTN HPO
  go_enter Try.func82, Try.ntmps82
  go_wp2_with fail
  refine (SignalOk_any _ _ _ _ _ H.out).mono ?_
  rw [HS.out]
  rintro e w' ⟨rfl, d, rfl⟩
  go_wp2_with fail
  refine (WindowOf_yes kd m _ HW.out).mono ?_
  intro e w1 hmd
  obtain ⟨v, rfl, ho, hg⟩ := hmd
  rw [HWL.out] at ho
  obtain ⟨g, c2, rfl, hbg, hlg⟩ := ho.form (by omega)
  have G1 : Hid (w.grownBy w1 none) := Lib.hid ⟨hg.os, hg.tape, hg.output, hg.size, hg.block⟩
  have hnl := fun W : World => hnl0 W (some ⟨g, 0, none⟩) m c2
  have S1 := Lib.hid (H.out.grown G1.out)
  clear ho hg hnl0
  obtain ⟨i0, hi0, hzz0, hzz1, hzz2⟩ := info_parts info37
  go_wp2_with (at_make; go_must (refine wpList_make_own _ rfl _ _ 67 rfl w1.heap.size 37 i0 _ 1 Try.underlying67 hi0 hzz0 hzz1 .i64 .i64 M M rfl rfl rfl (by rw [hzz2]; omega) (by unfold maxLen; omega) (Nat.le_refl _) ?_); intro w2 ho hg; have hst : PcSt (psF xs kd h) w1 (.slice (some ⟨w1.heap.size, 0, none⟩) 0 M) 0 w2 := PcSt.start ho (ho.lt _ rfl).2 hg; clear ho hg)
  go_loopw [9, 10] (fun v i wr => ∃ j F : Nat, F ≤ n ∧ i = .int .i64 F ∧ Hid (j * h = F) ∧ Hid (PcSt (psF xs kd h) w1 v j wr)) (fun _ i _ => n - (intOf i).toNat)
  case atStart => exact ⟨0, 0, Nat.zero_le _, rfl, Lib.hid (Nat.zero_mul _), Lib.hid hst⟩
  case round =>
    obtain ⟨j, F, hF, rfl, hjF, hr⟩ := hrel
    clear hst
    have hj16 : j ≤ 16 := by
      have a : j * 1 ≤ j * h := Nat.mul_le_mul_left j hh1
      have := hjF.out
      omega
    by_cases hlt : F < n
    · have S2 := Lib.hid (S1.out.grown hr.out.gr)
      have HG2 := Lib.hid hr.out.gr
      have HPP := Lib.hid (fun W => PieceOf_yes A n cap F m xs W)
      have HSP : Hid (sigOk (pieceL xs F m) = true) := Lib.hid (piece_fin HS.out (by rw [HL.out]; omega) (by omega))
      have HPL : Hid ((pieceL xs F m).length = m) := Lib.hid (by simp [pieceL])
      have HWD : Hid (wdL (pieceL xs F m) kd = psF xs kd h j) := Lib.hid (by unfold psF; rw [hjF.out, ← HH2.out])
      have hFn : F + h ≤ n := by
        have e1 := HMn.out
        have e2 := hjF.out
        have : j < M := Nat.lt_of_mul_lt_mul_right (a := h) (by omega)
        have : (j + 1) * h ≤ M * h := Nat.mul_le_mul_right h (by omega)
        rw [Nat.add_mul, Nat.one_mul] at this
        omega
      have HJ1 : Hid ((j + 1) * h = F + h) := Lib.hid (by rw [Nat.add_mul, Nat.one_mul, hjF.out])
      go_wp2_with fail
      refine (HPP.out _ S2.out HS.out HPM.out hlt).mono ?_
      intro e w3 hmd
      obtain ⟨B3, c3, rfl, hc3, hcm3, hr3, ho3, hg3⟩ := hmd.out (0, 0) (by rw [HPL.out]; omega)
      rw [HPL.out] at hr3 hc3 ⊢
      have S3 := Lib.hid (Sig.rw hr3)
      have HG3 := Lib.hid hg3
      clear hmd ho3 hg3 hr3
      unfold maxLen at hcm3
      go_wp2_with fail
      refine (Windowed_yes B3 m c3 kd _ w3 S3.out HSP.out HW.out).mono ?_
      intro e w4 hmd
      rw [HWD.out] at hmd
      have HLp := psF_len xs kd h j
      rw [← HH2.out] at HLp
      obtain ⟨B4, c4, rfl, hc4, hcm4, hr4, ho4, hg4⟩ := hmd.out (0, 0) (by rw [HLp]; omega)
      have ho4' := ho4
      rw [HLp] at ho4'
      obtain ⟨b4, _, e4, hb4, hl4⟩ := ho4'.form (by omega)
      cases e4
      have HG4 := Lib.hid (grown_trans HG3.out hg4)
      have hsz : wr.heap.size ≤ b4 := Nat.le_trans HG3.out.size hb4
      have P4 := Lib.hid (hr.out.grow HG4.out)
      have hsz1 : w1.heap.size ≤ w4.heap.size := P4.out.gr.size
      have hne : some b4 ≠ u9.ownBlock := fun e => by have := hr.out.1.own_lt b4 e.symm; omega
      have hbw : w1.heap.size ≤ b4 := Nat.le_trans hr.out.gr.size hsz
      obtain ⟨vs, hown4, hstep⟩ := P4.out.own
      have HST := Lib.hid (fun w' gg cap => hstep w' b4 c4 gg cap hne hbw hl4 hc4 hcm4 (Sig.rw hr4))
      rw [HLp] at HST hc4 ⊢
      clear hmd ho4 ho4' hr4 hg4 hstep HLp hne hbw
      have hcm4' := hcm4
      unfold maxLen at hcm4'
      go_wp2_with (at_builtin; go_must (refine append_lies_slc w4 rfl _ _ rfl w1.heap.size u9 j vs _ rfl rfl hown4 rfl (by omega) hsz1 ?_); intro gg cap' w5 ho5 hg5 h3 h4)
      go_roundw
      case rel => exact ⟨j + 1, F + h, by omega, by go_num, HJ1, Lib.hid (HST.out w5 gg cap' ho5 hg5 h3 h4)⟩
      case measure => simp [intOf]; omega
    · have hFn : F = n := by omega
      have hjM : j = M := by
        have e1 := HMn.out
        have e2 := hjF.out
        rw [hFn, ← e1] at e2
        exact Nat.eq_of_mul_eq_mul_right hh1 e2
      obtain ⟨B, c, rfl, hc1, hc2, hpc, hpR⟩ := hr.out.pcs (by omega)
      have GR := Lib.hid (grown_trans G1.out hr.out.gr)
      have HC := Lib.hid hpc
      have HCR := Lib.hid hpR
      clear hpR
      rw [hjM] at HC HCR hc1 ⊢
      have hc2' := hc2
      unfold maxLen at hc2'
      go_wp2_with fail
      go_ret2
      refine .inr ⟨HY.out, B, c, ?_, ?_, hc2, ?_, GR.out, fun R w'' hR hg => ?_⟩
      · rw [HPS.out]; simp
      · rw [HPS.out]; simpa using hc1
      · rw [HPS.out]; simpa using HC.out
      · rw [HPS.out]; simpa using HCR.out R w'' (Nat.lt_of_lt_of_le hR G1.out.size) hg

theorem PcSt.start1 (f : Nat → List Num) (w : World) : PcSt f w (.slice (some ⟨w.heap.size, 0, none⟩) 0 0) 0 (w.alloc (.cells #[] 37)) :=
  PcSt.start (World.ownsRow_made w #[] 0 (Nat.le_refl _) (Nat.zero_le _) rfl) (by rw [alloc_sizeT]; omega) (World.grownBy_alloc w _ _)

set_option maxRecDepth 100000 in
set_option maxHeartbeats 8000000 in
theorem sPiecesOf_any (A : Option Addr) (n cap : Nat) (kd pt : Int) (xs : List Num) (w : World) (hx : Sig w A n xs) :
    Calls Try.prog 83 #[.slice A n cap, .int .i64 kd, .int .i64 pt] w (PcsRes xs kd pt w) := by
  have hl := hx.1
  have H0 := Lib.hid hx
  have H := Lib.hid (hx.alloc (.cells #[] 37))
  have HL := Lib.hid hl
  have GA : Hid (w.grownBy (w.alloc (.cells #[] 37)) none) := Lib.hid (World.grownBy_alloc w _ _)
  clear hx hl
  rcases Bool.eq_false_or_eq_true (winOk kd pt) with hw | hw
  rotate_left
  · have HN : Hid (pOk xs kd pt = false) := Lib.hid (by unfold pOk; rw [hw, Bool.and_false]; rfl)
    have HW := Lib.hid hw
    clear hw
    go_enter Try.func83, Try.ntmps83
    go_wp2_with fail
    refine (sWindowOf_no _ _ _ HW.out).mono ?_
    intro e w1 hmd
    obtain ⟨B, c, rfl, hc, hcm, hr, ho, hg⟩ := hmd.out 0 (by simp)
    simp only [List.length_nil] at hc hr ⊢
    have G1 := Lib.hid hg
    clear hmd hr ho hg
    unfold maxLen at hcm
    go_wp2_with fail
    go_ret2
    exact .inl ⟨HN.out, TogNo.emp (grown_trans GA.out G1.out) _⟩
  obtain ⟨hkd, m, rfl, hms⟩ := winOk_in hw
  have HW := Lib.hid hw
  have HWL : Hid ((winL kd m).length = m) := Lib.hid (by simp [winL])
  obtain ⟨h, hh2, hh1, hh8⟩ : ∃ h : Nat, m = 2 * h ∧ 1 ≤ h ∧ h ≤ 8 := by
    rcases sizes_of hms with e | e | e | e
    · exact ⟨1, by omega, by omega, by omega⟩
    · exact ⟨2, by omega, by omega, by omega⟩
    · exact ⟨4, by omega, by omega, by omega⟩
    · exact ⟨8, by omega, by omega, by omega⟩
  have HPM : Hid (pieceB m = true) := Lib.hid (by unfold winOk at hw; simp only [Bool.and_eq_true] at hw; exact hw.1.1)
  have hd2 : (m : Int) / 2 = (h : Int) := by omega
  have hm0 : ((m : Int) == 0) = false := by simp; omega
  have HH2 := Lib.hid hh2
  have hq1 : m ≤ 2 * h := by omega
  have hq2 : 2 * h ≤ m := by omega
  clear hh2 hms hkd
  rcases Bool.eq_false_or_eq_true (sigOk xs) with hs | hs
  rotate_left
  · have HN : Hid (pOk xs kd m = false) := Lib.hid (by unfold pOk; rw [hs]; rfl)
    have HS := Lib.hid hs
    clear hs hw
    go_enter Try.func83, Try.ntmps83
    go_wp2_with fail
    refine (sWindowOf_yes _ _ _ HW.out).mono ?_
    intro e w1 hmd
    obtain ⟨B, c, rfl, hc, hcm, hr, ho, hg⟩ := hmd.out 0 (by rw [HWL.out]; omega)
    rw [HWL.out] at hc hr ⊢
    have G1 := Lib.hid hg
    have S1 := Lib.hid (H.out.grown hg)
    clear hmd hr ho hg
    unfold maxLen at hcm
    go_wp2_with fail
    refine (sSignalOk_any _ _ _ _ _ S1.out).mono ?_
    rw [HS.out]
    rintro e w' ⟨rfl, d, rfl⟩
    go_wp2_with fail
    go_ret2
    exact .inl ⟨HN.out, TogNo.emp (grown_drewN (grown_trans GA.out G1.out) d) _⟩
  have HS := Lib.hid hs
  have HPO : Hid (pOk xs kd m = (decide (1 ≤ n) && decide (n % h = 0))) := Lib.hid (by
    unfold pOk
    rw [hs, hw, HL.out, hd2]
    simp only [Bool.true_and]
    congr 1
    exact decide_eq_decide.2 rem_nz)
  have HTN : Hid (((m : Int) / 2).toNat = h) := Lib.hid (by rw [hd2]; simp)
  have hn16 : n ≤ 16 := by have := (sigOk_parts hs).1; rw [HL.out] at this; exact this
  clear hs hw
  by_cases hok : 1 ≤ n ∧ n % h = 0
  rotate_left
  · have HN : Hid (pOk xs kd m = false) := Lib.hid (by
      rw [HPO.out]
      simp only [Bool.and_eq_false_iff, decide_eq_false_iff_not]
      omega)
    have hcs : n = 0 ∨ (1 ≤ n ∧ n % h ≠ 0) := by omega
    have hz : ((n : Int) == 0) = true ∨ (((n : Int) == 0) = false ∧ ((n : Int) % (h : Int) != 0) = true) := by
      rcases hcs with e | ⟨e1, e2⟩
      · left; simp [e]
      · right
        refine ⟨by simp; omega, ?_⟩
        have : ¬ ((n : Int) % (h : Int) = 0) := fun q => e2 (rem_nz.1 q)
        simpa [bne] using this
    clear hok hcs
    go_enter Try.func83, Try.ntmps83
    go_wp2_with fail
    refine (sWindowOf_yes _ _ _ HW.out).mono ?_
    intro e w1 hmd
    obtain ⟨B, c, rfl, hc, hcm, hr, ho, hg⟩ := hmd.out 0 (by rw [HWL.out]; omega)
    rw [HWL.out] at hc hr ⊢
    have G1 := Lib.hid hg
    have S1 := Lib.hid (H.out.grown hg)
    clear hmd hr ho hg
    unfold maxLen at hcm
    go_wp2_with fail
    refine (sSignalOk_any _ _ _ _ _ S1.out).mono ?_
    rw [HS.out]
    rintro e w' ⟨rfl, d, rfl⟩
    rcases hz with hz | ⟨hz, hz2⟩
    · go_wp2_with fail
      go_ret2
      exact .inl ⟨HN.out, TogNo.emp (grown_drewN (grown_trans GA.out G1.out) d) _⟩
    · have hh0 : ¬ h = 0 := by omega
      go_wp2_with fail
      go_ret2
      exact .inl ⟨HN.out, TogNo.emp (grown_drewN (grown_trans GA.out G1.out) d) _⟩
  obtain ⟨hn1, hnm⟩ := hok
  have HY : Hid (pOk xs kd m = true) := Lib.hid (by rw [HPO.out]; simp [hn1, hnm])
  obtain ⟨M, hM⟩ : ∃ M, n / h = M := ⟨_, rfl⟩
  have hMn : M * h = n := by rw [← hM]; exact Nat.div_mul_cancel (Nat.dvd_of_mod_eq_zero hnm)
  have hM16 : M ≤ 16 := by
    have : M * 1 ≤ M * h := Nat.mul_le_mul_left M hh1
    omega
  have hz1 : ((n : Int) == 0) = false := by simp; omega
  have hz2 : (n : Int) % (h : Int) = 0 := rem_nz.2 hnm
  have HMn := Lib.hid hMn
  have HPS : Hid (psL xs kd ((m : Int) / 2).toNat = (List.range M).map (psF xs kd h)) := Lib.hid (by unfold psL; rw [HTN.out, HL.out, hM])
  have hh0 : ¬ h = 0 := by omega
  have HST0 := Lib.hid (PcSt.start1 (psF xs kd h) w)
  clear hnm hM hMn HTN HPO
  go_enter Try.func83, Try.ntmps83
  go_wp2_with fail
  refine (sWindowOf_yes _ _ _ HW.out).mono ?_
  intro e w1 hmd
  obtain ⟨B, c, rfl, hc, hcm, hr, ho, hg⟩ := hmd.out 0 (by rw [HWL.out]; omega)
  rw [HWL.out] at hc hr ⊢
  have S1 := Lib.hid (H.out.grown hg)
  have HST1 := Lib.hid (HST0.out.grow hg)
  clear hmd hr ho hg HST0 GA H
  unfold maxLen at hcm
  go_wp2_with fail
  refine (sSignalOk_any _ _ _ _ _ S1.out).mono ?_
  rw [HS.out]
  rintro e w' ⟨rfl, d, rfl⟩
  have HST2 := Lib.hid (HST1.out.grow (w' := w1.drewN d) (grown_drewN (grown_refl _ _) _))
  clear HST1 S1
  generalize w1.drewN d = w2 at *
  go_wp2_with fail
  clear hz2
  go_loopw [8, 9] (fun v i wr => ∃ j F : Nat, F ≤ n ∧ i = .int .i64 F ∧ Hid (j * h = F) ∧ Hid (PcSt (psF xs kd h) w v j wr)) (fun _ i _ => n - (intOf i).toNat)
  case atStart => exact ⟨0, 0, Nat.zero_le _, rfl, Lib.hid (Nat.zero_mul _), HST2⟩
  case round =>
    obtain ⟨j, F, hF, rfl, hjF, hr⟩ := hrel
    clear HST2
    have S2 := Lib.hid (H0.out.grown hr.out.gr)
    have hj16 : j ≤ 16 := by
      have a : j * 1 ≤ j * h := Nat.mul_le_mul_left j hh1
      have := hjF.out
      omega
    by_cases hlt : F < n
    · have HPP := Lib.hid (fun W => sPieceOf_yes A n cap F m xs W)
      have HSP : Hid (sigOk (pieceL xs F m) = true) := Lib.hid (piece_fin HS.out (by rw [HL.out]; omega) (by omega))
      have HPL : Hid ((pieceL xs F m).length = m) := Lib.hid (by simp [pieceL])
      have HWD : Hid (wdL (pieceL xs F m) kd = psF xs kd h j) := Lib.hid (by unfold psF; rw [hjF.out, ← HH2.out])
      have hFn : F + h ≤ n := by
        have e1 := HMn.out
        have e2 := hjF.out
        have : j < M := Nat.lt_of_mul_lt_mul_right (a := h) (by omega)
        have : (j + 1) * h ≤ M * h := Nat.mul_le_mul_right h (by omega)
        rw [Nat.add_mul, Nat.one_mul] at this
        omega
      have HJ1 : Hid ((j + 1) * h = F + h) := Lib.hid (by rw [Nat.add_mul, Nat.one_mul, hjF.out])
      go_wp2_with fail
      refine (HPP.out _ S2.out HS.out HPM.out hlt).mono ?_
      intro e w3 hmd
      obtain ⟨B3, c3, rfl, hc3, hcm3, hr3, ho3, hg3⟩ := hmd.out (0, 0) (by rw [HPL.out]; omega)
      rw [HPL.out] at hr3 hc3 ⊢
      have S3 := Lib.hid (Sig.rw hr3)
      have HG3 := Lib.hid hg3
      clear hmd ho3 hg3 hr3
      unfold maxLen at hcm3
      go_wp2_with fail
      refine (sWindowed_yes B3 m c3 kd _ w3 S3.out HSP.out HW.out).mono ?_
      intro e w4 hmd
      rw [HWD.out] at hmd
      have HLp := psF_len xs kd h j
      rw [← HH2.out] at HLp
      obtain ⟨B4, c4, rfl, hc4, hcm4, hr4, ho4, hg4⟩ := hmd.out (0, 0) (by rw [HLp]; omega)
      have ho4' := ho4
      rw [HLp] at ho4'
      obtain ⟨b4, _, e4, hb4, hl4⟩ := ho4'.form (by omega)
      cases e4
      have HG4 := Lib.hid (grown_trans HG3.out hg4)
      have hsz : wr.heap.size ≤ b4 := Nat.le_trans HG3.out.size hb4
      have P4 := Lib.hid (hr.out.grow HG4.out)
      have hsz1 : w.heap.size ≤ w4.heap.size := P4.out.gr.size
      have hne : some b4 ≠ u8.ownBlock := fun e => by have := hr.out.1.own_lt b4 e.symm; omega
      have hbw : w.heap.size ≤ b4 := Nat.le_trans hr.out.gr.size hsz
      obtain ⟨vs, hown4, hstep⟩ := P4.out.own
      have HST := Lib.hid (fun w' gg cap => hstep w' b4 c4 gg cap hne hbw hl4 hc4 hcm4 (Sig.rw hr4))
      rw [HLp] at HST hc4 ⊢
      clear hmd ho4 ho4' hr4 hg4 hstep HLp hne hbw
      have hcm4' := hcm4
      unfold maxLen at hcm4'
      go_wp2_with (at_builtin; go_must (refine append_lies_slc w4 rfl _ _ rfl w.heap.size u8 j vs _ rfl rfl hown4 rfl (by omega) hsz1 ?_); intro gg cap' w5 ho5 hg5 h3 h4)
      go_roundw
      case rel => exact ⟨j + 1, F + h, by omega, by go_num, HJ1, Lib.hid (HST.out w5 gg cap' ho5 hg5 h3 h4)⟩
      case measure => simp [intOf]; omega
    · have hFn : F = n := by omega
      have hjM : j = M := by
        have e1 := HMn.out
        have e2 := hjF.out
        rw [hFn, ← e1] at e2
        exact Nat.eq_of_mul_eq_mul_right hh1 e2
      obtain ⟨B, c, rfl, hc1, hc2, hpc, hpR⟩ := hr.out.pcs (by omega)
      have GR := Lib.hid hr.out.gr
      have HC := Lib.hid hpc
      have HCR := Lib.hid hpR
      clear hpR
      rw [hjM] at HC HCR hc1 ⊢
      have hc2' := hc2
      unfold maxLen at hc2'
      go_wp2_with fail
      go_ret2
      refine .inr ⟨HY.out, B, c, ?_, ?_, hc2, ?_, GR.out, fun R w'' hR hg => ?_⟩
      · rw [HPS.out]; simp
      · rw [HPS.out]; simpa using hc1
      · rw [HPS.out]; simpa using HC.out
      · rw [HPS.out]; simpa using HCR.out R w'' hR hg
end Go.Proofs.Ytcnlgoghnlcndaa
