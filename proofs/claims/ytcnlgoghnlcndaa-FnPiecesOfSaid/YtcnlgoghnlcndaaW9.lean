/- Walks: l20Signal: a drawn signal. -/
import Derived.Test.YtcnlgoghnlcndaaW8
namespace Go.Proofs.Ytcnlgoghnlcndaa
open Go.RowKit Ieee

theorem info34 : (Try.prog.info? 34).map (fun i => (i.zero, i.size, i.bytes)) = some (some (.complex .f32 0 0), 1, 8) := by kernel_rfl

/-- append(out, z) onto what the call owns. -/
theorem append_num {ops : Array Oper} {rest : List Oper} {o : Oper} {a : Act} {Q : Exit → Act → World → Prop} (w : World) (hgd : o.guard = none) (s x : Operand)
    (ho : o.op = .call { callee := .builtin .append, args := #[s, x], argTypes := #[37, 37] }) (base : Nat) (v : Value) (n : Nat) (xs : List Num) (z : Num)
    (hs : a.eval s = v) (hown : w.ownsRow base 34 1 v n (xs.map C)) (hx : a.eval x = .slice (some ⟨w.heap.size, 0, none⟩) 1 1) (hn : n ≤ 200) (hbase : base ≤ w.heap.size)
    (h : ∀ v' w', w'.ownsRow base 34 1 v' (n + 1) ((xs ++ [z]).map C) → (w.alloc (.cells #[C z] 34)).grownBy w' v.ownBlock → wpList Try.prog ops Q rest (a.put o.dst v') w') :
    wpList Try.prog ops Q (o :: rest) a (w.alloc (.cells #[C z] 34)) := by
  obtain ⟨i0, hi, hz0, hz1, hz2⟩ := info_parts info34
  refine wpList_append_own _ hgd s x 37 ho base 34 i0 (.complex .f32 0 0) 1 8 Try.underlying37 hi hz0 hz1 hz2 rfl (by decide) v n (xs.map C) hs (hown.alloc _) ⟨w.heap.size, 0, none⟩ 1 1 [C z] hx rfl ?_ ?_ ?_ ?_ ?_ ?_
  · intro j u hu
    have hj : j = 0 := by
      rcases Nat.eq_zero_or_pos j with h0 | h0
      · exact h0
      · rw [List.getElem?_eq_none (by simp; omega)] at hu; cases hu
    subst hj
    rw [Addr.add_lit]
    have := cell_of_row (w.alloc (.cells #[C z] 34)) w.heap.size 0 #[C z] 34 (0, 0) (heap_alloc_new w _)
    simp at hu
    subst hu
    exact this
  · intro u hu
    simp at hu
    subst hu
    rfl
  · unfold maxLen; omega
  · omega
  · simp; omega
  · intro v' w' h1 h2 _
    refine h v' w' ?_ h2
    rw [List.map_append]
    exact h1

/-- 'w' is a, but for block R and what is new. -/
theorem gr_own {a w w' : World} {R : Nat} {r : Option Nat} (h : a.grownBy w (some R)) (hg : w.grownBy w' r) (hr : ∀ g, r = some g → a.heap.size ≤ g) : a.grownBy w' (some R) :=
  ⟨hg.os.trans h.os, hg.tape.trans h.tape, hg.output.trans h.output, Nat.le_trans h.size hg.size, fun i hi hn =>
    (hg.block i (Nat.lt_of_lt_of_le hi h.size) (fun e => by have := hr i e.symm; omega)).trans (h.block i hi hn)⟩
theorem rd_own {w w' : World} {R p B : Nat} {r : Option Nat} (h : RdAt w R p) (hg : w.grownBy w' r) (hB : R < B) (hr : ∀ g, r = some g → B ≤ g) : RdAt w' R p :=
  h.keep fun k hk => hg.block k (Nat.lt_of_le_of_lt hk h.lt) (fun e => by have := hr k e.symm; omega)
theorem own_ge {w : World} {base e size n : Nat} {v : Value} {xs : List Value} (h : w.ownsRow base e size v n xs) : ∀ g, v.ownBlock = some g → base ≤ g := fun g hg => (h.lt g hg).1
theorem own_pick {w w' : World} {base R e size n : Nat} {v : Value} {xs : List Value} (h : w.ownsRow base e size v n xs) (hg : w.grownBy w' (some R)) (hR : R < base) : w'.ownsRow base e size v n xs := by
  refine h.kept hg ?_
  cases hv : v.ownBlock with
  | none => exact .inl rfl
  | some g => exact .inr (fun e => by have := own_ge h g hv; cases e; omega)

/-- The state of the loop: k numbers are drawn. -/
def SigSt (w : World) (R p : Nat) (v : Value) (k : Nat) (wr : World) : Prop :=
  ∃ xs : List Num, xs.length = k ∧ (∀ z ∈ xs, Small z.1 z.2) ∧ wr.ownsRow w.heap.size 34 1 v k (xs.map C) ∧ w.grownBy wr (some R) ∧ ∃ p', p' ≤ p + 10 * k ∧ RdAt wr R p'

theorem SigSt.step {w wr w' : World} {R p p' : Nat} {v v' : Value} {k : Nat} {xs : List Num} {z : Num} (hR : R < w.heap.size) (hl : xs.length = k) (hx : ∀ z ∈ xs, Small z.1 z.2)
    (hz : Small z.1 z.2) (ho : wr.ownsRow w.heap.size 34 1 v k (xs.map C)) (hg : w.grownBy wr (some R)) (hr : RdAt wr R p') (hp : p' ≤ p + 10 * (k + 1))
    (h1 : w'.ownsRow w.heap.size 34 1 v' (k + 1) ((xs ++ [z]).map C)) (h2 : (wr.alloc (.cells #[C z] 34)).grownBy w' v.ownBlock) : SigSt w R p v' (k + 1) w' := by
  refine ⟨xs ++ [z], by simp [hl], ?_, h1, gr_own (grown_alloc hg _) h2 (own_ge ho), p', hp, rd_own (hr.alloc _) h2 hR (own_ge ho)⟩
  intro y hy
  rcases List.mem_append.1 hy with h | h
  · exact hx y h
  · simp at h; subst h; exact hz

theorem run_store_complex (P : Program) (w : World) (a : Addr) (m : Mode) (k : FloatKind) (x y : Nat) : (store a (.complex k x y) m).run P w = stored P w a (.complex k x y) m := run_store P w a _ m rfl
theorem run_store_float (P : Program) (w : World) (a : Addr) (m : Mode) (k : FloatKind) (b : Nat) : (store a (.float k b) m).run P w = stored P w a (.float k b) m := run_store P w a _ m rfl
attribute [go_sem] run_store_complex run_store_float

/-- The loop of l20Signal, by the three kinds. -/
def Loop (w : World) (R p N : Nat) : Value → Value → World → Prop := fun v i wr => ∃ k : Nat, k ≤ N ∧ i = .int .i64 k ∧ SigSt w R p v k wr

/-- At most one number is not small; or there are too many. -/
def DrawnSig (xs : List Num) : Prop := 16 < xs.length ∨ ∃ (ys : List Num) (j : Nat) (z : Num), xs = ys.set j z ∧ Drawn z.1 z.2 ∧ ∀ y ∈ ys, Small y.1 y.2
theorem DrawnSig.small {xs : List Num} (h : ∀ y ∈ xs, Small y.1 y.2) : DrawnSig xs :=
  .inr ⟨xs, xs.length, (0, 0), (List.set_eq_of_length_le (Nat.le_refl _)).symm, Small.drawn (by unfold Small; decide +kernel), h⟩

theorem mk17 (w : World) : (Instr.makeSlice 37 (.int .i64 17) (.int .i64 17)).run Try.prog w = .ok (.slice (some ⟨w.heap.size, 0, none⟩) 17 17) (w.alloc (.cells #[.complex .f32 0 0, .complex .f32 0 0, .complex .f32 0 0, .complex .f32 0 0, .complex .f32 0 0, .complex .f32 0 0, .complex .f32 0 0, .complex .f32 0 0, .complex .f32 0 0, .complex .f32 0 0, .complex .f32 0 0, .complex .f32 0 0, .complex .f32 0 0, .complex .f32 0 0, .complex .f32 0 0, .complex .f32 0 0, .complex .f32 0 0] 34)) := by kernel_rfl

/-- What a drawn signal is: the value, its numbers, and the world. -/
def SigRes (w : World) (R p : Nat) (Q : List Num → Prop) (e : Ending) (w' : World) : Prop :=
  ∃ (v : Value) (xs : List Num), e = .returned v ∧ Q xs ∧ w'.ownsRow w.heap.size 34 1 v xs.length (xs.map C) ∧ xs.length ≤ 41 ∧ w.grownBy w' (some R) ∧ ∃ p', p' ≤ p + 500 ∧ RdAt w' R p'

theorem SigSt.start {w w1 : World} {R p : Nat} (hR : R < w.heap.size) (hg : (w.alloc (.cells #[] 34)).grownBy w1 (some R)) (hr : RdAt w1 R p) :
    SigSt w R p (.slice (some ⟨w.heap.size, 0, none⟩) 0 0) 0 w1 := by
  refine ⟨[], rfl, by simp, ?_, grown_trans (World.grownBy_alloc w _ _) hg, p, by omega, hr⟩
  have h0 : (w.alloc (.cells #[] 34)).ownsRow w.heap.size 34 1 (.slice (some ⟨w.heap.size, 0, none⟩) 0 0) 0 ([] : List Value) :=
    World.ownsRow_made w #[] 0 (Nat.le_refl _) (Nat.zero_le _) rfl
  exact own_pick h0 hg hR

def SigQ (N : Nat) (M : Int) (xs : List Num) : Prop := DrawnSig xs ∧ (xs.length = N ∨ xs.length = 17) ∧ (M = 0 → xs.length = N ∧ ∀ y ∈ xs, Small y.1 y.2)

theorem SigRes.of {w : World} {R p p' N : Nat} {M : Int} {v : Value} {w' : World} {xs : List Num} (hq : SigQ N M xs) (hN : N ≤ 40) (ho : w'.ownsRow w.heap.size 34 1 v xs.length (xs.map C))
    (hg : w.grownBy w' (some R)) (hp : p' ≤ p + 500) (hr : RdAt w' R p') : SigRes w R p (fun xs => SigQ N M xs) (.returned v) w' :=
  ⟨v, xs, rfl, hq, ho, by rcases hq.2.1 with h | h <;> omega, hg, p', hp, hr⟩

theorem zeros17 : (#[.complex .f32 0 0, .complex .f32 0 0, .complex .f32 0 0, .complex .f32 0 0, .complex .f32 0 0, .complex .f32 0 0, .complex .f32 0 0, .complex .f32 0 0, .complex .f32 0 0, .complex .f32 0 0, .complex .f32 0 0, .complex .f32 0 0, .complex .f32 0 0, .complex .f32 0 0, .complex .f32 0 0, .complex .f32 0 0, .complex .f32 0 0] : Array Value).toList = (List.replicate 17 ((0, 0) : Num)).map C := rfl

set_option maxRecDepth 100000 in
set_option maxHeartbeats 4000000 in
/-- N numbers are drawn, all small; if M is not 0, one of them may be another one, or all may be others. -/
theorem signal_any (R p N : Nat) (M : Int) (w : World) (h : RdAt w R p) (hp : p < 800000) (hN : N ≤ 40) (HM : M = 0 ∨ (1 ≤ M ∧ M ≤ 1000)) :
    Calls Try.prog 96 #[.pointer (some ⟨R, 0, none⟩), .int .i64 N, .int .i64 M] w (SigRes w R p fun xs => SigQ N M xs) := by
  have hR := h.lt
  go_enter Try.func96, Try.ntmps96
  go_wp2_with fail
  refine (pick_any _ _ _ _ (h.alloc _) (by omega) (by omega)).mono ?_
  rintro e w1 ⟨kd, d1, d2, rfl, hg1, hr1⟩
  have hst := SigSt.start hR hg1 hr1
  clear hg1 hr1 h
  go_wp2_with fail
  go_loopw [7, 9] (fun v i wr => ∃ k : Nat, k ≤ N ∧ i = .int .i64 k ∧ SigSt w R (p + 1) v k wr) (fun _ i _ => N - (intOf i).toNat)
  case atStart => exact ⟨0, Nat.zero_le _, rfl, hst⟩
  case round =>
    obtain ⟨k, hk, rfl, xs, hl, hx, ho, hg, p', hp', hr⟩ := hrel
    have HL := Lib.hid hl
    have HX := Lib.hid hx
    clear hl hx hst
    have hsz : w.heap.size ≤ wr.heap.size := hg.size
    by_cases hlt : k < N
    · by_cases c0 : kd = 0
      · have b0 : (kd == 0) = true := by simpa using c0
        clear c0
        go_wp2_with fail
        refine (pick_any _ _ _ _ hr (by omega) (by omega)).mono ?_
        rintro e w2 ⟨j, j1, j2, rfl, hg2, hr2⟩
        go_wp2_with fail
        refine (pick_any _ _ _ _ hr2 (by omega) (by omega)).mono ?_
        rintro e w3 ⟨l, l1, l2, rfl, hg3, hr3⟩
        go_wp2_with fail
        refine (sMilli_in _ _ _ (by omega) (by omega) (by omega) (by omega)).mono ?_
        rintro e w' ⟨rfl, rfl⟩
        have ho3 := own_pick (own_pick ho hg2 hR) hg3 hR
        have hgg := grown_trans (grown_trans hg hg2) hg3
        have hs3 : w.heap.size ≤ w3.heap.size := hgg.size
        have hkk : k ≤ 200 := by omega
        clear hg2 hg3 hr hr2
        go_wp2_with (at_builtin; go_must (refine append_num _ rfl _ _ rfl w.heap.size u7 k xs (_, _) rfl ho3 rfl hkk hs3 ?_); intro v' w' ho' hg')
        go_roundw
        case rel => exact ⟨k + 1, by omega, by go_num, SigSt.step hR HL.out HX.out (milli_Small (by omega) (by omega) (by omega) (by omega)) ho3 hgg hr3 (by omega) ho' hg'⟩
        case measure => simp [intOf]; omega
      · have b0 : (kd == 0) = false := by simpa using c0
        by_cases c1 : kd = 1
        · have b1 : (kd == 1) = true := by simpa using c1
          clear c0 c1
          go_wp2_with fail
          refine (pick_any _ _ _ _ hr (by omega) (by omega)).mono ?_
          rintro e w2 ⟨j, j1, j2, rfl, hg2, hr2⟩
          go_wp2_with fail
          refine (sMilli_in _ _ _ (by omega) (by omega) (by omega) (by omega)).mono ?_
          rintro e w' ⟨rfl, rfl⟩
          have ho3 := own_pick ho hg2 hR
          have hgg := grown_trans hg hg2
          have hs3 : w.heap.size ≤ w2.heap.size := hgg.size
          have hkk : k ≤ 200 := by omega
          clear hg2 hr
          go_wp2_with (at_builtin; go_must (refine append_num _ rfl _ _ rfl w.heap.size u7 k xs (_, _) rfl ho3 rfl hkk hs3 ?_); intro v' w' ho' hg')
          go_roundw
          case rel => exact ⟨k + 1, by omega, by go_num, SigSt.step hR HL.out HX.out (milli_Small (n := (j - 4) * 250) (m := 0) (by omega) (by omega) (by omega) (by omega)) ho3 hgg hr2 (by omega) ho' hg'⟩
          case measure => simp [intOf]; omega
        · have b1 : (kd == 1) = false := by simpa using c1
          clear c0 c1
          go_wp2_with fail
          refine (num_zero _ _ _ hr (by omega)).mono ?_
          rintro e w2 ⟨a, b, hab, rfl, hg2, p2, hp2, hr2⟩
          have ho3 := own_pick ho hg2 hR
          have hgg := grown_trans hg hg2
          have hs3 : w.heap.size ≤ w2.heap.size := hgg.size
          have hkk : k ≤ 200 := by omega
          clear hg2 hr
          go_wp2_with (at_builtin; go_must (refine append_num _ rfl _ _ rfl w.heap.size u7 k xs (a, b) rfl ho3 rfl hkk hs3 ?_); intro v' w' ho' hg')
          go_roundw
          case rel => exact ⟨k + 1, by omega, by go_num, SigSt.step hR HL.out HX.out hab ho3 hgg hr2 (by omega) ho' hg'⟩
          case measure => simp [intOf]; omega
    · have hkN : k = N := by omega
      have HK := Lib.hid hkN
      clear hkN
      have hlen : xs.length = k := HL.out
      go_wp2_with fail
      rcases HM with rfl | ⟨m1, m2⟩
      · refine (odd_zero _ _).mono ?_
        rintro e w' ⟨rfl, rfl⟩
        go_wp2_with fail
        go_ret
        refine SigRes.of (xs := xs) ⟨DrawnSig.small HX.out, .inl (by rw [hlen, HK.out]), fun _ => ⟨by rw [hlen, HK.out], HX.out⟩⟩ hN (by rw [hlen]; exact ho) hg (by omega) hr
      · refine (odd_any _ _ _ _ hr (by omega) m1 m2).mono ?_
        rintro e w2 ⟨c, rfl, hg2, hr2⟩
        have ho2 := own_pick ho hg2 hR
        have hgg := grown_trans hg hg2
        have HLEN := Lib.hid hlen
        clear hlen
        cases c
        · go_wp2_with fail
          go_ret
          refine SigRes.of (xs := xs) ⟨DrawnSig.small HX.out, .inl (by rw [HLEN.out, HK.out]), fun h0 => absurd h0 (by omega)⟩ hN (by rw [HLEN.out]; exact ho2) hgg (by omega) hr2
        · rcases ho2.2 with ⟨rfl, h0⟩ | ⟨g, cap, cur, rfl, hbg, hgg2, hnc, hcm, hcs, htk⟩
          · subst h0
            have hmk := mk17 w2
            go_wp2_with fail
            go_ret
            refine SigRes.of (xs := List.replicate 17 (0, 0)) ⟨.inl (by simp), .inr (by simp), fun h0 => absurd h0 (by omega)⟩ hN ?_ (grown_alloc hgg _) (by omega) (hr2.alloc _)
            rw [← zeros17, List.length_replicate]
            exact World.ownsRow_lit w2 _ 17 hgg.size (by unfold maxLen; omega) rfl
          · by_cases hk0 : k = 0
            · subst hk0
              have hmk := mk17 w2
              go_wp2_with fail
              go_ret
              refine SigRes.of (xs := List.replicate 17 (0, 0)) ⟨.inl (by simp), .inr (by simp), fun h0 => absurd h0 (by omega)⟩ hN ?_ (grown_alloc hgg _) (by omega) (hr2.alloc _)
              rw [← zeros17, List.length_replicate]
              exact World.ownsRow_lit w2 _ 17 hgg.size (by unfold maxLen; omega) rfl
            · have bk : ((k : Int) == 0) = false := by simpa using hk0
              have dk : decide (k = 0) = false := by simpa using hk0
              have HO := Lib.hid ho2
              have HG2 := Lib.hid hgg2
              have HCS := Lib.hid hcs
              have HTK := Lib.hid htk
              clear ho ho2 hgg2 hcs htk
              go_wp2_with fail
              refine (pick_any _ _ _ _ hr2 (by omega) (by omega)).mono ?_
              rintro e w3 ⟨l, l1, l2, rfl, hg3, hr3⟩
              have hgg3 := grown_trans hgg hg3
              have HO3 := Lib.hid (own_pick HO.out hg3 hR)
              by_cases e0 : l = 0
              · have be : (l == 0) = true := by simpa using e0
                clear e0
                have hmk := mk17 w3
                go_wp2_with fail
                go_ret
                refine SigRes.of (xs := List.replicate 17 (0, 0)) ⟨.inl (by simp), .inr (by simp), fun h0 => absurd h0 (by omega)⟩ hN ?_ (grown_alloc hgg3 _) (by omega) (hr3.alloc _)
                rw [← zeros17, List.length_replicate]
                exact World.ownsRow_lit w3 _ 17 hgg3.size (by unfold maxLen; omega) rfl
              · have be : (l == 0) = false := by simpa using e0
                clear e0
                go_wp2_with fail
                refine (pick_any _ _ _ _ hr3 (by omega) (by omega)).mono ?_
                rintro e w4 ⟨j, j1, j2, rfl, hg4, hr4⟩
                obtain ⟨j, rfl⟩ := Int.eq_ofNat_of_zero_le j1
                go_wp2_with fail
                refine (num_any _ _ _ _ hr4 (by omega) (by omega) (by omega)).mono ?_
                rintro e w5 ⟨a, b, hab, rfl, hg5, p5, hp5, hr5⟩
                have hO5 := own_pick (own_pick HO3.out hg4 hR) hg5 hR
                have hgg5 := grown_trans (grown_trans hgg3 hg4) hg5
                have hjk : j < k := by omega
                have hc5 : ∃ u, w5.cell? ⟨g, j, none⟩ = some u := by
                  have := hO5.cellAt j (by omega)
                  have hlen : j < (xs.map C).length := by simp [HLEN.out, hjk]
                  exact ⟨_, this.trans (List.getElem?_eq_getElem hlen)⟩
                obtain ⟨u, hu⟩ := hc5
                have hf5 := hO5.frozenAt j
                have HO5 := Lib.hid hO5
                clear hO5 hg3 hg4 hg5 hgg hgg3 HO3 HO
                go_wp2_with fail
                go_ret
                have hset := HO5.out.stored j (C (a, b))
                refine SigRes.of (p' := p5) (xs := xs.set j (a, b)) ⟨.inr ⟨xs, j, (a, b), rfl, hab, HX.out⟩, .inl (by rw [List.length_set, HLEN.out, HK.out]), fun h0 => absurd h0 (by omega)⟩ hN ?_ ?_ (by omega) ?_
                · rw [List.length_set, HLEN.out, List.map_set]
                  exact hset.1
                · exact gr_own hgg5 hset.2 (fun g' e => by cases e; exact hbg)
                · exact rd_own hr5 hset.2 hR (fun g' e => by cases e; exact hbg)
end Go.Proofs.Ytcnlgoghnlcndaa
