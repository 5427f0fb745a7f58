/- The walk of the law FnPieceOf: true at every code. -/
import Derived.Test.YtcnlgoghnlcndaaMv
import Derived.Test.YtcnlgoghnlcndaaLPd
import Derived.Test.YtcnlgoghnlcndaaLWithNoughts
namespace Go.Proofs.Ytcnlgoghnlcndaa
open Go.RowKit Ieee

theorem movedL_length (xs : List Num) (b : Int) : (movedL xs b).length = xs.length := by simp [movedL]
theorem pieceL_length (xs : List Num) (f n : Nat) : (pieceL xs f n).length = n := by simp [pieceL]
theorem moved_sig {xs : List Num} {b : Int} (h : sigOk xs = true) : sigOk (movedL xs b) = true := by
  obtain ⟨h1, h2⟩ := sigOk_parts h
  unfold sigOk
  rw [movedL_length]
  simp only [Bool.and_eq_true, decide_eq_true_eq]
  refine ⟨h1, ?_⟩
  rw [List.all_eq_true]
  intro z hz
  obtain ⟨j, hj, rfl⟩ := List.mem_map.1 hz
  have hj' : j < xs.length := by simpa using hj
  have h3 := Int.emod_nonneg ((j : Int) - b) (show (xs.length : Int) ≠ 0 by omega)
  have h4 := Int.emod_lt_of_pos ((j : Int) - b) (show (0 : Int) < xs.length by omega)
  exact fin_at h2 (by omega)
/-- Moved back and from 0 on: the same piece. -/
theorem piece_moved {xs : List Num} {f n : Nat} (hf : f < xs.length) : pieceL (movedL xs ((xs.length : Int) - f)) 0 n = pieceL xs f n := by
  unfold pieceL
  apply List.map_congr_left
  intro i _
  unfold pieceN
  rw [movedL_length, Nat.zero_add]
  have hi : i % xs.length < xs.length := Nat.mod_lt _ (by omega)
  have e : (movedL xs ((xs.length : Int) - f)).getD (i % xs.length) (0, 0) = movedN xs ((xs.length : Int) - f) (i % xs.length) := getD_range _ _ hi
  rw [e]
  unfold movedN
  congr 1
  have e2 : (((i % xs.length : Nat) : Int) - ((xs.length : Int) - f)) % (xs.length : Int) = (((f + i) % xs.length : Nat) : Int) := by
    have e3 : ((i % xs.length : Nat) : Int) - ((xs.length : Int) - f) = ((f + i % xs.length : Nat) : Int) + (xs.length : Int) * (-1) := by omega
    rw [e3, Int.add_mul_emod_self_left, ← Int.natCast_emod, Nat.add_mod_mod]
  rw [e2]
  rfl
theorem piece_sig {xs : List Num} {f n : Nat} (h : sigOk xs = true) (h0 : 0 < xs.length) (hn : n ≤ 16) : sigOk (pieceL xs f n) = true := by
  obtain ⟨h1, h2⟩ := sigOk_parts h
  unfold sigOk
  rw [pieceL_length]
  simp only [Bool.and_eq_true, decide_eq_true_eq]
  refine ⟨hn, ?_⟩
  rw [List.all_eq_true]
  intro z hz
  obtain ⟨j, hj, rfl⟩ := List.mem_map.1 hz
  exact fin_at h2 (Nat.mod_lt _ h0)

theorem moved_arm (A : Option Addr) (n cap f : Nat) (xs : List Num) (w : World) (h : Sig w A n xs) (hs : sigOk xs = true) (hf : f < n) :
    Calls Try.prog 50 #[.slice A n cap, .int .i64 (IntKind.i64.wrap ((n : Int) - f))] w fun e w' => ∃ B c, e = .returned (.slice B n c) ∧ Hid (Sig w' B n (movedL xs ((n : Int) - f))) ∧ w.grownBy w' none := by
  have hl := h.1
  have hn16 : n ≤ 16 := by have := (sigOk_parts hs).1; omega
  rw [IntWalk.i64_in _ (by omega)]
  refine (MovedOf_yes A n cap _ xs w h hs (by omega)).mono fun e w' hm => ?_
  obtain ⟨B, c, rfl, _, _, hr, _, hg⟩ := hm.out (0, 0) (by rw [movedL_length]; omega)
  rw [movedL_length, hl] at hr ⊢
  exact ⟨B, c, rfl, Sig.rw hr, hg⟩
theorem piece_arm (A : Option Addr) (n cap m : Nat) (xs : List Num) (w : World) (h : Sig w A n xs) (hs : sigOk xs = true) (hp : pieceB m = true) (h0 : 0 < n) :
    Calls Try.prog 48 #[.slice A n cap, .int .i64 0, .int .i64 m] w fun e w' => ∃ B c, e = .returned (.slice B m c) ∧ Hid (Sig w' B m (pieceL xs 0 m)) ∧ w.grownBy w' none := by
  have hm16 : m ≤ 16 := by rcases piece_cases hp with e | e | e | e <;> omega
  refine (PieceOf_yes A n cap 0 m xs w h hs hp h0).mono fun e w' hm => ?_
  obtain ⟨B, c, rfl, _, _, hr, _, hg⟩ := hm.out (0, 0) (by rw [pieceL_length]; omega)
  rw [pieceL_length] at hr ⊢
  exact ⟨B, c, rfl, Sig.rw hr, hg⟩

set_option maxRecDepth 100000 in
set_option maxHeartbeats 8000000 in
theorem FnPieceOf_walk (A : Option Addr) (n cap : Nat) (w : World) (h : Code w A n cap) :
    Calls Try.prog 11 #[.slice A n cap] w fun e w' => e = .returned (.bool true) ∧ Below w.heap.size w w' := by
  have hm := h.2.1
  unfold maxLen at hm
  rcases Nat.lt_or_ge 1048576 n with hn | hn
  · go_enter Try.func11, Try.ntmps11
    go_wp2_with fail
    go_ret
    exact ⟨rfl, Below.refl _ _⟩
  have H := Lib.hid h
  clear h
  go_enter Try.func11, Try.ntmps11
  go_wp2_with fail
  refine (DrawPieceOf_any _ _ _ _ H.out).mono ?_
  rintro e w1 ⟨B, c, xs, f, m, rfl, hm1, hm2, hd, hc, hcm, hs, hb⟩
  have hsz := hb.size
  have hl41 := hs.2.1
  have S := Lib.hid hs
  unfold maxLen at hcm
  clear H hd hs hm1 hm2
  rcases Bool.eq_false_or_eq_true (pieceOk xs f m) with ho | ho
  · obtain ⟨hso, hpb, f, rfl, hf⟩ := pieceOk_in ho
    have SO := Lib.hid hso
    obtain ⟨m, rfl⟩ : ∃ k : Nat, m = k := by rcases piece_cases hpb with rfl | rfl | rfl | rfl <;> exact ⟨_, rfl⟩
    have hm16 : 2 ≤ m ∧ m ≤ 16 := by rcases piece_cases hpb with e | e | e | e <;> omega
    have PB := Lib.hid hpb
    have SP := Lib.hid (piece_sig (f := f) (n := m) hso (by omega) hm16.2)
    clear ho hso hpb
    go_wp2_with fail
    refine (PieceOf_yes B xs.length c f m xs w1 S.out SO.out PB.out hf).mono ?_
    intro e w2 hmd
    obtain ⟨A2, c2, rfl, hc2, hcm2, hr2, ho2, hg2⟩ := hmd.out (0, 0) (by rw [pieceL_length]; omega)
    rw [pieceL_length] at hr2 hc2 ⊢
    have hb2 := below_grown hb hg2 hsz
    have hsz2 : w.heap.size ≤ w2.heap.size := Nat.le_trans hsz hg2.size
    have S2 := Lib.hid (S.out.grown hg2)
    clear hmd ho2 hg2
    unfold maxLen at hcm2
    go_wp2_with fail
    refine (sPieceOf_yes B xs.length c f m xs w2 S2.out SO.out PB.out hf).mono ?_
    intro e w3 hmd
    obtain ⟨A3, c3, rfl, hc3, hcm3, hr3, ho3, hg3⟩ := hmd.out (0, 0) (by rw [pieceL_length]; omega)
    rw [pieceL_length] at hr3 hc3 ⊢
    have hb3 := below_grown hb2 hg3 hsz2
    have hsz3 : w.heap.size ≤ w3.heap.size := Nat.le_trans hsz2 hg3.size
    have S3 := Lib.hid (S2.out.grown hg3)
    have Y3 := Lib.hid (Sig.rw (hr2.grown hg3))
    have Z3 := Lib.hid (Sig.rw hr3)
    clear hmd ho3 hg3 hr2 hr3
    unfold maxLen at hcm3
    go_wp2_with fail
    refine (sameSignal_eq A2 A3 m c2 c3 _ _ w3 Y3.out Z3.out (sig_same (pieceL_length _ _ _) SP.out)).mono ?_
    rintro e w' ⟨rfl, d, rfl⟩
    have hm0 : ((m : Int) == 0) = false := by simp; omega
    obtain ⟨b, o, rfl, hbs, hc1⟩ := Y3.out.2.2 0 (by omega)
    obtain ⟨b', o', rfl, hbs', hc2'⟩ := S3.out.2.2 f hf
    have e0 : (pieceL xs f m).getD 0 (0, 0) = xs.getD f (0, 0) := by
      have : (pieceL xs f m).getD 0 (0, 0) = pieceN xs f 0 := getD_range _ _ (by omega)
      rw [this]; unfold pieceN; rw [Nat.add_zero, Nat.mod_eq_of_lt hf]
    rw [e0] at hc1
    have hfin := fin_at (sigOk_parts SO.out).2 hf
    obtain ⟨p, q, hpq⟩ : ∃ p q, xs.getD f (0, 0) = (p, q) := ⟨_, _, rfl⟩
    rw [hpq] at hc1 hc2' hfin
    obtain ⟨f1, f2⟩ := finC_parts hfin
    have F1 := Lib.hid f1
    have F2 := Lib.hid f2
    unfold C at hc1 hc2'
    simp only [Nat.add_zero] at hc1 hc2'
    clear e0 hpq f1 f2 hfin
    go_wp2_with fail
    generalize hN : xs.length = N at *
    have HN := Lib.hid hN
    clear hN
    have i1 : (0 : Int) < (m : Int) := by omega
    have i0 : 0 < m := by omega
    have i2 : (0 : Int) ≤ (f : Int) := by omega
    have i3 : (f : Int) < (N : Int) := by omega
    have SAME := Lib.hid (sig_same (pieceL_length xs f m) SP.out)
    have hpm : Hid (pieceL (movedL xs ((N : Int) - f)) 0 m = pieceL xs f m) := by
      have := piece_moved (xs := xs) (f := f) (n := m) (by rw [HN.out]; exact hf)
      rw [HN.out] at this; exact this
    go_region_held3 (fun w' => w'.cell? ⟨b, o, none⟩ = some (.complex .f32 p q) ∧ w'.cell? ⟨b', o' + f, none⟩ = some (.complex .f32 p q)) (go_keep)
      (first
      | (go_at_call 39; refine (sameBits_eq p q p q _ F1.out F2.out F1.out F2.out rfl rfl).mono ?_; rintro e w' ⟨rfl, rfl⟩)
      | (go_at_call 50; refine (moved_arm _ N c f xs _ (S3.out.drewN (d + 1)) SO.out hf).mono ?_; rintro e w5 ⟨B5, c5, rfl, hs5, hg5⟩; have k5 := cell_grown (w := w3) hc1 ⟨hg5.os, hg5.tape, hg5.output, hg5.size, hg5.block⟩; have l5 := cell_grown (w := w3) hc2' ⟨hg5.os, hg5.tape, hg5.output, hg5.size, hg5.block⟩)
      | (go_at_call 48; refine (piece_arm _ N _ m _ _ hs5.out (moved_sig SO.out) PB.out (by omega)).mono ?_; rintro e w6 ⟨B6, c6, rfl, hs6, hg6⟩; have k6 := cell_grown k5 hg6; have l6 := cell_grown l5 hg6)
      | (go_at_call 44; refine (sameSignal_eq _ _ m _ _ _ _ _ hs6.out (((Y3.out.drewN (d + 1)).grown hg5).grown hg6) (by rw [hpm.out]; exact SAME.out)).mono ?_; rintro e w' ⟨rfl, d7, rfl⟩))
    have hb6 := below_grown (below_grown (below_drewN hb3 (d + 1)) hg5 hsz3) hg6 (Nat.le_trans hsz3 hg5.size)
    clear hg5 hg6 hs5 hs6 k5 l5 k6 l6
    go_wp2_with fail
    go_ret
    exact ⟨rfl, below_drewN hb6 _⟩
  · have NO := Lib.hid ho
    clear ho
    go_wp2_with fail
    refine (PieceOf_no B xs.length c f m xs w1 S.out NO.out).mono ?_
    rintro e w' ⟨rfl, d, rfl⟩
    go_wp2_with fail
    refine (sPieceOf_no B xs.length c f m xs _ (S.out.drewN d) NO.out).mono ?_
    intro e w2 hmd
    obtain ⟨A2, c2, rfl, hc2, hcm2, hr2, ho2, hg2⟩ := hmd.out (0, 0) (by simp)
    simp only [List.length_nil] at hr2 hc2 ⊢
    have hb2 := below_grown (below_drewN hb d) hg2 hsz
    clear hmd ho2 hg2
    unfold maxLen at hcm2
    go_wp2_with fail
    refine (sameSignal_eq none A2 0 _ _ [] [] _ (Sig.nil _ _) (Sig.rw hr2) (fun k hk => absurd hk (by omega))).mono ?_
    rintro e w' ⟨rfl, d2, rfl⟩
    go_wp2_with fail
    refine (alive_any _).mono ?_
    rintro e w' ⟨rfl, rfl⟩
    go_wp2_with fail
    go_ret
    refine ⟨rfl, ?_⟩
    repeat (first | exact hb2 | refine below_drewN ?_ _)
end Go.Proofs.Ytcnlgoghnlcndaa
