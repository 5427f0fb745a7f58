/- Walks: FastOf of spec (l3Fast, l1Told). -/
import Derived.Test.YtcnlgoghnlcndaaFq
import Derived.Test.YtcnlgoghnlcndaaT6
import Derived.Test.YtcnlgoghnlcndaaP1
import Derived.Deep.AppendLies
namespace Go.Proofs.Ytcnlgoghnlcndaa
open Go.RowKit Ieee

theorem alloc_size (w : World) (o : Obj) : (w.alloc o).heap.size = w.heap.size + 1 := by simp
/-- append(out, z), and where the row lies behind it. -/
theorem append_lies_num {ops : Array Oper} {rest : List Oper} {o : Oper} {a : Act} {Q : Exit → Act → World → Prop} (w : World) (hgd : o.guard = none) (s x : Operand)
    (ho : o.op = .call { callee := .builtin .append, args := #[s, x], argTypes := #[37, 37] })
    (base : Nat) (v : Value) (n : Nat) (xs : List Num) (z : Num)
    (hs : a.eval s = v) (hown : w.ownsRow base 34 1 v n (xs.map C)) (hx : a.eval x = .slice (some ⟨w.heap.size, 0, none⟩) 1 1) (hn : n ≤ 200) (hbase : base ≤ w.heap.size)
    (h : ∀ gg cap w', w'.ownsRow base 34 1 (.slice (some ⟨gg, 0, none⟩) (n + 1) cap) (n + 1) (xs.map C ++ [C z]) → (w.alloc (.cells #[C z] 34)).grownBy w' v.ownBlock → (v.ownBlock = some gg ∨ gg = w.heap.size + 1) → gg < w'.heap.size →
      wpList Try.prog ops Q rest (a.put o.dst (.slice (some ⟨gg, 0, none⟩) (n + 1) cap)) w') :
    wpList Try.prog ops Q (o :: rest) a (w.alloc (.cells #[C z] 34)) := by
  obtain ⟨i0, hi, hz0, hz1, hz2⟩ := info_parts info34
  exact wpList_append_lies (w.alloc (.cells #[C z] 34)) hgd s x 37 ho base 34 i0 (.complex .f32 0 0) 1 8 Try.underlying37 hi hz0 hz1 hz2 (by rfl) (by decide) v n (xs.map C) hs (hown.alloc _) ⟨w.heap.size, 0, none⟩ 1 1 [C z] hx rfl
    (World.news_of_block (cs := #[C z]) (t := 34) (fr := (0, 0)) (heap_alloc_new w _)) (by intro u hu; simp at hu; subst hu; rfl) (by decide) (by unfold maxLen; omega) (by omega)
    (by rw [alloc_size]; omega) (w.heap.size + 1) (alloc_size _ _) h

/-- Two rows that grow: the numbers at even places, and those at odd ones. -/
def TwoSt (x : Nat → Num) (w : World) (v u : Value) (a b : Nat) (wr : World) : Prop :=
  ∃ g c g' c', v = .slice (some ⟨g, 0, none⟩) a c ∧ u = .slice (some ⟨g', 0, none⟩) b c' ∧ g ≠ g' ∧ g < wr.heap.size ∧ g' < wr.heap.size ∧
    wr.ownsRow w.heap.size 34 1 v a ((evL a x).map C) ∧ wr.ownsRow w.heap.size 34 1 u b ((odL b x).map C) ∧ w.grownBy wr none
theorem TwoSt.start (x : Nat → Num) (w : World) : TwoSt x w (.slice (some ⟨w.heap.size, 0, none⟩) 0 0) (.slice (some ⟨w.heap.size + 1, 0, none⟩) 0 0) 0 0 ((w.alloc (.cells #[] 34)).alloc (.cells #[] 34)) := by
  have e : (w.alloc (.cells #[] 34)).heap.size = w.heap.size + 1 := by rw [alloc_size]
  have o1 : (w.alloc (.cells #[] 34)).ownsRow w.heap.size 34 1 (.slice (some ⟨w.heap.size, 0, none⟩) 0 0) 0 [] := World.ownsRow_made w #[] 0 (Nat.le_refl _) (Nat.zero_le _) rfl
  have o2 := World.ownsRow_made (e := 34) (size := 1) (w.alloc (.cells #[] 34)) #[] 0 (Nat.le_refl _) (Nat.zero_le _) rfl
  rw [e] at o2
  refine ⟨w.heap.size, 0, w.heap.size + 1, 0, rfl, rfl, by omega, by rw [alloc_size, e]; omega, by rw [alloc_size, e]; omega, o1.alloc _, own_mono o2 (by omega), grown_alloc (World.grownBy_alloc w _ _) _⟩
theorem evL_succ (a : Nat) (x : Nat → Num) : evL (a + 1) x = evL a x ++ [evX x a] := by unfold evL; rw [List.range_succ, List.map_append]; rfl
theorem odL_succ (a : Nat) (x : Nat → Num) : odL (a + 1) x = odL a x ++ [odX x a] := by unfold odL; rw [List.range_succ, List.map_append]; rfl
theorem TwoSt.even {x : Nat → Num} {w wr w' : World} {v u : Value} {a b gg cap : Nat} {o : Obj} (h : TwoSt x w v u a b wr)
    (h1 : w'.ownsRow w.heap.size 34 1 (.slice (some ⟨gg, 0, none⟩) (a + 1) cap) (a + 1) ((evL a x).map C ++ [C (evX x a)])) (h2 : (wr.alloc o).grownBy w' v.ownBlock)
    (h3 : v.ownBlock = some gg ∨ gg = wr.heap.size + 1) (h4 : gg < w'.heap.size) : TwoSt x w (.slice (some ⟨gg, 0, none⟩) (a + 1) cap) u (a + 1) b w' := by
  obtain ⟨g, c, g', c', rfl, rfl, hne, hl, hl', o1, o2, hg⟩ := h
  have hb : (Value.slice (some ⟨g, 0, none⟩) a c).ownBlock = some g := rfl
  rw [hb] at h2 h3
  have hgg : gg = g ∨ gg = wr.heap.size + 1 := by
    rcases h3 with h | h
    · left; cases h; rfl
    · exact .inr h
  have hsz := h2.size
  have e : (wr.alloc o).heap.size = wr.heap.size + 1 := by rw [alloc_size]
  refine ⟨gg, cap, g', c', rfl, rfl, by omega, h4, by omega, ?_, (o2.alloc _).kept h2 (.inr (by simp [Value.ownBlock]; omega)), gr_own0 (grown_alloc hg _) h2 (fun q e => by cases e; exact own_ge o1 g rfl)⟩
  rw [evL_succ, List.map_append]
  exact h1
theorem TwoSt.odd {x : Nat → Num} {w wr w' : World} {v u : Value} {a b gg cap : Nat} {o : Obj} (h : TwoSt x w v u a b wr)
    (h1 : w'.ownsRow w.heap.size 34 1 (.slice (some ⟨gg, 0, none⟩) (b + 1) cap) (b + 1) ((odL b x).map C ++ [C (odX x b)])) (h2 : (wr.alloc o).grownBy w' u.ownBlock)
    (h3 : u.ownBlock = some gg ∨ gg = wr.heap.size + 1) (h4 : gg < w'.heap.size) : TwoSt x w v (.slice (some ⟨gg, 0, none⟩) (b + 1) cap) a (b + 1) w' := by
  obtain ⟨g, c, g', c', rfl, rfl, hne, hl, hl', o1, o2, hg⟩ := h
  have hb : (Value.slice (some ⟨g', 0, none⟩) b c').ownBlock = some g' := rfl
  rw [hb] at h2 h3
  have hgg : gg = g' ∨ gg = wr.heap.size + 1 := by
    rcases h3 with h | h
    · left; cases h; rfl
    · exact .inr h
  have hsz := h2.size
  have e : (wr.alloc o).heap.size = wr.heap.size + 1 := by rw [alloc_size]
  refine ⟨g, c, gg, cap, rfl, rfl, by omega, by omega, h4, (o1.alloc _).kept h2 (.inr (by simp [Value.ownBlock]; omega)), ?_, gr_own0 (grown_alloc hg _) h2 (fun q e => by cases e; exact own_ge o2 g' rfl)⟩
  rw [odL_succ, List.map_append]
  exact h1
theorem TwoSt.ev {x : Nat → Num} {w wr : World} {v u : Value} {a b : Nat} (h : TwoSt x w v u a b wr) : wr.ownsRow w.heap.size 34 1 v a ((evL a x).map C) := by
  obtain ⟨_, _, _, _, _, _, _, _, _, o1, _, _⟩ := h; exact o1
theorem TwoSt.od {x : Nat → Num} {w wr : World} {v u : Value} {a b : Nat} (h : TwoSt x w v u a b wr) : wr.ownsRow w.heap.size 34 1 u b ((odL b x).map C) := by
  obtain ⟨_, _, _, _, _, _, _, _, _, _, o2, _⟩ := h; exact o2
theorem TwoSt.gr {x : Nat → Num} {w wr : World} {v u : Value} {a b : Nat} (h : TwoSt x w v u a b wr) : w.grownBy wr none := by
  obtain ⟨_, _, _, _, _, _, _, _, _, _, _, g⟩ := h; exact g
theorem TwoSt.rows {x : Nat → Num} {w wr : World} {v u : Value} {a b : Nat} (h : TwoSt x w v u a b wr) (ha : a ≤ 100) (hb : b ≤ 100) :
    ∃ A c B d, v = .slice A a c ∧ u = .slice B b d ∧ c ≤ maxLen ∧ d ≤ maxLen ∧ a ≤ c ∧ b ≤ d ∧ Sig wr A a (evL a x) ∧ Sig wr B b (odL b x) ∧ w.grownBy wr none := by
  obtain ⟨g, c, g', c', rfl, rfl, hne, hl, hl', o1, o2, hg⟩ := h
  obtain ⟨A, c1, e1, b1, b2, r1⟩ := own_form (T := C) (0, 0) o1 ha
  obtain ⟨B, d1, e2, b3, b4, r2⟩ := own_form (T := C) (0, 0) o2 hb
  exact ⟨A, c1, B, d1, e1, e2, b2, b4, b1, b3, Sig.rw r1, Sig.rw r2, hg⟩

set_option maxRecDepth 100000 in
set_option maxHeartbeats 1000000 in
theorem l1Told_yes (A : Option Addr) (n cap : Nat) (xs : List Num) (w : World) (h : Sig w A n xs) (hs : xs.all finN = true) :
    Calls Try.prog 132 #[.slice A n cap] w fun e w' => e = .returned (.tuple #[.slice A n cap, .bool true]) ∧ ∃ d, w.drewN d = w' := by
  go_enter Try.func132, Try.ntmps132
  go_wp2_with fail
  refine (l1All_any _ _ _ _ _ h).mono ?_
  rw [hs]
  rintro e w' ⟨rfl, d, rfl⟩
  go_wp2_with fail
  go_ret2
  exact ⟨rfl, _, rfl⟩

set_option maxRecDepth 100000 in
set_option maxHeartbeats 8000000 in
theorem l3Fast_one (A : Option Addr) (cap : Nat) (xs : List Num) (w : World) (h : Sig w A 1 xs) :
    Calls Try.prog 119 #[.slice A 1 cap] w (MadeT 34 C [atX xs 0] true w) := by
  obtain ⟨b, o, rfl, hbs, hc1⟩ := h.2.2 0 (by omega)
  have q : xs.getD 0 (0, 0) = atX xs 0 := rfl
  rw [q, Nat.add_zero] at hc1
  generalize atX xs 0 = z at *
  have ho : (w.alloc (.cells #[C z] 34)).ownsRow w.heap.size 34 1 (.slice (some ⟨w.heap.size, 0, none⟩) 1 1) 1 [C z] := World.ownsRow_lit w #[C z] 1 (Nat.le_refl _) (by unfold maxLen; omega) rfl
  have HO := Lib.hid ho
  unfold C at hc1 HO
  clear h q ho
  go_enter Try.func119, Try.ntmps119
  go_wp2_with fail
  go_ret2
  exact ⟨_, rfl, HO.out, World.grownBy_alloc w _ _⟩

set_option maxRecDepth 100000 in
set_option maxHeartbeats 8000000 in
theorem l3Fast_step (m h : Nat) (hh : 2 ^ m = h) (hm : m ≤ 3) (A : Option Addr) (cap : Nat) (xs : List Num) (w : World) (hsig : Sig w A (2 * h) xs) (hcf : CalmF (m + 1) (atX xs))
    (ih : ∀ (A : Option Addr) (cap : Nat) (xs : List Num) (w : World), Sig w A h xs → CalmF m (atX xs) → Calls Try.prog 119 #[.slice A h cap] w (MadeT 34 C (faL m (atX xs)) true w)) :
    Calls Try.prog 119 #[.slice A (2 * h : Nat) cap] w (MadeT 34 C (faL (m + 1) (atX xs)) true w) := by
  have h1 : 1 ≤ h := by have := Nat.two_pow_pos m; omega
  have h8 : h ≤ 8 := by rw [← hh]; exact Nat.pow_le_pow_right (n := 2) (by omega) hm
  obtain ⟨c1, c2⟩ := hcf.halves
  have CE := Lib.hid (calmF_ev c1)
  have CO := Lib.hid (calmF_od c2)
  have FE := Lib.hid (faL_ev m (atX xs))
  have FO := Lib.hid (faL_od m (atX xs))
  have PR := Lib.hid (fun (k : Nat) (hk : k < h) => hcf.pair (k := k) hm (by omega))
  have LO := Lib.hid (fun (k : Nat) (hk : k < h) => fa_low m (atX xs) (k := k) (by omega))
  have HI := Lib.hid (fun (k : Nat) => fa_high m (atX xs) k)
  have LA := Lib.hid (fun (k : Nat) (x : Nat → Num) (hk : k < h) => faL_at (m := m) (x := x) (k := k) (by omega))
  have LL := Lib.hid (fun (x : Nat → Num) => (faL_length m x).trans hh)
  have e2 : 2 ^ (m + 1) = 2 * h := by rw [Nat.pow_succ, hh, Nat.mul_comm]
  have FA : Hid (faL (m + 1) (atX xs) = (List.range (2 * h)).map (faN (m + 1) (atX xs))) := Lib.hid (by unfold faL; rw [e2])
  have FI : Hid ((faL (m + 1) (atX xs)).all finN = true) := Lib.hid (by
    rw [List.all_eq_true]
    intro v hv
    obtain ⟨p, hp, rfl⟩ := List.mem_map.1 hv
    exact hcf.fin (by omega) (List.mem_range.1 hp))
  rw [e2] at PR LO HI
  rw [hh] at CE CO FE FO HI
  have IH := Lib.hid ih
  have H := Lib.hid hsig
  clear hsig ih c1 c2 hcf e2
  generalize hfa : faN (m + 1) (atX xs) = F at *
  generalize hfe : faN m (evX (atX xs)) = FEv at *
  generalize hfo : faN m (odX (atX xs)) = FOd at *
  clear hfa
  obtain ⟨n, hn⟩ : ∃ n, 2 * h = n := ⟨_, rfl⟩
  rw [hn] at H PR LO HI FA ⊢
  have hd2 : (n : Int) / 2 = (h : Int) := by omega
  have hn16 : n ≤ 16 := by omega
  have hn1 : n ≠ 1 := by omega
  have hne : ((n : Int) == 1) = false := by simp; omega
  have ST := Lib.hid (TwoSt.start (atX xs) w)
  have esz := Lib.hid (alloc_size w (.cells #[] 34))
  go_enter Try.func119, Try.ntmps119
  go_wp2_with fail
  go_loopw [4, 5, 6] (fun v u i wr => ∃ a b : Nat, (a = b ∨ a = b + 1) ∧ a + b ≤ n ∧ i = .int .i64 (a + b : Nat) ∧ Hid (TwoSt (atX xs) w v u a b wr)) (fun _ _ i _ => n - (intOf i).toNat)
  case atStart => exact ⟨0, 0, .inl rfl, by omega, rfl, ST⟩
  case round =>
    obtain ⟨a, b, hab, hle, rfl, hst⟩ := hrel
    clear ST esz
    by_cases hlt : a + b < n
    · have hgr := hst.out.gr
      have hsz := hgr.size
      obtain ⟨b0, o, rfl, hbs, hc1⟩ := (H.out.grown hgr).2.2 (a + b) hlt
      have i1 : (0 : Int) ≤ ((a + b : Nat) : Int) := by omega
      have i2 : ((a + b : Nat) : Int) < (n : Int) := by omega
      rcases hab with hab | hab
      · have q1 : xs.getD (a + b) (0, 0) = evX (atX xs) a := by
          unfold evX atX
          rw [show a + b = 2 * a by omega]
        rw [q1] at hc1
        have hown := hst.out.ev
        have hmod : ((a + b : Nat) : Int) % 2 = 0 := by omega
        have HE := Lib.hid (fun (gg cap : Nat) (w' : World) (o : Obj) h1 h2 h3 h4 => (TwoSt.even (gg := gg) (cap := cap) (w' := w') (o := o) hst.out h1 h2 h3 h4))
        generalize hz : evX (atX xs) a = z at *
        have HZ := Lib.hid hz
        obtain ⟨k, hk⟩ : ∃ k, a + b = k := ⟨_, rfl⟩
        rw [hk] at hc1 i1 i2 hmod hlt hle ⊢
        unfold C at hc1
        have HAB := Lib.hid hab
        clear hz hgr q1 hst hab
        go_wp2_with (at_builtin; go_must (refine append_lies_num wr rfl _ _ rfl w.heap.size u4 a (evL a (atX xs)) z rfl hown rfl (by omega) hsz ?_); intro gg cap' w' ho' hg' h3 h4)
        go_roundw
        case rel => exact ⟨a + 1, b, .inr (by have := HAB.out; omega), by omega, by rw [← hk]; go_num, Lib.hid (HE.out _ _ _ _ ho' hg' h3 h4)⟩
        case measure => simp [intOf]; omega
      · have q1 : xs.getD (a + b) (0, 0) = odX (atX xs) b := by
          unfold odX atX
          rw [show a + b = 2 * b + 1 by omega]
        rw [q1] at hc1
        have hown := hst.out.od
        have hmod : ((a + b : Nat) : Int) % 2 = 1 := by omega
        have HE := Lib.hid (fun (gg cap : Nat) (w' : World) (o : Obj) h1 h2 h3 h4 => (TwoSt.odd (gg := gg) (cap := cap) (w' := w') (o := o) hst.out h1 h2 h3 h4))
        generalize hz : odX (atX xs) b = z at *
        have HZ := Lib.hid hz
        obtain ⟨k, hk⟩ : ∃ k, a + b = k := ⟨_, rfl⟩
        rw [hk] at hc1 i1 i2 hmod hlt hle ⊢
        unfold C at hc1
        have HAB := Lib.hid hab
        clear hz hgr q1 hst hab
        go_wp2_with (at_builtin; go_must (refine append_lies_num wr rfl _ _ rfl w.heap.size u5 b (odL b (atX xs)) z rfl hown rfl (by omega) hsz ?_); intro gg cap' w' ho' hg' h3 h4)
        go_roundw
        case rel => exact ⟨a, b + 1, .inl (by have := HAB.out; omega), by omega, by rw [← hk]; go_num, Lib.hid (HE.out _ _ _ _ ho' hg' h3 h4)⟩
        case measure => simp [intOf]; omega
    · have ea : h = a := by omega
      have eb : h = b := by omega
      subst ea
      subst eb
      obtain ⟨A1, k1, A2, k2, rfl, rfl, m1, m2, m3, m4, s1, s2, g2⟩ := hst.out.rows (by omega) (by omega)
      have S1 := Lib.hid s1
      have S2 := Lib.hid s2
      have G2 := Lib.hid g2
      clear s1 s2 g2 hst
      unfold maxLen at m1 m2
      go_wp2_with fail
      refine (IH.out _ k1 _ _ S1.out CE.out).mono ?_
      intro e w3 hmd
      obtain ⟨B3, c3, rfl, hc3, hcm3, hr3, ho3, hg3⟩ := hmd.out (0, 0) (by rw [LL.out]; omega)
      rw [LL.out] at hc3 hr3 ⊢
      rw [FE.out] at hr3
      obtain ⟨g3, _, e3, hb3, hl3⟩ := ho3.form (by rw [LL.out]; omega)
      cases e3
      have T3 := Lib.hid (S2.out.grown hg3)
      have R3 := Lib.hid (Sig.rw hr3)
      have G3 := Lib.hid (grown_trans G2.out hg3)
      clear hmd ho3 hr3 hg3
      unfold maxLen at hcm3
      go_wp2_with fail
      refine (IH.out _ k2 _ _ T3.out CO.out).mono ?_
      intro e w4 hmd
      obtain ⟨B4, c4, rfl, hc4, hcm4, hr4, ho4, hg4⟩ := hmd.out (0, 0) (by rw [LL.out]; omega)
      rw [LL.out] at hc4 hr4 ⊢
      rw [FO.out] at hr4
      obtain ⟨g4, _, e4, hb4, hl4⟩ := ho4.form (by rw [LL.out]; omega)
      cases e4
      have R4 := Lib.hid (R3.out.grown hg4)
      have Q4 := Lib.hid (Sig.rw hr4)
      have G4 := Lib.hid (grown_trans G3.out hg4)
      have hl34 : g3 < w4.heap.size := Nat.lt_of_lt_of_le hl3 hg4.size
      clear hmd ho4 hr4 hg4
      unfold maxLen at hcm4
      go_wp2_with (at_make; go_must (refine make_row (T := C) (0, 0) _ rfl _ _ 37 34 8 rfl Try.underlying37 info34 rfl (by decide) n n rfl rfl rfl (by omega) ?_); intro w5 ho hg; have hst : RowSt n (List.replicate n (0, 0)) w4 w5 := RowSt.start ho hg; clear ho hg)
      have hsr : 0 ≤ 16 / (n : Int) ∧ 16 / (n : Int) ≤ 8 := by
        constructor
        · exact Int.ediv_nonneg (by omega) (by omega)
        · have : 16 / (n : Int) < 9 := Int.ediv_lt_of_lt_mul (by omega) (by omega)
          omega
      have HSR := Lib.hid hsr
      clear hsr
      have TK := Lib.hid (fun k : Nat => turn_tk n k)
      go_loopw [13] (fun i wr => ∃ k : Nat, k ≤ h ∧ i = .int .i64 k ∧ ∃ ws, RowSt n ws w4 wr ∧ Hid (Paired h k F ws)) (fun i _ => h - (intOf i).toNat)
      case atStart => exact ⟨0, Nat.zero_le _, rfl, _, hst, Lib.hid (fun j hj => absurd hj (by omega))⟩
      case round =>
        obtain ⟨k, hk, rfl, ws, hr, hpd⟩ := hrel
        clear hst
        by_cases hlt : k < h
        · obtain ⟨_, _, e', hbs, hc1⟩ := (R4.out.grown hr.2.2).2.2 k hlt
          cases e'
          obtain ⟨_, _, e', hbs', hc2⟩ := (Q4.out.grown hr.2.2).2.2 k hlt
          cases e'
          rw [LA.out k _ hlt, hfe, Nat.zero_add] at hc1
          rw [LA.out k _ hlt, hfo, Nat.zero_add] at hc2
          have hp1 := PR.out k hlt
          have hlo := LO.out k hlt
          have hhi := HI.out k
          have hturn := TK.out k
          have hm1 : -64 ≤ -(16 / (n : Int)) * (k : Int) ∧ -(16 / (n : Int)) * (k : Int) ≤ 64 := by
            have q := mul_rng (a := -(16 / (n : Int))) (j := (k : Int)) (B := 8) (J := 8) (by have := HSR.out; omega) (by omega) (by omega)
            omega
          have HT := Lib.hid (fun W : World => sTurnOf_any (-(16 / (n : Int)) * (k : Int)) W (by omega) (by omega))
          rw [hturn] at HT
          have ek : -(k : Int) * (16 / (n : Int)) = -(16 / (n : Int)) * (k : Int) := by rw [Int.neg_mul, Int.neg_mul, Int.mul_comm]
          have i12 : IntKind.i64.wrap (-(16 / (n : Int)) * (k : Int)) = -(16 / (n : Int)) * (k : Int) := IntWalk.i64_in _ (by omega)
          have v5 : (16 : Int).tdiv (n : Int) = 16 / (n : Int) := Int.tdiv_eq_ediv_of_nonneg (by omega)
          have v6 : IntKind.i64.wrap (16 / (n : Int)) = 16 / (n : Int) := IntWalk.i64_in _ (by have := HSR.out; omega)
          have v7 : IntKind.i64.wrap (-(k : Int)) = -(k : Int) := IntWalk.i64_in _ (by omega)
          have HPut := Lib.hid (fun w' (hg : wr.grownBy w' none) => ((hr.grow hg).put k (F k)).put (k + h) (F (k + h)))
          have HCl := Lib.hid (fun w' (hg : wr.grownBy w' none) => (hr.grow hg).cell k (by omega))
          have HCl2 := Lib.hid (fun w' (hg : wr.grownBy w' none) => (hr.grow hg).cell (k + h) (by omega))
          have HPd := Lib.hid (Paired.step hlt (by rw [hr.1, hn]) hpd.out)
          rw [hlo] at HPut HPd
          rw [hhi] at HPut HPd
          generalize FEv k = a at *
          generalize FOd k = b at *
          generalize tn (tk n k) = tt at *
          have g1 := fun W : World => run_cmul32 (P := Try.prog) W 34 b.1 b.2 tt.1 tt.2 (mulN b tt).1 (mulN b tt).2 hp1.mul
          have g2 := fun W => cadd_run W 34 hp1.add1 hp1.add2
          have g3' := fun W => csub_run W 34 hp1.sub1 hp1.sub2
          have F1 := Lib.hid (finC_parts hp1.fmul)
          generalize addN a (mulN b tt) = p at *
          generalize subN a (mulN b tt) = q at *
          generalize mulN b tt = r at *
          unfold C at hc1 hc2
          have i1 : (0 : Int) ≤ (k : Int) := by omega
          have i2 : (k : Int) < (h : Int) := by omega
          have hn0 : ¬ n = 0 := by omega
          have hf3 : ¬ g3 = w4.heap.size := by omega
          have hf4 : ¬ w4.heap.size = g3 := by omega
          clear hp1 hlo hhi hr hpd hturn hm1
          go_wp2_with fail
          go_region_held3 (fun w' => w'.cell? ⟨g4, k, none⟩ = some (.complex .f32 b.1 b.2)) (go_keep)
            (first
            | (go_at_call 90; (first | (with_reducible refine (HT.out _).mono ?_) | (trace_state; fail)); rintro e w6 ⟨rfl, hg6'⟩; have hg6 := gr_drew hg6'; have l6 := cell_grown hc2 hg6))
          have c6 := cell_grown hc1 hg6
          obtain ⟨u1', f1'⟩ := HCl.out w6 hg6
          obtain ⟨u2', f2'⟩ := HCl2.out w6 hg6
          have hput := Lib.hid (HPut.out w6 hg6)
          unfold C at u1' u2'
          clear hc1 hc2 hg6 hg6' l6 HPut HCl HCl2 HT
          go_wp2_with fail
          refine (sfinite_yes _ _ _ F1.out.1 F1.out.2).mono ?_
          rintro e w' ⟨rfl, rfl⟩
          go_wp2_with fail
          go_roundw
          case rel => exact ⟨k + 1, by omega, by go_num, _, hput.out, HPd⟩
          case measure => simp [intOf]; omega
        · obtain rfl : k = h := by omega
          have hfin := Paired.all (by rw [hr.1, hn]) hpd.out
          rw [hn, ← FA.out] at hfin
          subst hfin
          have hsig := Lib.hid (hr.sig (o := 0) (m := n) (xs := faL (m + 1) (atX xs)) (by omega) (by omega) hr.1 (fun j _ => by rw [Nat.zero_add]))
          go_wp2_with fail
          refine (l1Told_yes _ _ _ _ _ hsig.out FI.out).mono ?_
          rintro e w' ⟨rfl, d, rfl⟩
          go_wp2_with fail
          go_ret2
          exact (hr.drewN d).doneT.from G4.out
end Go.Proofs.Ytcnlgoghnlcndaa
