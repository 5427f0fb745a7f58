/- Walks over signals: SignalOk, TapsOk, sameSignal. -/
import Derived.Test.YtcnlgoghnlcndaaW7
namespace Go.Proofs.Ytcnlgoghnlcndaa
open Go.RowKit Ieee

/-- A quiet callee behind draws: the draws add up. -/
theorem quiet_more {P : Program} {f : FuncId} {args : Array Value} {w : World} {a n : Nat} {v : Value}
    (h : Calls P f args (w.drewN (a + n)) fun e w' => e = .returned v ∧ w.drewN (a + n) = w') :
    Calls P f args (w.drewN (a + n)) fun e w'' => e = .returned v ∧ ∃ m, w'' = w.drewN (a + m) :=
  h.mono fun _ _ ⟨he, hm⟩ => ⟨he, n, hm.symm⟩
theorem quiet_more' {P : Program} {f : FuncId} {args : Array Value} {w : World} {a n : Nat} {v : Value}
    (h : Calls P f args (w.drewN (a + n)) fun e w' => e = .returned v ∧ ∃ d, (w.drewN (a + n)).drewN d = w') :
    Calls P f args (w.drewN (a + n)) fun e w'' => e = .returned v ∧ ∃ m, w'' = w.drewN (a + m) :=
  h.mono fun _ _ ⟨he, d, hm⟩ => ⟨he, n + d, by rw [← hm, World.drewN_drewN, Nat.add_assoc]⟩

/-- A number as a value; a signal in memory: at most 100 numbers. -/
abbrev Num := Nat × Nat
def C (p : Num) : Value := .complex .f32 p.1 p.2
def Sig (w : World) (A : Option Addr) (n : Nat) (xs : List Num) : Prop :=
  xs.length = n ∧ n ≤ 100 ∧ ∀ k, k < n → ∃ b o, A = some ⟨b, o, none⟩ ∧ b < w.heap.size ∧ w.cell? ⟨b, o + k, none⟩ = some (C (xs.getD k (0, 0)))

theorem Sig.nil (w : World) (A : Option Addr) : Sig w A 0 [] := ⟨rfl, by omega, fun k hk => absurd hk (by omega)⟩
theorem Sig.keep {w w' : World} {A : Option Addr} {n : Nat} {xs : List Num} (h : Sig w A n xs) (hb : Below w.heap.size w w') : Sig w' A n xs := by
  refine ⟨h.1, h.2.1, fun k hk => ?_⟩
  obtain ⟨b, o, e, hbR, hc⟩ := h.2.2 k hk
  exact ⟨b, o, e, Nat.lt_of_lt_of_le hbR hb.size, (hb.cell (p := ⟨b, o + k, none⟩) hbR).trans hc⟩
theorem Sig.drewN {w : World} {A : Option Addr} {n : Nat} {xs : List Num} (h : Sig w A n xs) (d : Nat) : Sig (w.drewN d) A n xs := h
theorem Sig.alloc {w : World} {A : Option Addr} {n : Nat} {xs : List Num} (h : Sig w A n xs) (o : Obj) : Sig (w.alloc o) A n xs :=
  h.keep ((Below.refl _ _).alloc (Nat.le_refl _) o)
/-- What the call owns reads as a signal. -/
theorem Sig.of_own {w : World} {base n : Nat} {v : Value} {xs : List Num} (h : w.ownsRow base 34 1 v n (xs.map C)) (hn : n ≤ 100) : ∃ A cap, v = .slice A n cap ∧ n ≤ cap ∧ Sig w A n xs := by
  have hl : xs.length = n := by have := h.1; simpa using this
  rcases h.2 with ⟨rfl, h0⟩ | ⟨g, cap, cur, rfl, _, hg, hc, _, _, ht⟩
  · exact ⟨none, 0, by rw [h0], by omega, hl, hn, fun k hk => absurd hk (by omega)⟩
  · refine ⟨_, cap, rfl, hc, hl, hn, fun k hk => ⟨g, 0, rfl, (Array.getElem?_eq_some_iff.1 hg).1, ?_⟩⟩
    have h1 : (xs.map C)[k]? = some (C (xs.getD k (0, 0))) := by
      have hk' : k < xs.length := by omega
      simp [List.getD, hk']
    have := h.cells (g := g) rfl k _ h1
    rwa [Addr.add_lit] at this

def finN (p : Num) : Bool := finC p.1 p.2
def sigOk (xs : List Num) : Bool := decide (xs.length ≤ 16) && xs.all finN

theorem all_take_succ {xs : List Num} {k : Nat} (hk : k < xs.length) (h : (xs.take k).all finN = true) (hx : finN (xs.getD k (0, 0)) = true) : (xs.take (k + 1)).all finN = true := by
  rw [List.take_succ_eq_append_getElem hk, List.all_append, h]
  have e : xs.getD k (0, 0) = xs[k] := by simp [List.getD, hk]
  rw [e] at hx
  simp [hx]
theorem all_false_of {xs : List Num} {k : Nat} (hk : k < xs.length) (hx : finN (xs.getD k (0, 0)) = false) : xs.all finN = false := by
  have e : xs.getD k (0, 0) = xs[k] := by simp [List.getD, hk]
  rw [e] at hx
  rw [← Bool.not_eq_true, List.all_eq_true]
  intro h
  rw [h _ (List.getElem_mem hk)] at hx
  cases hx

set_option maxHeartbeats 1000000 in
theorem SignalOk_any (A : Option Addr) (n cap : Nat) (xs : List Num) (w : World) (h : Sig w A n xs) :
    Calls Try.prog 74 #[.slice A n cap] w fun e w' => e = .returned (.bool (sigOk xs)) ∧ ∃ d, w.drewN d = w' := by
  obtain ⟨hl, hn, hc⟩ := h
  unfold sigOk
  rw [hl]
  by_cases hlong : 16 < n
  · have d1 : decide (n ≤ 16) = false := by simp; omega
    rw [d1, Bool.false_and]
    clear hc
    go_enter Try.func74, Try.ntmps74
    go_wp2_with fail
    go_ret
    exact ⟨rfl, 0, rfl⟩
  · have d1 : decide (n ≤ 16) = true := by simp; omega
    rw [d1, Bool.true_and]
    have HC := Lib.hid hc
    have HL := Lib.hid hl
    clear hc hl d1
    go_enter Try.func74, Try.ntmps74
    go_wp2_with fail
    go_loop [10] (fun i => ∃ k : Nat, k ≤ n ∧ i = .int .i64 k ∧ Hid ((xs.take k).all finN = true)) (fun i => n - (intOf i).toNat)
    case atStart => exact ⟨0, Nat.zero_le _, rfl, rfl⟩
    case round =>
      obtain ⟨k, hk, rfl, hall⟩ := hrel
      by_cases hlt : k < n
      · obtain ⟨b, o, rfl, hbs, hcell⟩ := HC.out k hlt
        have hkx : k < xs.length := by have := HL.out; omega
        obtain ⟨p, q, hpq⟩ : ∃ p q, xs.getD k (0, 0) = (p, q) := ⟨_, _, rfl⟩
        rw [hpq] at hcell
        unfold C at hcell
        simp only at hcell
        have HP := Lib.hid hpq
        clear hpq
        rcases Bool.eq_false_or_eq_true (finC p q) with hf | hf
        · obtain ⟨f1, f2⟩ := finC_parts hf
          have F1 := Lib.hid f1
          have F2 := Lib.hid f2
          have HF := Lib.hid hf
          clear f1 f2 hf
          go_wp2_with (go_at_call 94; refine (finite_yes _ _ _ F1.out F2.out).mono ?_; rintro e w' ⟨rfl, rfl⟩)
          go_round
          case rel => exact ⟨k + 1, by omega, by go_num, all_take_succ hkx hall.out (by rw [HP.out]; exact HF.out)⟩
          case measure => simp [intOf]; omega
        · have HF := Lib.hid hf
          clear hf
          go_wp2_with (go_at_call 94; refine (Finite_any _ _ _).mono ?_; rw [HF.out]; rintro e w' ⟨rfl, d, rfl⟩)
          go_ret
          exact ⟨ret_bool (all_false_of hkx (by rw [HP.out]; exact HF.out)).symm, _, rfl⟩
      · go_wp2_with fail
        go_ret
        refine ⟨ret_bool ?_, 0, rfl⟩
        have := hall.out
        rwa [List.take_of_length_le (by have := HL.out; omega), eq_comm] at this

/-! spec.l1All, spec.SignalOk -/
set_option maxHeartbeats 1000000 in
theorem l1All_any (A : Option Addr) (n cap : Nat) (xs : List Num) (w : World) (h : Sig w A n xs) :
    Calls Try.prog 112 #[.slice A n cap] w fun e w' => e = .returned (.bool (xs.all finN)) ∧ ∃ d, w.drewN d = w' := by
  obtain ⟨hl, hn, hc⟩ := h
  have HC := Lib.hid hc
  have HL := Lib.hid hl
  clear hc hl
  go_enter Try.func112, Try.ntmps112
  go_wp2_with fail
  go_loop [3] (fun i => ∃ k : Nat, k ≤ n ∧ i = .int .i64 k ∧ Hid ((xs.take k).all finN = true)) (fun i => n - (intOf i).toNat)
  case atStart => exact ⟨0, Nat.zero_le _, rfl, rfl⟩
  case round =>
    obtain ⟨k, hk, rfl, hall⟩ := hrel
    by_cases hlt : k < n
    · obtain ⟨b, o, rfl, hbs, hcell⟩ := HC.out k hlt
      have hkx : k < xs.length := by have := HL.out; omega
      obtain ⟨p, q, hpq⟩ : ∃ p q, xs.getD k (0, 0) = (p, q) := ⟨_, _, rfl⟩
      rw [hpq] at hcell
      unfold C at hcell
      simp only at hcell
      have HP := Lib.hid hpq
      clear hpq
      rcases Bool.eq_false_or_eq_true (finC p q) with hf | hf
      · obtain ⟨f1, f2⟩ := finC_parts hf
        have F1 := Lib.hid f1
        have F2 := Lib.hid f2
        have HF := Lib.hid hf
        clear f1 f2 hf
        go_wp2_with (go_at_call 41; refine (sfinite_yes _ _ _ F1.out F2.out).mono ?_; rintro e w' ⟨rfl, rfl⟩)
        go_round
        case rel => exact ⟨k + 1, by omega, by go_num, all_take_succ hkx hall.out (by rw [HP.out]; exact HF.out)⟩
        case measure => simp [intOf]; omega
      · have HF := Lib.hid hf
        clear hf
        go_wp2_with (go_at_call 41; refine (sFinite_any _ _ _).mono ?_; rw [HF.out]; rintro e w' ⟨rfl, d, rfl⟩)
        go_ret
        exact ⟨ret_bool (all_false_of hkx (by rw [HP.out]; exact HF.out)).symm, _, rfl⟩
    · go_wp2_with fail
      go_ret
      refine ⟨ret_bool ?_, 0, rfl⟩
      have := hall.out
      rwa [List.take_of_length_le (by have := HL.out; omega), eq_comm] at this

set_option maxHeartbeats 400000 in
theorem sSignalOk_any (A : Option Addr) (n cap : Nat) (xs : List Num) (w : World) (h : Sig w A n xs) :
    Calls Try.prog 97 #[.slice A n cap] w fun e w' => e = .returned (.bool (sigOk xs)) ∧ ∃ d, w.drewN d = w' := by
  have hl := h.1
  have hn := h.2.1
  unfold sigOk
  rw [hl]
  clear hl
  by_cases hlong : 16 < n
  · have d1 : decide (n ≤ 16) = false := by simp; omega
    rw [d1, Bool.false_and]
    go_enter Try.func97, Try.ntmps97
    go_wp2_with fail
    go_ret
    exact ⟨rfl, 0, rfl⟩
  · have d1 : decide (n ≤ 16) = true := by simp; omega
    rw [d1, Bool.true_and]
    go_enter Try.func97, Try.ntmps97
    go_wp2_with (go_at_call 112; refine (l1All_any _ _ _ _ _ h).mono ?_; rintro e w' ⟨rfl, d, rfl⟩)
    go_ret
    exact ⟨rfl, _, rfl⟩

/-! sameSignal -/
def valEq (p q : Num) : Prop := fin single p.1 = true ∧ fin single p.2 = true ∧ fin single q.1 = true ∧ fin single q.2 = true ∧ iv single p.1 = iv single q.1 ∧ iv single p.2 = iv single q.2
theorem valEq.refl {p : Num} (h : finN p = true) : valEq p p := ⟨(finC_parts h).1, (finC_parts h).2, (finC_parts h).1, (finC_parts h).2, rfl, rfl⟩

set_option maxHeartbeats 1000000 in
theorem sameSignal_eq (A B : Option Addr) (n c1 c2 : Nat) (xs ys : List Num) (w : World) (h : Sig w A n xs) (h' : Sig w B n ys)
    (hv : ∀ k, k < n → valEq (xs.getD k (0, 0)) (ys.getD k (0, 0))) :
    Calls Try.prog 44 #[.slice A n c1, .slice B n c2] w fun e w' => e = .returned (.bool true) ∧ ∃ d, w.drewN d = w' := by
  have hn := h.2.1
  have HX := Lib.hid h.2.2
  have HY := Lib.hid h'.2.2
  have HV := Lib.hid hv
  clear h h' hv
  go_enter Try.func44, Try.ntmps44
  go_wp2_with fail
  go_loopw [5] (fun i wr => ∃ k : Nat, k ≤ n ∧ i = .int .i64 k ∧ ∃ d, w.drewN d = wr) (fun i _ => n - (intOf i).toNat)
  case atStart => exact ⟨0, Nat.zero_le _, rfl, 0, rfl⟩
  case round =>
    obtain ⟨k, hk, rfl, d, rfl⟩ := hrel
    by_cases hlt : k < n
    · obtain ⟨b, o, rfl, hbs, hcell⟩ := HX.out k hlt
      obtain ⟨b', o', rfl, hbs', hcell'⟩ := HY.out k hlt
      have hvk := HV.out k hlt
      obtain ⟨p, q, hpq⟩ : ∃ p q, xs.getD k (0, 0) = (p, q) := ⟨_, _, rfl⟩
      obtain ⟨r, s, hrs⟩ : ∃ r s, ys.getD k (0, 0) = (r, s) := ⟨_, _, rfl⟩
      rw [hpq] at hcell hvk
      rw [hrs] at hcell' hvk
      unfold C at hcell hcell'
      unfold valEq at hvk
      simp only at hcell hcell' hvk
      have HVK := Lib.hid hvk
      clear hpq hrs hvk
      go_wp2_with fail
      go_quiet ((go_at_call 39; exact quiet_more ((sameBits_eq _ _ _ _ _ HVK.out.1 HVK.out.2.1 HVK.out.2.2.1 HVK.out.2.2.2.1 HVK.out.2.2.2.2.1 HVK.out.2.2.2.2.2))))
      go_wp2_with fail
      go_roundw
      case rel => exact ⟨k + 1, by omega, by go_num, _, rfl⟩
      case measure => simp [intOf]; omega
    · go_wp2_with fail
      go_ret
      exact ⟨rfl, d, rfl⟩
end Go.Proofs.Ytcnlgoghnlcndaa
