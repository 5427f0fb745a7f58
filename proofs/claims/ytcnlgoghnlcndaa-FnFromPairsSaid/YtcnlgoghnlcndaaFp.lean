/- Walk: FromPairs (impl). -/
import Derived.Test.YtcnlgoghnlcndaaTo
import Derived.WalkMore
namespace Go.Proofs.Ytcnlgoghnlcndaa
open Go.RowKit Ieee

theorem lot_fits {n h B Q : Nat} (hn : n = Q * (2 * h)) (hB : B * (2 * h) < n) : B * (2 * h) + 2 * h ≤ n ∧ (B + 1) * (2 * h) = B * (2 * h) + 2 * h := by
  have e : (B + 1) * (2 * h) = B * (2 * h) + 2 * h := by rw [Nat.add_mul, Nat.one_mul]
  refine ⟨?_, e⟩
  rw [← e, hn]
  rw [hn] at hB
  have : B < Q := Nat.lt_of_mul_lt_mul_right hB
  exact Nat.mul_le_mul_right _ this
theorem lots_of {m s : Nat} (hs : s < m) : ∃ Q, 2 ^ m = Q * (2 * 2 ^ s) := by
  refine ⟨2 ^ (m - (s + 1)), ?_⟩
  rw [show 2 * 2 ^ s = 2 ^ (s + 1) by rw [Nat.pow_succ, Nat.mul_comm], ← Nat.pow_add]
  congr 1
  omega
/-- The turn of a pair, as FromPairs reckons it. -/
theorem turn_fp {s k : Nat} (hs : s < 4) (hk : k < 2 ^ s) : (-(k : Int) * 16).tdiv ((2 * 2 ^ s : Nat) : Int) = -(16 / ((2 ^ (s + 1) : Nat) : Int)) * (k : Int) ∧ -16 ≤ -(16 / ((2 ^ (s + 1) : Nat) : Int)) * (k : Int) ∧ -(16 / ((2 ^ (s + 1) : Nat) : Int)) * (k : Int) ≤ 0 := by
  have : s = 0 ∨ s = 1 ∨ s = 2 ∨ s = 3 := by omega
  rcases this with rfl | rfl | rfl | rfl <;> (revert hk; revert k; decide +kernel)

set_option maxRecDepth 100000 in
set_option maxHeartbeats 8000000 in
theorem FromPairs_yes (m n : Nat) (hn : 2 ^ m = n) (hm : m ≤ 4) (A : Option Addr) (cap : Nat) (xs : List Num) (w : World) (h : Sig w A n xs) (hs : sizeOk xs = true) (hc : CalmF m (atX xs)) :
    Calls Try.prog 64 #[.slice A n cap] w (MadeT 34 C (faL m (atX xs)) true w) := by
  have hn16 : n ≤ 16 := by rw [← hn]; exact pow_le16 hm
  have hn1 : 1 ≤ n := by rw [← hn]; exact Nat.two_pow_pos m
  have H := Lib.hid h
  have HS := Lib.hid hs
  have IT := Lib.hid (fun (W : World) (hW : Sig W A n xs) => InTurnedOrder_yes m n hn hm A cap xs W hW hs)
  have FA : Hid ((List.range n).map (stg m m (atX xs)) = faL m (atX xs)) := Lib.hid (by rw [← hn]; exact stg_all m (atX xs))
  have PR := Lib.hid (fun (s : Nat) (hs : s < m) (B k : Nat) (hk : k < 2 ^ s) => stg_pair hm hs hc B hk)
  have HQ := Lib.hid (fun (s : Nat) (hs : s < m) => hn ▸ lots_of hs)
  have PW : Hid (∀ s, s ≤ m → 2 ^ s ≤ n) := Lib.hid (fun s hs => by rw [← hn]; exact Nat.pow_le_pow_right (by omega) hs)
  have PN : Hid (∀ s, 2 ^ (s + 1) ≤ n → s < m) := Lib.hid (fun s hs => by rw [← hn] at hs; exact (Nat.pow_le_pow_iff_right (by omega)).1 hs)
  generalize stg m = G at *
  generalize atX xs = X at *
  clear h hs hc
  go_enter Try.func64, Try.ntmps64
  go_wp2
  go_step3
  go_wp2_with fail
  refine (SizeOk_any _ _ _ _ _ H.out).mono ?_
  rw [HS.out]
  rintro e w' ⟨rfl, d, rfl⟩
  go_wp2_with fail
  refine (IT.out _ (H.out.drewN d)).mono ?_
  rintro e w2 ⟨rfl, hr0⟩
  have hr : RowSt n ((List.range n).map (G 0 X)) w w2 := ⟨hr0.1, hr0.2.1, ⟨hr0.2.2.os, hr0.2.2.tape, hr0.2.2.output, hr0.2.2.size, hr0.2.2.block⟩⟩
  clear hr0
  go_wp2_with fail
  go_step3
  go_wp2_with fail
  go_loopw [5, 6] (fun t sz wr => t = .bool true ∧ ∃ s : Nat, s ≤ m ∧ sz = .int .i64 (2 * 2 ^ s : Nat) ∧ RowSt n ((List.range n).map (G s X)) w wr) (fun _ sz _ => 64 - (intOf sz).toNat)
  case atStart => exact ⟨rfl, 0, Nat.zero_le _, rfl, hr⟩
  case round =>
    obtain ⟨rfl, s, hsm, rfl, hr1⟩ := hrel
    clear hr
    have e2 : 2 ^ (s + 1) = 2 * 2 ^ s := by rw [Nat.pow_succ, Nat.mul_comm]
    have hh1 : 1 ≤ 2 ^ s := Nat.two_pow_pos s
    have hbeg := Rnd.begin (G (s + 1) X) (G s X) n (2 ^ s)
    have pws := PW.out s hsm
    by_cases hlt : s < m
    · have hle := PW.out (s + 1) hlt
      obtain ⟨Q, hQ⟩ := HQ.out s hlt
      have prs := PR.out s hlt
      have tf := fun (k : Nat) (hk : k < 2 ^ s) => turn_fp (s := s) (k := k) (by omega) hk
      have tkk := fun k : Nat => turn_tk (2 ^ (s + 1)) k
      rw [e2] at hle prs tf tkk
      have ENext : Hid (2 * 2 ^ s * 2 = 2 * 2 ^ (s + 1)) := Lib.hid (by rw [e2, Nat.mul_comm])
      clear e2
      generalize hh : 2 ^ s = h at *
      obtain ⟨z, hz⟩ : ∃ z, 2 * h = z := ⟨_, rfl⟩
      rw [hz] at hle prs tf tkk ENext hQ ⊢
      have PRs := Lib.hid prs
      have TF := Lib.hid tf
      have TK := Lib.hid tkk
      have HB := Lib.hid hbeg
      have HQ' := Lib.hid hQ
      clear prs tf tkk hbeg hQ hh
      generalize hgg : G (s + 1) X = g at *
      have HG := Lib.hid hgg
      clear hgg
      generalize G s X = f at *
      have hd2 : (z : Int) / 2 = (h : Int) := by omega
      have hzl : (z : Int) ≤ (n : Int) := by omega
      go_wp2_with fail
      go_loopw [5, 8] (fun t fr wr => t = .bool true ∧ ∃ B F : Nat, Hid (B * z = F) ∧ fr = .int .i64 F ∧ F ≤ n ∧ ∃ ws, RowSt n ws w wr ∧ Hid (Rnd g f n h F 0 ws)) (fun _ fr _ => n - (intOf fr).toNat)
      case atStart => exact ⟨rfl, 0, 0, Lib.hid (Nat.zero_mul _), rfl, Nat.zero_le _, _, hr1, HB⟩
      case round =>
        obtain ⟨rfl, B, F, hBF, rfl, hFn, ws, hr2, hd⟩ := hrel
        clear hr1
        by_cases hlF : F < n
        · have hfit : F + z ≤ n ∧ (B + 1) * z = F + z := by
            obtain ⟨a1, a2⟩ := lot_fits (n := n) (h := h) (B := B) (Q := Q) (by rw [hz]; exact HQ'.out) (by rw [hz, hBF.out]; exact hlF)
            rw [hz, hBF.out] at a1 a2
            exact ⟨a1, a2⟩
          obtain ⟨hf1, hf2⟩ := hfit
          have HF2 := Lib.hid hf2
          clear hf2
          go_wp2_with fail
          go_loopw [5, 36] (fun t k wr => t = .bool true ∧ ∃ k' : Nat, k = .int .i64 k' ∧ k' ≤ h ∧ ∃ ws, RowSt n ws w wr ∧ Hid (Rnd g f n h F k' ws)) (fun _ k _ => h - (intOf k).toNat)
          case atStart => exact ⟨rfl, 0, rfl, Nat.zero_le _, _, hr2, hd⟩
          case round =>
            obtain ⟨rfl, k, rfl, hkh, ws, hr, hd⟩ := hrel
            clear hr2
            by_cases hlk : k < h
            · obtain ⟨hp1, hlo, hhi⟩ := PRs.out B k hlk
              rw [hBF.out] at hp1 hlo hhi
              obtain ⟨at1, at2⟩ := hd.out.at hlk (by omega)
              obtain ⟨hc1, f1⟩ := hr.cell (F + k) (by omega)
              obtain ⟨hc2, f2⟩ := hr.cell (F + k + h) (by omega)
              rw [at1] at hc1
              rw [at2] at hc2
              have HPd := Lib.hid (hd.out.step hlk (by omega))
              have HPut := Lib.hid (fun w' (hg : wr.grownBy w' none) => ((hr.grow hg).put (F + k) (g (F + k))).put (F + k + h) (g (F + k + h)))
              have HCl := Lib.hid (fun w' (hg : wr.grownBy w' none) => (hr.grow hg).cell (F + k) (by omega))
              have HCl2 := Lib.hid (fun w' (hg : wr.grownBy w' none) => (hr.grow hg).cell (F + k + h) (by omega))
              obtain ⟨tfk, tf1, tf2⟩ := TF.out k hlk
              have tkk := TK.out k
              have HT := Lib.hid (fun W : World => TurnOf_any (-(16 / (z : Int)) * (k : Int)) W (by omega) (by omega))
              rw [tkk] at HT
              rw [hlo] at HPut HPd
              rw [hhi] at HPut HPd
              generalize f (F + k) = a at *
              generalize f (F + k + h) = b at *
              generalize tn (tk z k) = tt at *
              have HP := Lib.hid (fun W => pair_any a b tt W hp1)
              generalize addN a (mulN b tt) = p at *
              generalize subN a (mulN b tt) = q at *
              unfold C at hc1 hc2 HP
              have i1 : (0 : Int) ≤ (k : Int) := by omega
              have i2 : (k : Int) < (h : Int) := by omega
              have i3 : (0 : Int) ≤ (F : Int) := by omega
              clear hp1 hlo hhi hr hd at1 at2
              go_wp2_with fail
              have i4 : (F : Int) + (k : Int) < (n : Int) := by omega
              have i5 : (F : Int) + (k : Int) + (h : Int) < (n : Int) := by omega
              have i6 : (0 : Int) ≤ (F : Int) + (k : Int) := by omega
              have i7 : (0 : Int) ≤ (F : Int) + (k : Int) + (h : Int) := by omega
              have i8 : ¬ (z : Int) = 0 := by omega
              have i11 : ((z : Int) == 0) = false := by simp; omega
              have i12 : IntKind.i64.wrap (-(16 / (z : Int)) * (k : Int)) = -(16 / (z : Int)) * (k : Int) := IntWalk.i64_in _ (by omega)
              have ew : IntKind.i64.wrap ((IntKind.i64.wrap (IntKind.i64.wrap (-(k : Int)) * 16)).tdiv (z : Int)) = -(16 / (z : Int)) * (k : Int) := by
                rw [IntWalk.i64_in (-(k : Int)) (by omega), IntWalk.i64_in (-(k : Int) * 16) (by omega), tfk, i12]
              have i13 : ¬ z = 0 := by omega
              have i9 : ((F : Int) + (k : Int)).toNat = F + k := by omega
              have i10 : ((F : Int) + (k : Int) + (h : Int)).toNat = F + k + h := by omega
              go_region_held3 (fun w' => w'.cell? ⟨w.heap.size, F + k, none⟩ = some (.complex .f32 a.1 a.2) ∧ w'.cell? ⟨w.heap.size, F + k + h, none⟩ = some (.complex .f32 b.1 b.2)) (go_keep)
                (first
                | (go_at_call 92; (first | (with_reducible refine (HT.out _).mono ?_) | (rw [ew]; with_reducible refine (HT.out _).mono ?_)); rintro e w5 ⟨rfl, hg5'⟩; have hg5 := gr_drew hg5'; have k5 := cell_grown hc1 hg5; have l5 := cell_grown hc2 hg5)
                | (go_at_call 110; refine (HP.out _).mono ?_; rintro e w' ⟨rfl, rfl⟩))
              have hr5 := HCl.out w5 hg5
              have hr6 := HCl2.out w5 hg5
              obtain ⟨u1', f1'⟩ := hr5
              obtain ⟨u2', f2'⟩ := hr6
              have hput := Lib.hid (HPut.out w5 hg5)
              unfold C at u1' u2'
              clear hc1 hc2 f1 f2 hg5 hg5' k5 l5 HPut HCl HCl2 HT HP
              go_wp2_with fail
              go_roundw
              case rel => exact ⟨rfl, k + 1, by go_num, by omega, _, hput.out, HPd⟩
              case measure => simp [intOf]; omega
            · obtain rfl : k = h := by omega
              go_wp2_with fail
              go_roundw
              case rel => exact ⟨rfl, B + 1, F + z, HF2, by go_num, hf1, ws, hr, Lib.hid (by have := hd.out.next; rwa [hz] at this)⟩
              case measure => simp [intOf]; omega
        · have hFe : F = n := by omega
          have hws := hd.out.done (by omega)
          subst hws
          go_wp2_with fail
          go_roundw
          case rel => exact ⟨rfl, s + 1, hlt, by rw [← ENext.out]; go_num, by rw [HG.out]; exact hr2⟩
          case measure => simp [intOf]; omega
    · obtain rfl : s = m := by omega
      rw [FA.out] at hr1
      have hnz : ¬ ((2 * 2 ^ s : Nat) : Int) ≤ (n : Int) := by omega
      go_wp2_with fail
      go_ret2
      exact hr1.doneT
end Go.Proofs.Ytcnlgoghnlcndaa
