/- Walk: FromPairs (spec). -/
import Derived.Test.YtcnlgoghnlcndaaFp
import Derived.Test.YtcnlgoghnlcndaaT6
namespace Go.Proofs.Ytcnlgoghnlcndaa
open Go.RowKit Ieee

theorem lot_eq {B z L F : Nat} (hB : B * z = L) (hF : F % z = 0) (h1 : F ≤ L) (h2 : L < F + z) : L = F := by
  subst hB
  obtain ⟨q, hq⟩ : ∃ q, F = z * q := ⟨F / z, by have := Nat.div_add_mod F z; omega⟩
  subst hq
  rw [Nat.mul_comm z q] at h1 h2 ⊢
  have e : (q + 1) * z = q * z + z := by rw [Nat.add_mul, Nat.one_mul]
  rw [← e] at h2
  have a1 : B < q + 1 := Nat.lt_of_mul_lt_mul_right h2
  have hz : 0 < z := by
    rcases Nat.eq_zero_or_pos z with h | h
    · subst h; simp at h2
    · exact h
  have a2 : q ≤ B := Nat.le_of_mul_le_mul_right h1 hz
  have : B = q := by omega
  rw [this]

set_option maxRecDepth 100000 in
set_option maxHeartbeats 8000000 in
theorem sFromPairs_yes (m n : Nat) (hn : 2 ^ m = n) (hm : m ≤ 4) (A : Option Addr) (cap : Nat) (xs : List Num) (w : World) (h : Sig w A n xs) (hs : sizeOk xs = true) (hc : CalmF m (atX xs)) :
    Calls Try.prog 65 #[.slice A n cap] w (MadeT 34 C (faL m (atX xs)) true w) := by
  have hn16 : n ≤ 16 := by rw [← hn]; exact pow_le16 hm
  have hn1 : 1 ≤ n := by rw [← hn]; exact Nat.two_pow_pos m
  have H := Lib.hid h
  have HS := Lib.hid hs
  have IT := Lib.hid (fun (W : World) (hW : Sig W A n xs) => sInTurnedOrder_yes m n hn hm A cap xs W hW hs)
  have FA : Hid ((List.range n).map (stg m m (atX xs)) = faL m (atX xs)) := Lib.hid (by rw [← hn]; exact stg_all m (atX xs))
  have PR := Lib.hid (fun (s : Nat) (hs : s < m) (B k : Nat) (hk : k < 2 ^ s) => stg_pair hm hs hc B hk)
  have HQ := Lib.hid (fun (s : Nat) (hs : s < m) => hn ▸ lots_of hs)
  have PW : Hid (∀ s, s ≤ m → 2 ^ s ≤ n) := Lib.hid (fun s hs => by rw [← hn]; exact Nat.pow_le_pow_right (by omega) hs)
  have PN : Hid (∀ s, 2 ^ (s + 1) ≤ n → s < m) := Lib.hid (fun s hs => by rw [← hn] at hs; exact (Nat.pow_le_pow_iff_right (by omega)).1 hs)
  have FI : Hid (∀ s, s ≤ m → ((List.range n).map (stg m s (atX xs))).all finN = true) := Lib.hid (fun s hsm => by
    rw [List.all_eq_true]
    intro v hv
    obtain ⟨p, _, rfl⟩ := List.mem_map.1 hv
    exact stg_fin hm hsm hc p)
  generalize stg m = G at *
  generalize atX xs = X at *
  clear h hs hc
  go_enter Try.func65, Try.ntmps65
  go_wp2_with fail
  refine (sSizeOk_any _ _ _ _ _ H.out).mono ?_
  rw [HS.out]
  rintro e w' ⟨rfl, d, rfl⟩
  go_wp2_with fail
  refine (IT.out _ (H.out.drewN d)).mono ?_
  rintro e w2 ⟨rfl, hr0⟩
  have hr : RowSt n ((List.range n).map (G 0 X)) w w2 := ⟨hr0.1, hr0.2.1, ⟨hr0.2.2.os, hr0.2.2.tape, hr0.2.2.output, hr0.2.2.size, hr0.2.2.block⟩⟩
  clear hr0
  go_wp2_with fail
  go_loopw [5] (fun sz wr => ∃ s : Nat, s ≤ m ∧ sz = .int .i64 (2 * 2 ^ s : Nat) ∧ RowSt n ((List.range n).map (G s X)) w wr) (fun sz _ => 64 - (intOf sz).toNat)
  case atStart => exact ⟨0, Nat.zero_le _, rfl, hr⟩
  case round =>
    obtain ⟨s, hsm, rfl, hr1⟩ := hrel
    clear hr
    have e2 : 2 ^ (s + 1) = 2 * 2 ^ s := by rw [Nat.pow_succ, Nat.mul_comm]
    have hh1 : 1 ≤ 2 ^ s := Nat.two_pow_pos s
    have hbeg := Rnd.begin (G (s + 1) X) (G s X) n (2 ^ s)
    have pws := PW.out s hsm
    by_cases hlt : s < m
    · have hle := PW.out (s + 1) hlt
      obtain ⟨Q, hQ⟩ := HQ.out s hlt
      have prs := PR.out s hlt
      have tf := fun (k : Nat) (hk : k < 2 ^ s) => turn_fp (s := s) (k := k) (by omega) hk
      have tkk := fun k : Nat => turn_tk (2 ^ (s + 1)) k
      rw [e2] at hle prs tf tkk
      have ENext : Hid (2 * 2 ^ s * 2 = 2 * 2 ^ (s + 1)) := Lib.hid (by rw [e2, Nat.mul_comm])
      clear e2
      generalize hh : 2 ^ s = h at *
      obtain ⟨z, hz⟩ : ∃ z, 2 * h = z := ⟨_, rfl⟩
      rw [hz] at hle prs tf tkk ENext hQ ⊢
      have PRs := Lib.hid prs
      have TF := Lib.hid tf
      have TK := Lib.hid tkk
      have HB := Lib.hid hbeg
      have HQ' := Lib.hid hQ
      clear prs tf tkk hbeg hQ hh
      generalize hgg : G (s + 1) X = g at *
      have HG := Lib.hid hgg
      clear hgg
      generalize G s X = f at *
      have hd2 : (z : Int) / 2 = (h : Int) := by omega
      have hzl : (z : Int) ≤ (n : Int) := by omega
      have hz0 : ¬ z = 0 := by omega
      go_wp2_with fail
      go_step3
      go_wp2_with fail
      go_step3
      go_wp2_with fail
      go_loopw [6] (fun fr wr => ∃ B L F : Nat, Hid (B * z = L) ∧ fr = .int .i64 F ∧ F ≤ n ∧ F ≤ L ∧ L < F + z ∧ ∃ ws, RowSt n ws w wr ∧ Hid (Rnd g f n h L 0 ws)) (fun fr _ => n - (intOf fr).toNat)
      case atStart => exact ⟨0, 0, 0, Lib.hid (Nat.zero_mul _), rfl, Nat.zero_le _, Nat.zero_le _, by omega, _, hr1, HB⟩
      case round =>
        obtain ⟨B, L, F, hBF, rfl, hFn, hFL, hLF, ws, hr2, hd⟩ := hrel
        clear hr1
        by_cases hlF : F < n
        · by_cases hmz : F % z = 0
          · obtain rfl : L = F := lot_eq hBF.out hmz hFL hLF
            have hfit : L + z ≤ n ∧ (B + 1) * z = L + z := by
              obtain ⟨a1, a2⟩ := lot_fits (n := n) (h := h) (B := B) (Q := Q) (by rw [hz]; exact HQ'.out) (by rw [hz, hBF.out]; exact hlF)
              rw [hz, hBF.out] at a1 a2
              exact ⟨a1, a2⟩
            obtain ⟨hf1, hf2⟩ := hfit
            have HF2 := Lib.hid hf2
            have hmi : (L : Int) % (z : Int) = 0 := by omega
            clear hf2 hmz hFL hLF
            go_wp2_with fail
            clear hmi
            go_loopw [7] (fun k wr => ∃ k' : Nat, k = .int .i64 k' ∧ k' ≤ h ∧ ∃ ws, RowSt n ws w wr ∧ Hid (Rnd g f n h L k' ws)) (fun k _ => h - (intOf k).toNat)
            case atStart => exact ⟨0, rfl, Nat.zero_le _, _, hr2, hd⟩
            case round =>
              obtain ⟨k, rfl, hkh, ws, hr, hd⟩ := hrel
              clear hr2
              by_cases hlk : k < h
              · obtain ⟨hp1, hlo, hhi⟩ := PRs.out B k hlk
                rw [hBF.out] at hp1 hlo hhi
                obtain ⟨at1, at2⟩ := hd.out.at hlk (by omega)
                obtain ⟨hc1, f1⟩ := hr.cell (L + k) (by omega)
                obtain ⟨hc2, f2⟩ := hr.cell (L + k + h) (by omega)
                rw [at1] at hc1
                rw [at2] at hc2
                have HPd := Lib.hid (hd.out.step hlk (by omega))
                have HPut := Lib.hid (fun w' (hg : wr.grownBy w' none) => ((hr.grow hg).put (L + k) (g (L + k))).put (L + k + h) (g (L + k + h)))
                have HCl := Lib.hid (fun w' (hg : wr.grownBy w' none) => (hr.grow hg).cell (L + k) (by omega))
                have HCl2 := Lib.hid (fun w' (hg : wr.grownBy w' none) => (hr.grow hg).cell (L + k + h) (by omega))
                obtain ⟨tfk, tf1, tf2⟩ := TF.out k hlk
                clear tfk
                have tkk := TK.out k
                have hstr : 0 ≤ 16 / (z : Int) ∧ 16 / (z : Int) ≤ 16 := ⟨Int.ediv_nonneg (by omega) (by omega), Int.ediv_le_self _ (by omega)⟩
                have HT := Lib.hid (fun W : World => sTurnOf_any (-(16 / (z : Int)) * (k : Int)) W (by omega) (by omega))
                rw [tkk] at HT
                have ek : -(k : Int) * (16 / (z : Int)) = -(16 / (z : Int)) * (k : Int) := by rw [Int.neg_mul, Int.neg_mul, Int.mul_comm]
                have i12 : IntKind.i64.wrap (-(16 / (z : Int)) * (k : Int)) = -(16 / (z : Int)) * (k : Int) := IntWalk.i64_in _ (by omega)
                rw [hlo] at HPut HPd
                rw [hhi] at HPut HPd
                generalize f (L + k) = a at *
                generalize f (L + k + h) = b at *
                generalize tn (tk z k) = tt at *
                have g1 := fun W : World => run_cmul32 (P := Try.prog) W 34 b.1 b.2 tt.1 tt.2 (mulN b tt).1 (mulN b tt).2 hp1.mul
                have g2 := fun W => cadd_run W 34 hp1.add1 hp1.add2
                have g3 := fun W => csub_run W 34 hp1.sub1 hp1.sub2
                have F1 := Lib.hid (finC_parts hp1.fmul)
                generalize addN a (mulN b tt) = p at *
                generalize subN a (mulN b tt) = q at *
                generalize mulN b tt = r at *
                unfold C at hc1 hc2
                have i1 : (0 : Int) ≤ (k : Int) := by omega
                have i2 : (k : Int) < (h : Int) := by omega
                have i3 : (0 : Int) ≤ (L : Int) := by omega
                have i4 : (L : Int) + (k : Int) < (n : Int) := by omega
                have i5 : (L : Int) + (k : Int) + (h : Int) < (n : Int) := by omega
                have i6 : (0 : Int) ≤ (L : Int) + (k : Int) := by omega
                have i7 : (0 : Int) ≤ (L : Int) + (k : Int) + (h : Int) := by omega
                have v1 : IntKind.i64.wrap ((L : Int) + (k : Int)) = (L : Int) + (k : Int) := IntWalk.i64_in _ (by omega)
                have v2 : IntKind.i64.wrap ((L : Int) + (k : Int) + (h : Int)) = (L : Int) + (k : Int) + (h : Int) := IntWalk.i64_in _ (by omega)
                have v3 : (z : Int).tdiv 2 = (h : Int) := by rw [Int.tdiv_eq_ediv_of_nonneg (by omega)]; exact hd2
                have v4 : IntKind.i64.wrap (h : Int) = (h : Int) := IntWalk.i64_in _ (by omega)
                have v5 : (16 : Int).tdiv (z : Int) = 16 / (z : Int) := Int.tdiv_eq_ediv_of_nonneg (by omega)
                have v6 : IntKind.i64.wrap (16 / (z : Int)) = 16 / (z : Int) := IntWalk.i64_in _ (by omega)
                have v7 : IntKind.i64.wrap (-(k : Int)) = -(k : Int) := IntWalk.i64_in _ (by omega)
                have i9 : ((L : Int) + (k : Int)).toNat = L + k := by omega
                have i10 : ((L : Int) + (k : Int) + (h : Int)).toNat = L + k + h := by omega
                clear hp1 hlo hhi hr hd at1 at2
                go_wp2_with fail
                go_region_held3 (fun w' => w'.cell? ⟨w.heap.size, L + k + h, none⟩ = some (.complex .f32 b.1 b.2)) (go_keep)
                  (first
                  | (go_at_call 90; with_reducible refine (HT.out _).mono ?_; rintro e w5 ⟨rfl, hg5'⟩; have hg5 := gr_drew hg5'; have l5 := cell_grown hc2 hg5))
                obtain ⟨u1', f1'⟩ := HCl.out w5 hg5
                obtain ⟨u2', f2'⟩ := HCl2.out w5 hg5
                have hput := Lib.hid (HPut.out w5 hg5)
                unfold C at u1' u2'
                clear hc1 hc2 f1 f2 hg5 hg5' l5 HPut HCl HCl2 HT
                go_wp2_with fail
                refine (sfinite_yes _ _ _ F1.out.1 F1.out.2).mono ?_
                rintro e w' ⟨rfl, rfl⟩
                go_wp2_with fail
                go_roundw
                case rel => exact ⟨k + 1, by go_num, by omega, _, hput.out, HPd⟩
                case measure => simp [intOf]; omega
              · obtain rfl : k = h := by omega
                go_wp2_with fail
                go_roundw
                case rel => exact ⟨B + 1, L + z, L + 1, HF2, by go_num, by omega, by omega, by omega, ws, hr, Lib.hid (by have := hd.out.next; rwa [hz] at this)⟩
                case measure => simp [intOf]; omega
          · have hFL2 : F + 1 ≤ L := by
              have hLz : L % z = 0 := by rw [← hBF.out]; exact Nat.mul_mod_left _ _
              have : F ≠ L := fun e => hmz (by rw [e]; exact hLz)
              omega
            have hmi : ¬ (F : Int) % (z : Int) = 0 := by omega
            go_wp2_with fail
            go_roundw
            case rel => exact ⟨B, L, F + 1, hBF, by go_num, by omega, hFL2, by omega, ws, hr2, hd⟩
            case measure => simp [intOf]; omega
        · have hFe : F = n := by omega
          have hws := hd.out.done (by omega)
          subst hws
          have hsig := Lib.hid (hr2.sig (o := 0) (m := n) (xs := (List.range n).map g) (by omega) (by omega) (by simp) (fun k _ => by rw [Nat.zero_add]))
          have hfi := FI.out (s + 1) hlt
          rw [HG.out] at hfi
          have HFi := Lib.hid hfi
          clear hfi
          go_wp2_with fail
          refine (l1All_any _ _ _ _ _ hsig.out).mono ?_
          rw [HFi.out]
          rintro e w' ⟨rfl, d2, rfl⟩
          go_wp2_with fail
          show Exit.inBlock 1 _ Exit.normal _ _
          go_wp2_with fail
          go_roundw
          case rel => exact ⟨s + 1, hlt, by rw [← ENext.out]; go_num, by rw [HG.out]; exact hr2.drewN d2⟩
          case measure => simp [intOf]; omega
    · obtain rfl : s = m := by omega
      rw [FA.out] at hr1
      have hnz : ¬ ((2 * 2 ^ s : Nat) : Int) ≤ (n : Int) := by omega
      go_wp2_with fail
      go_ret2
      exact hr1.doneT

set_option maxRecDepth 100000 in
set_option maxHeartbeats 2000000 in
theorem FromPairs_no (A : Option Addr) (n cap : Nat) (xs : List Num) (w : World) (h : Sig w A n xs) (hs : sizeOk xs = false) :
    Calls Try.prog 64 #[.slice A n cap] w fun e w' => e = .returned (.tuple #[.slice none 0 0, .bool false]) ∧ ∃ d, w.drewN d = w' := by
  have H := Lib.hid h
  have HS := Lib.hid hs
  clear h hs
  go_enter Try.func64, Try.ntmps64
  go_wp2
  go_step3
  go_wp2_with fail
  refine (SizeOk_any _ _ _ _ _ H.out).mono ?_
  rw [HS.out]
  rintro e w' ⟨rfl, d, rfl⟩
  go_wp2_with fail
  try rw [Exit.noGoto_ret]
  go_ret2
  exact ⟨rfl, _, rfl⟩

set_option maxRecDepth 100000 in
set_option maxHeartbeats 4000000 in
theorem sFromPairs_no (A : Option Addr) (n cap : Nat) (xs : List Num) (w : World) (h : Sig w A n xs) (hs : sizeOk xs = false) :
    Calls Try.prog 65 #[.slice A n cap] w (MadeT 34 C [] false w) := by
  have H := Lib.hid h
  have HS := Lib.hid hs
  have HN := fun d => Lib.hid (madeT_nil 34 C w d)
  clear h hs
  go_enter Try.func65, Try.ntmps65
  go_wp2_with fail
  refine (sSizeOk_any A n cap xs _ H.out).mono ?_
  rw [HS.out]
  rintro e w' ⟨rfl, d, rfl⟩
  go_wp2_with fail
  go_ret2
  exact (HN d).out
end Go.Proofs.Ytcnlgoghnlcndaa
