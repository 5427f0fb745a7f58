/- Walks: InTurnedOrder (impl and spec). -/
import Derived.Test.YtcnlgoghnlcndaaTq
import Derived.Test.YtcnlgoghnlcndaaDu
import Derived.Deep.RegionHeld3
namespace Go.Proofs.Ytcnlgoghnlcndaa
open Go.RowKit Ieee

/-- A row that the call has made, handed back. -/
def RowV (n : Nat) (ws : List Num) (w : World) (e : Ending) (w' : World) : Prop := e = .returned (.slice (some ⟨w.heap.size, 0, none⟩) n n) ∧ RowSt n ws w w'

set_option maxRecDepth 100000 in
set_option maxHeartbeats 4000000 in
theorem InTurnedOrder_yes (m n : Nat) (hn : 2 ^ m = n) (hm : m ≤ 4) (A : Option Addr) (cap : Nat) (xs : List Num) (w : World) (h : Sig w A n xs) (hs : sizeOk xs = true) :
    Calls Try.prog 109 #[.slice A n cap] w (RowV n ((List.range n).map (stg m 0 (atX xs))) w) := by
  have hn16 : n ≤ 16 := by rw [← hn]; exact pow_le16 hm
  have H := Lib.hid h
  have HS := Lib.hid hs
  have HD := Lib.hid (fun (a : Nat) (ha : a < n) (W : World) => DigitsTurned_yes m n a hn hm ha W)
  have TL : Hid (∀ a : Nat, tuN m a < n) := Lib.hid (fun a => hn ▸ tuN_lt m a)
  have HST := Lib.hid (fun (i : Nat) (ws : List Num) (hi : i < n) (hl : ws.length = n) (H : Ordd m i (atX xs) ws) => Ordd.step hm (by omega) (by omega) H)
  have HDN := Lib.hid (fun (ws : List Num) (hl : ws.length = n) (H : Ordd m n (atX xs) ws) => (by subst hn; exact Ordd.done hm hl H : ws = (List.range n).map (stg m 0 (atX xs))))
  clear h hs
  go_enter Try.func109, Try.ntmps109
  go_wp2_with fail
  refine (SizeOk_any _ _ _ _ _ H.out).mono ?_
  rw [HS.out]
  rintro e w' ⟨rfl, d, rfl⟩
  go_wp2_with (at_make; go_must (refine make_row (T := C) (0, 0) _ rfl _ _ 37 34 8 rfl Try.underlying37 info34 rfl (by decide) n n rfl rfl rfl (by omega) ?_); intro w1 ho hg; have hst : RowSt n (List.replicate n (0, 0)) w w1 := RowSt.start0 ho hg; clear ho hg)
  go_loopw [14] (fun i wr => ∃ k : Nat, k ≤ n ∧ i = .int .i64 k ∧ ∃ ws, RowSt n ws w wr ∧ Hid (Ordd m k (atX xs) ws)) (fun i _ => n - (intOf i).toNat)
  case atStart => exact ⟨0, Nat.zero_le _, rfl, _, hst, Lib.hid (fun j hj => absurd hj (by omega))⟩
  case round =>
    obtain ⟨k, hk, rfl, ws, hr, hd⟩ := hrel
    clear hst
    by_cases hlt : k < n
    · have hgr := hr.2.2
      obtain ⟨b, o, rfl, hbs, hc1⟩ := (H.out.grown hgr).2.2 k hlt
      have q1 : xs.getD k (0, 0) = atX xs k := rfl
      rw [q1] at hc1
      have tl := TL.out k
      have HP := Lib.hid (hr.put (tuN m k) (atX xs k))
      obtain ⟨u1, f1⟩ := hr.cell (tuN m k) tl
      have HO := Lib.hid (HST.out k ws hlt hr.1 hd.out)
      have HDk := Lib.hid (HD.out k hlt)
      generalize tuN m k = t at *
      generalize atX xs k = z at *
      unfold C at hc1 u1
      have i1 : (0 : Int) ≤ (k : Int) := by omega
      have i2 : (k : Int) < (n : Int) := by omega
      have i3 : (0 : Int) ≤ (t : Int) := by omega
      have i4 : (t : Int) < (n : Int) := by omega
      clear hr hd hgr q1
      go_wp2_with fail
      refine (HDk.out _).mono ?_
      rintro e w2 ⟨rfl, rfl⟩
      go_wp2_with fail
      go_roundw
      case rel => exact ⟨k + 1, by omega, by go_num, _, HP.out, HO⟩
      case measure => simp [intOf]; omega
    · obtain rfl : k = n := by omega
      have e := HDN.out ws hr.1 hd.out
      subst e
      go_wp2_with fail
      go_ret
      exact ⟨rfl, hr⟩

set_option maxRecDepth 100000 in
set_option maxHeartbeats 4000000 in
theorem sInTurnedOrder_yes (m n : Nat) (hn : 2 ^ m = n) (hm : m ≤ 4) (A : Option Addr) (cap : Nat) (xs : List Num) (w : World) (h : Sig w A n xs) (hs : sizeOk xs = true) :
    Calls Try.prog 111 #[.slice A n cap] w (RowV n ((List.range n).map (stg m 0 (atX xs))) w) := by
  have hn16 : n ≤ 16 := by rw [← hn]; exact pow_le16 hm
  have H := Lib.hid h
  have HS := Lib.hid hs
  have HD := Lib.hid (fun (a : Nat) (ha : a < n) (W : World) => sDigitsTurned_yes m n a hn hm ha W)
  have TL : Hid (∀ a : Nat, tuN m a < n) := Lib.hid (fun a => hn ▸ tuN_lt m a)
  have HST := Lib.hid (fun (i : Nat) (ws : List Num) (hi : i < n) (hl : ws.length = n) (H : Ordd m i (atX xs) ws) => Ordd.step hm (by omega) (by omega) H)
  have HDN := Lib.hid (fun (ws : List Num) (hl : ws.length = n) (H : Ordd m n (atX xs) ws) => (by subst hn; exact Ordd.done hm hl H : ws = (List.range n).map (stg m 0 (atX xs))))
  clear h hs
  go_enter Try.func111, Try.ntmps111
  go_wp2_with fail
  refine (sSizeOk_any _ _ _ _ _ H.out).mono ?_
  rw [HS.out]
  rintro e w' ⟨rfl, d, rfl⟩
  go_wp2_with (at_make; go_must (refine make_row (T := C) (0, 0) _ rfl _ _ 37 34 8 rfl Try.underlying37 info34 rfl (by decide) n n rfl rfl rfl (by omega) ?_); intro w1 ho hg; have hst : RowSt n (List.replicate n (0, 0)) w w1 := RowSt.start0 ho hg; clear ho hg)
  go_loopw [4] (fun i wr => ∃ k : Nat, k ≤ n ∧ i = .int .i64 k ∧ ∃ ws, RowSt n ws w wr ∧ Hid (Ordd m k (atX xs) ws)) (fun i _ => n - (intOf i).toNat)
  case atStart => exact ⟨0, Nat.zero_le _, rfl, _, hst, Lib.hid (fun j hj => absurd hj (by omega))⟩
  case round =>
    obtain ⟨k, hk, rfl, ws, hr, hd⟩ := hrel
    clear hst
    by_cases hlt : k < n
    · have hgr := hr.2.2
      obtain ⟨b, o, rfl, hb0, _⟩ := H.out.2.2 k hlt
      obtain ⟨_, _, e', hbs, hc1⟩ := (H.out.grown hgr).2.2 k hlt
      cases e'
      have q1 : xs.getD k (0, 0) = atX xs k := rfl
      have hne : b ≠ w.heap.size := by omega
      have hne2 : ¬ w.heap.size = b := by omega
      rw [q1] at hc1
      have tl := TL.out k
      have HP := Lib.hid (hr.put (tuN m k) (atX xs k))
      obtain ⟨u1, f1⟩ := hr.cell (tuN m k) tl
      have HO := Lib.hid (HST.out k ws hlt hr.1 hd.out)
      have HDk := Lib.hid (HD.out k hlt)
      generalize tuN m k = t at *
      generalize atX xs k = z at *
      generalize ws.getD t (0, 0) = y at *
      unfold C at hc1 u1
      have i1 : (0 : Int) ≤ (k : Int) := by omega
      have i2 : (k : Int) < (n : Int) := by omega
      have i3 : (0 : Int) ≤ (t : Int) := by omega
      have i4 : (t : Int) < (n : Int) := by omega
      clear hr hd hgr q1
      go_wp2_with fail
      go_region_held3 (fun w' => w'.cell? ⟨b, o + k, none⟩ = some (.complex .f32 z.1 z.2)) (go_keep)
        (first | (go_at_call 129; refine (HDk.out _).mono ?_; rintro e w2 ⟨rfl, rfl⟩))
      go_wp2_with fail
      go_roundw
      case rel => exact ⟨k + 1, by omega, by go_num, _, HP.out.drewN 1, HO⟩
      case measure => simp [intOf]; omega
    · obtain rfl : k = n := by omega
      have e := HDN.out ws hr.1 hd.out
      subst e
      go_wp2_with fail
      go_ret
      exact ⟨rfl, hr⟩
end Go.Proofs.Ytcnlgoghnlcndaa
