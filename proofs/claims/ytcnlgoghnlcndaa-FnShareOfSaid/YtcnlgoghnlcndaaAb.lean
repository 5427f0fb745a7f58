/- Walks: math.IsNaN, math.Abs, math.IsInf at a finite number. -/
import Derived.Test.YtcnlgoghnlcndaaGr
import Derived.Laws.Externs
namespace Go.Proofs.Ytcnlgoghnlcndaa
open Go.RowKit Ieee

theorem x137 (b : Nat) (w : World) : (callFunc 137 #[.float .f64 b]).run Try.prog w = .ok (.value (.int .u64 b)) w := by
  rw [run_callFunc_extern (fn := Try.f137) (e := Extern.MathFloatBits.float64bits) Try.func137 (by kernel_rfl) (by kernel_rfl) (by kernel_rfl) (by kernel_rfl)]
  rfl
theorem x136 (n : Nat) (w : World) : (callFunc 136 #[.int .u64 n]).run Try.prog w = .ok (.value (.float .f64 n)) w := by
  rw [run_callFunc_extern (fn := Try.f136) (e := Extern.MathFloatBits.float64frombits) Try.func136 (by kernel_rfl) (by kernel_rfl) (by kernel_rfl) (by kernel_rfl)]
  rfl

set_option maxRecDepth 100000 in
theorem isNaN_fin (x : Nat) (w : World) (h : fin double x = true) : Calls Try.prog 115 #[.float .f64 x] w fun e w' => e = .returned (.bool false) ∧ w = w' := by
  have h3 : (FloatKind.f64.format.order x x != some .eq) = false := by
    have := cmp_eq double h h
    show (!(double.order x x == some .eq)) = false
    rw [this]; simp
  clear h
  go_enter Try.func115, Try.ntmps115
  go_wp2_with fail
  go_ret
  exact ⟨rfl, rfl⟩

theorem andNot_low (x : Nat) (h : x < 18446744073709551616) : bits .andNot .u64 (x : Int) 9223372036854775808 = ((x % 9223372036854775808 : Nat) : Int) := by
  show IntKind.u64.wrap ((BitVec.ofInt 64 (x : Int) &&& ~~~ BitVec.ofInt 64 9223372036854775808).toNat : Int) = _
  have e1 : (BitVec.ofInt 64 (x : Int)).toNat = x := by rw [BitVec.toNat_ofInt]; omega
  have e2 : (~~~ BitVec.ofInt 64 9223372036854775808).toNat = 2 ^ 63 - 1 := by decide
  rw [BitVec.toNat_and, e1, e2, Nat.and_two_pow_sub_one_eq_mod, IntKind.wrap_u64]
  omega

set_option maxRecDepth 100000 in
theorem abs_any (x : Nat) (w : World) (h : x < 18446744073709551616) : Calls Try.prog 130 #[.float .f64 x] w fun e w' => e = .returned (.float .f64 (x % 9223372036854775808 : Nat)) ∧ w = w' := by
  have a := x137 x
  have c := andNot_low x h
  obtain ⟨y, hy⟩ : ∃ y, x % 9223372036854775808 = y := ⟨_, rfl⟩
  rw [hy] at c ⊢
  have b := x136 y
  clear hy
  go_enter Try.func130, Try.ntmps130
  go_wp2_with fail
  go_ret
  exact ⟨rfl, rfl⟩

theorem top64 : fin double 9218868437227405311 = true ∧ iv double 9218868437227405311 = (magU double (double.infRung - 1) : Int) := by decide +kernel
theorem top_of64 {x : Nat} (hx : fin double x = true) : (iv double x).natAbs ≤ magU double (double.infRung - 1) := by
  rw [natAbs_iv]
  have h := fin_lt double hx
  exact magU_mono double (by omega) (by omega)

set_option maxRecDepth 100000 in
theorem isInf_any (x : Nat) (w : World) (h : fin double x = true) (hx : x < 18446744073709551616) : Calls Try.prog 116 #[.float .f64 x, .int .i64 0] w fun e w' => e = .returned (.bool false) ∧ w = w' := by
  have h' : fin double (x % 9223372036854775808) = true := by
    unfold fin rung at h ⊢
    have e : double.signWeight = 9223372036854775808 := by decide
    rw [e] at h ⊢
    rw [Nat.mod_mod]
    exact h
  have h3 : (FloatKind.f64.format.order (x % 9223372036854775808) 9218868437227405311 == some .gt) = false := by
    show (double.order (x % 9223372036854775808) 9218868437227405311 == some .gt) = false
    rw [cmp_gt double h' top64.1, top64.2]
    have := top_of64 h'
    simp
    omega
  clear h h'
  go_enter Try.func116, Try.ntmps116
  go_wp2_with fail
  refine (abs_any x _ hx).mono ?_
  rintro e w' ⟨rfl, rfl⟩
  go_wp2_with fail
  go_ret
  exact ⟨rfl, rfl⟩
end Go.Proofs.Ytcnlgoghnlcndaa
