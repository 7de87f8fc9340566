/- Contracts: IsFinite, BitsOf, SameNumber of the program and of the reference. -/
import Derived.Test.YtecncnkbgfjdcaaZWExt
import Derived.Test.YtecncnkbgfjdcaaZBase
import Derived.Lib.Hide
set_option linter.unusedVariables false
set_option linter.unusedSimpArgs false
namespace Go.Proofs.Ytecncnkbgfjdcaa
open Go.RowKit

/-- What is left of a number taken from itself is zero. -/
def finB (v : Option Nat) : Bool := fcmp .f32 (fop .sub .f32 v v) (some 0) == some .eq

theorem val_zero32 : val .f32 0 = some 0 := by decide +kernel
theorem val_zero64 : val .f64 0 = some 0 := by decide +kernel


theorem finB_of {r : Nat} {v : Option Nat} (h : FIs .f32 r (fop .sub .f32 v v)) : (FloatKind.f32.format.order r 0 == some .eq) = finB v := by
  rw [order_val, h.out, val_zero32]; rfl

/-- The bits, one NaN for all. -/
def bitsZ (v : Option Nat) : Int := match v with | none => 2143289344 | some b => (b : Int)

theorem ne_self (k : FloatKind) (x : Nat) : (k.format.order x x != some .eq) = (val k x).isNone := by
  cases hn : (k.decode x).isNaN with
  | true =>
    rw [val_none hn, show k.format.order x x = none from order_nan_l (a := k.format.read x) (b := k.format.read x) hn]; rfl
  | false =>
    rw [val_some hn, near.order_Z k x x (not_nan_rg hn) (not_nan_rg hn), near.cmp_eq rfl]; rfl

theorem implIsFinite_any (x : Nat) (w : World) : Calls Try.prog 57 #[.float .f32 x] w fun e w' => e = .returned (.bool (finB (val .f32 x))) ∧ ∃ n, w' = w.drewN n := by
  go_enter Try.func57, Try.ntmps57
  go_wp2_with (refine wpList_fop rfl _ _ _ _ _ rfl rfl _ _ _ rfl rfl ?_; intro r n hr)
  go_ret
  exact ⟨ret_bool (finB_of hr), n, rfl⟩
theorem specBits_any (x : Nat) (hx : x < 4294967296) (w : World) : Calls Try.prog 60 #[.float .f32 x] w fun e w' => e = .returned (.int .i64 (bitsZ (val .f32 x))) ∧ w = w' := by
  have hne := ne_self .f32 x
  cases hv : val .f32 x with
  | none =>
    rw [hv] at hne
    go_enter Try.func60, Try.ntmps60
    go_wp2
    go_ret
    exact ⟨rfl, rfl⟩
  | some b =>
    obtain ⟨rfl, _⟩ := val_eq_some hv
    rw [hv] at hne
    clear hv
    go_enter Try.func60, Try.ntmps60
    go_wp2
    go_ret
    exact ⟨rfl, rfl⟩
theorem specBits_some (x : Nat) (hx : x < 4294967296) (hv : val .f32 x = some x) (w : World) : Calls Try.prog 60 #[.float .f32 x] w fun e w' => e = .returned (.int .i64 (x : Int)) ∧ w = w' := by
  have h := specBits_any x hx w
  rw [hv] at h
  exact h
theorem specBits_none (x : Nat) (hx : x < 4294967296) (hv : val .f32 x = none) (w : World) : Calls Try.prog 60 #[.float .f32 x] w fun e w' => e = .returned (.int .i64 2143289344) ∧ w = w' := by
  have h := specBits_any x hx w
  rw [hv] at h
  exact h
end Go.Proofs.Ytecncnkbgfjdcaa
set_option linter.unusedVariables false
set_option linter.unusedSimpArgs false
namespace Go.Proofs.Ytecncnkbgfjdcaa
open Go.RowKit

theorem order_self (k : FloatKind) {x y : Nat} {v : Option Nat} (hx : val k x = v) (hy : val k y = v) (z : Nat) : k.format.order x z = k.format.order y z := by
  rw [order_val k x z, order_val k y z, hx, hy]

end Go.Proofs.Ytecncnkbgfjdcaa
set_option linter.unusedVariables false
set_option linter.unusedSimpArgs false
namespace Go.Proofs.Ytecncnkbgfjdcaa
open Go.RowKit
theorem abs_any (x : Nat) (hx : x < 18446744073709551616) (w : World) : Calls Try.prog 51 #[.float .f64 x] w fun e w' => e = .returned (.float .f64 (x % 9223372036854775808)) ∧ w = w' := by
  go_enter Try.func51, Try.ntmps51
  go_wp2
  go_ret
  refine ⟨?_, rfl⟩
  refine ret_float ?_
  have hb := u64_andNot_nat x 9223372036854775808 hx (by omega)
  rw [show ((9223372036854775808 : Nat) : Int) = (9223372036854775808 : Int) from rfl] at hb
  rw [hb, Int.toNat_natCast]
  exact Nat.and_two_pow_sub_one_eq_mod x 63
end Go.Proofs.Ytecncnkbgfjdcaa
set_option linter.unusedVariables false
set_option linter.unusedSimpArgs false
namespace Go.Proofs.Ytecncnkbgfjdcaa
open Go.RowKit

theorem specSame_any (x y : Nat) (hx : x < 4294967296) (hy : y < 4294967296) (w : World) : Calls Try.prog 42 #[.float .f32 x, .float .f32 y] w fun e w' => e = .returned (.bool (bitsZ (val .f32 x) == bitsZ (val .f32 y))) ∧ w = w' := by
  go_enter Try.func42, Try.ntmps42
  go_wp2_with fail
  refine (specBits_any x hx _).mono ?_
  rintro e w' ⟨rfl, rfl⟩
  go_wp2_with fail
  refine (specBits_any y hy _).mono ?_
  rintro e w' ⟨rfl, rfl⟩
  go_wp2_with fail
  go_ret
  exact ⟨rfl, rfl⟩
theorem specSameNumber_any (x y : Nat) (hx : x < 4294967296) (hy : y < 4294967296) (w : World) : Calls Try.prog 23 #[.float .f32 x, .float .f32 y] w fun e w' => e = .returned (.bool (bitsZ (val .f32 x) == bitsZ (val .f32 y))) ∧ w = w' := by
  go_enter Try.func23, Try.ntmps23
  go_wp2_with (go_at_call 42; refine (specSame_any x y hx hy _).mono ?_; rintro e w' ⟨rfl, rfl⟩)
  go_ret
  exact ⟨rfl, rfl⟩
end Go.Proofs.Ytecncnkbgfjdcaa
