/- Contracts of math.Abs and math.Signbit. -/
import Derived.Test.YtbgijclhnkbeiaaWFin
set_option linter.unusedVariables false
set_option linter.unusedSimpArgs false
namespace Go.Proofs.Ytbgijclhnkbeiaa
open Go.RowKit
theorem ret_float {k : FloatKind} {a b : Nat} (h : a = b) : Ending.returned (.float k a) = .returned (.float k b) := by rw [h]
theorem abs_any (x : Nat) (hx : x < 18446744073709551616) (w : World) : Calls Try.prog 27 #[.float .f64 x] w fun e w' => e = .returned (.float .f64 (x % 9223372036854775808)) ∧ w = w' := by
  go_enter Try.func27, Try.ntmps27
  go_wp2
  go_ret
  refine ⟨?_, rfl⟩
  refine ret_float ?_
  have hb := u64_andNot_nat x 9223372036854775808 hx (by omega)
  rw [show ((9223372036854775808 : Nat) : Int) = (9223372036854775808 : Int) from rfl] at hb
  rw [hb, Int.toNat_natCast]
  exact Nat.and_two_pow_sub_one_eq_mod x 63
theorem signbit_any (x : Nat) (hx : x < 18446744073709551616) (w : World) : Calls Try.prog 29 #[.float .f64 x] w fun e w' => e = .returned (.bool (near.sgn FloatKind.f64.format x)) ∧ w = w' := by
  go_enter Try.func29, Try.ntmps29
  go_wp2
  go_ret
  refine ⟨?_, rfl⟩
  refine ret_bool ?_
  have hs : near.sgn FloatKind.f64.format x = (x / 9223372036854775808 % 2 == 1) := rfl
  rw [hs]
  unfold wrap64
  by_cases h : x < 9223372036854775808
  · rw [Nat.div_eq_of_lt h, decide_eq_false (by omega)]; rfl
  · rw [show x / 9223372036854775808 = 1 by omega, decide_eq_true (by omega)]; rfl
end Go.Proofs.Ytbgijclhnkbeiaa
