/- Contracts of math.Abs and math.Signbit. -/
import Derived.Test.YtecglaggmheokaaWFin
set_option linter.unusedVariables false
set_option linter.unusedSimpArgs false
namespace Go.Proofs.Ytecglaggmheokaa
open Go.RowKit
theorem abs_any (x : Nat) (hx : x < 18446744073709551616) (w : World) : Calls Try.prog 75 #[.float .f64 x] w fun e w' => e = .returned (.float .f64 (x % 9223372036854775808)) ∧ w = w' := by
  go_enter Try.func75, Try.ntmps75
  go_wp2
  go_ret
  refine ⟨?_, rfl⟩
  refine ret_float ?_
  have hb := u64_andNot_nat x 9223372036854775808 hx (by omega)
  rw [show ((9223372036854775808 : Nat) : Int) = (9223372036854775808 : Int) from rfl] at hb
  rw [hb, Int.toNat_natCast]
  exact Nat.and_two_pow_sub_one_eq_mod x 63
end Go.Proofs.Ytecglaggmheokaa
