/- Powers on values, pairs: sums of eighths are eighths; the product of two powers is nearly the power of the sum. -/
import Derived.Test.YtecglaggmheokaaFPow
set_option linter.unusedVariables false
set_option linter.unusedSimpArgs false
namespace Go.Proofs.Ytecglaggmheokaa
open Ieee near

theorem xs_sum : ∀ k : Nat, k < 65 → ∀ l : Nat, l < 65 → floatBits .add .f32 (xs (k + 32)) (xs (l + 32)) = some (xs (k + l)) := by decide +kernel
def nearE (k l : Nat) : Bool := fcmp .f64 (gapV (fop .mul .f64 (some (exw (k + 32))) (some (exw (l + 32)))) (some (exw (k + l)))) (fop .mul .f64 (some 4562254508917369340) (some (exw (k + l)))) == some .lt
theorem ex_near1 : ∀ k : Nat, k < 22 → ∀ l : Nat, l < 65 → nearE k l = true := by decide +kernel
end Go.Proofs.Ytecglaggmheokaa
