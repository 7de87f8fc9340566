/- Powers on values, pairs: the product of two powers is nearly the power of the sum. -/
import Derived.Test.YtecglaggmheokaaFPow2
set_option linter.unusedVariables false
set_option linter.unusedSimpArgs false
namespace Go.Proofs.Ytecglaggmheokaa
open Ieee near

theorem ex_near3 : ∀ k : Nat, k < 21 → ∀ l : Nat, l < 65 → nearE (k + 44) l = true := by decide +kernel
end Go.Proofs.Ytecglaggmheokaa
