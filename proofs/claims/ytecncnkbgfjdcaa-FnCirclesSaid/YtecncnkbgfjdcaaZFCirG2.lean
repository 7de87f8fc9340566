/- The check of the products of phasors, second part. -/
import Derived.Test.YtecncnkbgfjdcaaZFCirF
set_option linter.unusedVariables false
set_option linter.unusedSimpArgs false
namespace Go.Proofs.Ytecncnkbgfjdcaa
open Ieee near

theorem prod_b : ∀ k, k < 19 → prodRow (45 + k) = true := by decide +kernel
end Go.Proofs.Ytecncnkbgfjdcaa
