/- The check of all pairs of odd numbers below 200, second part. -/
import Derived.Test.YtecncnkbgfjdcaaZFCirD
set_option linter.unusedVariables false
set_option linter.unusedSimpArgs false
namespace Go.Proofs.Ytecncnkbgfjdcaa
open Ieee near

theorem rows_b : ∀ k, k < 29 → rowChk (71 + k) = true := by decide +kernel
end Go.Proofs.Ytecncnkbgfjdcaa
