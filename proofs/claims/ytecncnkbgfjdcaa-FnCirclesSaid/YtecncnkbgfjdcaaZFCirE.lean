/- The check of all pairs of odd numbers below 200, first part. -/
import Derived.Test.YtecncnkbgfjdcaaZFCirD
set_option linter.unusedVariables false
set_option linter.unusedSimpArgs false
namespace Go.Proofs.Ytecncnkbgfjdcaa
open Ieee near

theorem rows_a : ∀ a, a < 71 → rowChk a = true := by decide +kernel
end Go.Proofs.Ytecncnkbgfjdcaa
