/- The check of the products of phasors, first part. -/
import Derived.Test.YtecncnkbgfjdcaaZFCirF
set_option linter.unusedVariables false
set_option linter.unusedSimpArgs false
namespace Go.Proofs.Ytecncnkbgfjdcaa
open Ieee near

theorem prod_a : ∀ i, i < 45 → prodRow i = true := by decide +kernel
end Go.Proofs.Ytecncnkbgfjdcaa
