/- Contracts: BitsOf, SameNumber, IsSubnormal of the program and of the reference. -/
import Derived.Test.YtecglaggmheokaaWAbs
set_option linter.unusedVariables false
set_option linter.unusedSimpArgs false
namespace Go.Proofs.Ytecglaggmheokaa
open Go.RowKit

end Go.Proofs.Ytecglaggmheokaa
