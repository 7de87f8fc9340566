/- Contracts of math.Abs and math.Signbit. -/
import Derived.Test.YtdbcajiagjeplaaDoorWFin
set_option linter.unusedVariables false
set_option linter.unusedSimpArgs false
namespace Go.Proofs.YtdbcajiagjeplaaDoor
open Go.RowKit
end Go.Proofs.YtdbcajiagjeplaaDoor
