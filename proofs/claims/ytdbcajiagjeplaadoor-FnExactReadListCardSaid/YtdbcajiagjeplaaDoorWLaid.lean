/- From a row's listed variables to what the walks take. -/
import Derived.Test.YtdbcajiagjeplaaDoorWDec3
import Derived.Test.YtdbcajiagjeplaaDoorRows
import Derived.LaidSub
import Derived.MakeChecks
import Derived.Lib.LaidTab
set_option linter.unusedVariables false
set_option linter.unusedSimpArgs false
namespace Go.Proofs.YtdbcajiagjeplaaDoor
open Go.RowKit

set_option maxRecDepth 100000 in
theorem pow10_of_laid {L : List (String × DataW Unit)} {W : World} (hL : laidMetH Tryd.prog L W) (h1 : (L.all fun x => x.2.handleName?.isNone) = true)
    (h2 : L.filter (fun x => x.1 == "internal/strconv.uint64pow10") = [("internal/strconv.uint64pow10", Rows.laid_internal_strconv_uint64pow10)]) : Pow10 W := by
  rw [MakeChecks.laidMetH_plain _ _ _ h1] at hL
  have h3 := hL.filter (fun x => x.1 == "internal/strconv.uint64pow10")
  rw [h2] at h3
  obtain ⟨g, hg⟩ := pow10_named
  exact Lib.tabIs_of_head (t := 120) (e := 85) (n := 20) hg (by
    obtain rfl := Option.some.inj (hg.symm.trans (show Tryd.prog.globalNamed "internal/strconv.uint64pow10" = some 1 from by kernel_rfl))
    kernel_rfl) Tryd.underlying120 Tryd.underlying85 (by kernel_rfl) (by kernel_rfl) h3
end Go.Proofs.YtdbcajiagjeplaaDoor
