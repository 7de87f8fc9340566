/- From a row's listed variables: the table of math/bits. -/
import Derived.Test.YtdbcajiagjeplaaDoorWHex2
import Derived.Test.YtdbcajiagjeplaaDoorRows
import Derived.LaidSub
import Derived.MakeChecks
import Derived.Lib.LaidTab
set_option linter.unusedVariables false
set_option linter.unusedSimpArgs false
namespace Go.Proofs.YtdbcajiagjeplaaDoor
open Go.RowKit
set_option maxRecDepth 100000 in
theorem tz_of_laid {L : List (String × DataW Unit)} {W : World} (hL : laidMetH Tryd.prog L W) (h1 : (L.all fun x => x.2.handleName?.isNone) = true)
    (h2 : L.filter (fun x => x.1 == "math/bits.deBruijn64tab") = [("math/bits.deBruijn64tab", Rows.laid_math_bits_deBruijn64tab)]) : Tz W := by
  rw [MakeChecks.laidMetH_plain _ _ _ h1] at hL
  have h3 := hL.filter (fun x => x.1 == "math/bits.deBruijn64tab")
  rw [h2] at h3
  exact Lib.tabIs_of_head (t := 152) (e := 5) (n := 64) tz_named (by kernel_rfl) Tryd.underlying152 Tryd.underlying5 (by kernel_rfl) (by kernel_rfl) h3
end Go.Proofs.YtdbcajiagjeplaaDoor
