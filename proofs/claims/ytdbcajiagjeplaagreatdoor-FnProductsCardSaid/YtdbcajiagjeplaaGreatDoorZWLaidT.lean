/- From a row's listed variables: the table of math/bits. -/
import Derived.Test.YtdbcajiagjeplaaGreatDoorZWHex2
import Derived.Test.YtdbcajiagjeplaaGreatDoorRows
import Derived.LaidSub
import Derived.MakeChecks
import Derived.Lib.LaidTab
set_option linter.unusedVariables false
set_option linter.unusedSimpArgs false
namespace Go.Proofs.YtdbcajiagjeplaaGreatDoor
open Go.RowKit
set_option maxRecDepth 100000 in
theorem tz_of_laid {L : List (String × DataW Unit)} {W : World} (hL : laidMetH Tryz.prog L W) (h1 : (L.all fun x => x.2.handleName?.isNone) = true)
    (h2 : L.filter (fun x => x.1 == "math/bits.deBruijn64tab") = [("math/bits.deBruijn64tab", Rows.laid_math_bits_deBruijn64tab)]) : Tz W := by
  rw [MakeChecks.laidMetH_plain _ _ _ h1] at hL
  have h3 := hL.filter (fun x => x.1 == "math/bits.deBruijn64tab")
  rw [h2] at h3
  exact Lib.tabIs_of_head (t := 160) (e := 5) (n := 64) tz_named (by kernel_rfl) Tryz.underlying160 Tryz.underlying5 (by kernel_rfl) (by kernel_rfl) h3
end Go.Proofs.YtdbcajiagjeplaaGreatDoor
