/- From a row's listed variables and the world's shape: what the library's functions ask. -/
import Derived.Test.YtdbcajiagjeplaaGreatDoorZWLaidT
import Derived.Test.YtdbcajiagjeplaaGreatDoorZWLaidE
import Derived.Test.YtdbcajiagjeplaaGreatDoorZWNRd3
set_option linter.unusedVariables false
set_option linter.unusedSimpArgs false
namespace Go.Proofs.YtdbcajiagjeplaaGreatDoor
open Go.RowKit
set_option maxRecDepth 100000 in
theorem libX_of_laid {L : List (String × DataW Unit)} {W : World} (hsh : W.ShapedOpen Tryz.prog) (hL : laidMetH Tryz.prog L W) (h1 : (L.all fun x => x.2.handleName?.isNone) = true)
    (h0 : L.filter (fun x => x.1 == "math/bits.deBruijn64tab") = [("math/bits.deBruijn64tab", Rows.laid_math_bits_deBruijn64tab)])
    (h2 : L.filter (fun x => x.1 == "strconv.ErrSyntax") = [("strconv.ErrSyntax", Rows.laid_strconv_ErrSyntax)])
    (h3 : L.filter (fun x => x.1 == "strconv.ErrRange") = [("strconv.ErrRange", Rows.laid_strconv_ErrRange)]) : LibX W :=
  ⟨tz_of_laid hL h1 h0, errs_of_laid hL h1 h2 h3, Tryz.laysM146.s1_3 W hsh⟩
end Go.Proofs.YtdbcajiagjeplaaGreatDoor
