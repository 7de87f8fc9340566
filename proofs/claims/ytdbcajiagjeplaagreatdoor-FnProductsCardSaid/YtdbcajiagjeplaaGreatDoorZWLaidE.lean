/- From a row's listed variables: the two errors of strconv's. -/
import Derived.Test.YtdbcajiagjeplaaGreatDoorZWErr
import Derived.Test.YtdbcajiagjeplaaGreatDoorRows
import Derived.LaidSub
import Derived.MakeChecks
import Derived.Lib.LaidTab
import Derived.Stop.LaidErr
set_option linter.unusedVariables false
set_option linter.unusedSimpArgs false
namespace Go.Proofs.YtdbcajiagjeplaaGreatDoor
open Go.RowKit

theorem starES : "*" ++ "errors.errorString" = "*errors.errorString" := by decide
theorem rowES (u : TypeId) (h : Tryz.prog.typeName? 3 u = some "*errors.errorString") : u = 156 :=
  typeName_ptr_named (nm := "errors.errorString") (by rw [starES]; kernel_rfl) (by kernel_rfl) (by decide) u (by rw [starES]; exact h)
set_option maxRecDepth 100000 in
theorem errs_of_laid {L : List (String × DataW Unit)} {W : World} (hL : laidMetH Tryz.prog L W) (h1 : (L.all fun x => x.2.handleName?.isNone) = true)
    (h2 : L.filter (fun x => x.1 == "strconv.ErrSyntax") = [("strconv.ErrSyntax", Rows.laid_strconv_ErrSyntax)])
    (h3 : L.filter (fun x => x.1 == "strconv.ErrRange") = [("strconv.ErrRange", Rows.laid_strconv_ErrRange)]) : Errs W := by
  rw [MakeChecks.laidMetH_plain _ _ _ h1] at hL
  have h4 := hL.filter (fun x => x.1 == "strconv.ErrSyntax")
  have h5 := hL.filter (fun x => x.1 == "strconv.ErrRange")
  rw [h2] at h4
  rw [h3] at h5
  have f1 : Tryz.prog.globalNamed "strconv.ErrSyntax" = some 2 := by kernel_rfl
  have f2 : Tryz.prog.globalNamed "strconv.ErrRange" = some 3 := by kernel_rfl
  have t1 : (Tryz.prog.globals[2]?).map (·.type) = some 100 := by kernel_rfl
  have t2 : (Tryz.prog.globals[3]?).map (·.type) = some 100 := by kernel_rfl
  obtain ⟨a1, s1, hv1, -, -, -⟩ := laid_sentinel h4 f1 t1 Tryz.underlying100 rowES Tryz.underlying156 Tryz.underlying158 rfl rfl Tryz.underlying9 (by kernel_rfl) (by kernel_rfl)
  obtain ⟨a2, s2, hv2, -, -, -⟩ := laid_sentinel h5 f2 t2 Tryz.underlying100 rowES Tryz.underlying156 Tryz.underlying158 rfl rfl Tryz.underlying9 (by kernel_rfl) (by kernel_rfl)
  exact ⟨⟨_, _, hv1⟩, ⟨_, _, hv2⟩⟩
end Go.Proofs.YtdbcajiagjeplaaGreatDoor
