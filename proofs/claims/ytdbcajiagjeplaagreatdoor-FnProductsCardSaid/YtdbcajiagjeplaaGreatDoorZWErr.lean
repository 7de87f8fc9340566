/- The two errors of strconv's. -/
import Derived.Test.YtdbcajiagjeplaaGreatDoorZBase
import Derived.Lib.SmallJoins
set_option linter.unusedVariables false
set_option linter.unusedSimpArgs false
namespace Go.Proofs.YtdbcajiagjeplaaGreatDoor
open Go.RowKit Go.Lib

/-- A variable that holds an error. -/
def Sent (w : World) (name : String) : Prop := ∃ tp p, w.var? Tryz.prog name = some #[.iface tp p]
theorem err_named : (∃ g, Tryz.prog.globalNamed "strconv.ErrSyntax" = some g) ∧ (∃ g, Tryz.prog.globalNamed "strconv.ErrRange" = some g) := ⟨Option.isSome_iff_exists.1 (by kernel_rfl), Option.isSome_iff_exists.1 (by kernel_rfl)⟩
structure Errs (w : World) : Prop where
  bad : Sent w "strconv.ErrSyntax"
  far : Sent w "strconv.ErrRange"
theorem Errs.below {w w' : World} (h : Errs w) {B : Nat} (hB : w.heap.size ≤ B) (hb : Below B w w') : Errs w' := by
  obtain ⟨⟨g1, hg1⟩, ⟨g2, hg2⟩⟩ := err_named
  obtain ⟨⟨t1, p1, h1⟩, ⟨t2, p2, h2⟩⟩ := h
  exact ⟨⟨t1, p1, Go.Joins.var_stays hg1 h1 hb hB⟩, ⟨t2, p2, Go.Joins.var_stays hg2 h2 hb hB⟩⟩

end Go.Proofs.YtdbcajiagjeplaaGreatDoor
