/- FnExactReadNumbers returns true. -/
import Derived.Test.YtdbcajiagjeplaaGreatDoorZWNRd2
import Derived.Test.YtdbcajiagjeplaaGreatDoorZMarkF
set_option linter.unusedVariables false
set_option linter.unusedSimpArgs false
namespace Go.Proofs.YtdbcajiagjeplaaGreatDoor
open Go.RowKit
/-- What the library's functions ask of the world. -/
structure LibX (w : World) : Prop where
  tz : Tz w
  errs : Errs w
  mlen : ∃ m, w.cell? ⟨Tryz.laysM146_ren.g 1, 0, none⟩ = some (.int .i64 m)
theorem LibX.below {w w' : World} (h : LibX w) (hb : Below w.heap.size w w') : LibX w' := by
  obtain ⟨m, hm⟩ := h.mlen
  exact ⟨h.tz.below (Nat.le_refl _) hb, h.errs.below (Nat.le_refl _) hb, m, (hb.cell (p := ⟨Tryz.laysM146_ren.g 1, 0, none⟩) (World.block_lt_of_cell? w _ hm)).trans hm⟩

end Go.Proofs.YtdbcajiagjeplaaGreatDoor
