/- Contracts of the laws' helpers on []float32: markFloat32S, heldFloat32S. -/
import Derived.Test.YtdbcajiagjeplaaGreatDoorZFloats
import Derived.Test.YtdbcajiagjeplaaGreatDoorZWNum
import Derived.Laws.Cover2
set_option linter.unusedVariables false
set_option linter.unusedSimpArgs false
namespace Go.Proofs.YtdbcajiagjeplaaGreatDoor
open Go.RowKit
/-- The word of float32(k). -/
def fwd (k : Int) : Nat := floatOfInt .f32 k
theorem fwd_ok {k : Nat} (h : k < 300) : (val .f32 (fwd (k : Int))).isNone = false := by
  have key : ∀ k : Fin 300, (val .f32 (fwd ((k.val : Nat) : Int))).isNone = false := by decide +kernel
  exact key ⟨k, h⟩
theorem fwd_ne {k : Int} (h0 : 0 ≤ k) (h : k < 300) : (FloatKind.f32.format.order (floatOfInt .f32 k) (floatOfInt .f32 k) != some .eq) = false := by
  obtain ⟨n, rfl⟩ := Int.eq_ofNat_of_zero_le h0
  rw [ne_self .f32]
  exact fwd_ok (by omega)
end Go.Proofs.YtdbcajiagjeplaaGreatDoor
