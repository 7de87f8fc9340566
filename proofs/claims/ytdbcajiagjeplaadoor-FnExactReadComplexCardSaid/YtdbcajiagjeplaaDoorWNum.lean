/- Contracts: BitsOf, SameNumber, IsSubnormal of the program and of the reference. -/
import Derived.Test.YtdbcajiagjeplaaDoorWAbs
set_option linter.unusedVariables false
set_option linter.unusedSimpArgs false
namespace Go.Proofs.YtdbcajiagjeplaaDoor
open Go.RowKit

theorem implBitsOf_any (x : Nat) (hx : x < 4294967296) (w : World) : Calls Tryd.prog 69 #[.float .f32 x] w fun e w' => e = .returned (.int .i64 (bitsZ (val .f32 x))) ∧ w = w' := by
  have hne := ne_self .f32 x
  cases hv : val .f32 x with
  | none =>
    rw [hv] at hne
    go_enter Tryd.func69, Tryd.ntmps69
    go_wp2
    go_ret
    exact ⟨rfl, rfl⟩
  | some b =>
    obtain ⟨rfl, _⟩ := val_eq_some hv
    rw [hv] at hne
    clear hv
    go_enter Tryd.func69, Tryd.ntmps69
    go_wp2
    go_ret
    exact ⟨rfl, rfl⟩
end Go.Proofs.YtdbcajiagjeplaaDoor
