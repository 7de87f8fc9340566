/- Contracts: BitsOf, SameNumber, IsSubnormal of the program and of the reference. -/
import Derived.Test.YtbgijclhnkbeiaaWAbs
set_option linter.unusedVariables false
set_option linter.unusedSimpArgs false
namespace Go.Proofs.Ytbgijclhnkbeiaa
open Go.RowKit

theorem specBitsOf_any (x : Nat) (hx : x < 4294967296) (w : World) : Calls Try.prog 15 #[.float .f32 x] w fun e w' => e = .returned (.int .i64 (bitsZ (val .f32 x))) ∧ w = w' := by
  go_enter Try.func15, Try.ntmps15
  go_wp2_with (go_at_call 25; refine (specBits_any _ hx _).mono ?_; rintro e w' ⟨rfl, rfl⟩)
  go_ret
  exact ⟨rfl, rfl⟩
theorem implBitsOf_any (x : Nat) (hx : x < 4294967296) (w : World) : Calls Try.prog 16 #[.float .f32 x] w fun e w' => e = .returned (.int .i64 (bitsZ (val .f32 x))) ∧ w = w' := by
  have hne := ne_self .f32 x
  cases hv : val .f32 x with
  | none =>
    rw [hv] at hne
    go_enter Try.func16, Try.ntmps16
    go_wp2
    go_ret
    exact ⟨rfl, rfl⟩
  | some b =>
    obtain ⟨rfl, _⟩ := val_eq_some hv
    rw [hv] at hne
    clear hv
    go_enter Try.func16, Try.ntmps16
    go_wp2
    go_ret
    exact ⟨rfl, rfl⟩
theorem specSame_any (x y : Nat) (hx : x < 4294967296) (hy : y < 4294967296) (w : World) : Calls Try.prog 28 #[.float .f32 x, .float .f32 y] w fun e w' => e = .returned (.bool (bitsZ (val .f32 x) == bitsZ (val .f32 y))) ∧ w = w' := by
  go_enter Try.func28, Try.ntmps28
  go_wp2_with fail
  refine (specBits_any x hx _).mono ?_
  rintro e w' ⟨rfl, rfl⟩
  go_wp2_with fail
  refine (specBits_any y hy _).mono ?_
  rintro e w' ⟨rfl, rfl⟩
  go_wp2_with fail
  go_ret
  exact ⟨rfl, rfl⟩
theorem specSameNumber_any (x y : Nat) (hx : x < 4294967296) (hy : y < 4294967296) (w : World) : Calls Try.prog 19 #[.float .f32 x, .float .f32 y] w fun e w' => e = .returned (.bool (bitsZ (val .f32 x) == bitsZ (val .f32 y))) ∧ w = w' := by
  go_enter Try.func19, Try.ntmps19
  go_wp2_with (go_at_call 28; refine (specSame_any x y hx hy _).mono ?_; rintro e w' ⟨rfl, rfl⟩)
  go_ret
  exact ⟨rfl, rfl⟩
end Go.Proofs.Ytbgijclhnkbeiaa
