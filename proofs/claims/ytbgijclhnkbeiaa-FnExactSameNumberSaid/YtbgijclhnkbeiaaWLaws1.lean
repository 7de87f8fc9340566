/- The laws FnExactIsFinite, FnExactBitsOf, FnExactIsSubnormal, FnExactSameNumber: they return true. -/
import Derived.Test.YtbgijclhnkbeiaaWSame
set_option linter.unusedVariables false
set_option linter.unusedSimpArgs false
namespace Go.Proofs.Ytbgijclhnkbeiaa
open Go.RowKit near

theorem below_drewN_self (w : World) (n : Nat) : Below w.heap.size w (w.drewN n) := ⟨rfl, rfl, rfl, Nat.le_refl _, fun _ _ => rfl⟩

theorem fnExactIsFinite_walk (x : Nat) (wf : (Lit.float .f32 x).wf = true) (w : World) : Calls Try.prog 4 #[.float .f32 x] w fun e w' => e = .returned (.bool true) ∧ Below w.heap.size w w' := by
  clear wf
  go_enter Try.func4, Try.ntmps4
  generalize hb : finB (val .f32 x) = b
  go_wp2_with fail
  refine (specIsFinite_any x _).mono ?_
  rw [hb]
  rintro e w' ⟨rfl, n, rfl⟩
  have hbb : (b != b) = false := by simp
  go_wp2_with fail
  refine (implIsFinite_any x _).mono ?_
  rw [hb]
  rintro e w' ⟨rfl, n2, rfl⟩
  go_wp2_with fail
  go_ret
  exact ⟨rfl, below_drewN_self _ _⟩
theorem fnExactBitsOf_walk (x : Nat) (wf : (Lit.float .f32 x).wf = true) (w : World) : Calls Try.prog 6 #[.float .f32 x] w fun e w' => e = .returned (.bool true) ∧ Below w.heap.size w w' := by
  have hx : x < 4294967296 := by simpa [Lit.wf] using wf
  clear wf
  go_enter Try.func6, Try.ntmps6
  generalize hb : bitsZ (val .f32 x) = b
  go_wp2_with fail
  refine (specBitsOf_any x hx _).mono ?_
  rw [hb]
  rintro e w' ⟨rfl, rfl⟩
  go_wp2_with fail
  refine (implBitsOf_any x hx _).mono ?_
  rw [hb]
  rintro e w' ⟨rfl, rfl⟩
  go_wp2_with fail
  go_ret
  exact ⟨rfl, Below.refl _ _⟩
theorem fnExactIsSubnormal_walk (x : Nat) (wf : (Lit.float .f32 x).wf = true) (w : World) : Calls Try.prog 7 #[.float .f32 x] w fun e w' => e = .returned (.bool true) ∧ Below w.heap.size w w' := by
  have hx : x < 4294967296 := by simpa [Lit.wf] using wf
  clear wf
  go_enter Try.func7, Try.ntmps7
  generalize hb : subB (val .f32 x) = b
  go_wp2_with fail
  refine (specSub_any x hx _).mono ?_
  rw [hb]
  rintro e w' ⟨rfl, rfl⟩
  have hbb : (b != b) = false := by simp
  go_wp2_with fail
  refine (implSub_any x hx _).mono ?_
  rw [hb]
  rintro e w' ⟨rfl, n2, rfl⟩
  go_wp2_with fail
  go_ret
  exact ⟨rfl, below_drewN_self _ _⟩
theorem fnExactSameNumber_walk (x : Nat) (wf : (Lit.float .f32 x).wf = true) (y : Nat) (wf2 : (Lit.float .f32 y).wf = true) (w : World) : Calls Try.prog 8 #[.float .f32 x, .float .f32 y] w fun e w' => e = .returned (.bool true) ∧ Below w.heap.size w w' := by
  have hx : x < 4294967296 := by simpa [Lit.wf] using wf
  have hy : y < 4294967296 := by simpa [Lit.wf] using wf2
  clear wf wf2
  go_enter Try.func8, Try.ntmps8
  generalize hb : (bitsZ (val .f32 x) == bitsZ (val .f32 y)) = b
  go_wp2_with fail
  refine (specSameNumber_any x y hx hy _).mono ?_
  rw [hb]
  rintro e w' ⟨rfl, rfl⟩
  have hbb : (b != b) = false := by simp
  go_wp2_with fail
  refine (implSame_any x y hx hy _).mono ?_
  rw [hb]
  rintro e w' ⟨rfl, n2, rfl⟩
  go_wp2_with fail
  go_ret
  exact ⟨rfl, below_drewN_self _ _⟩
end Go.Proofs.Ytbgijclhnkbeiaa
