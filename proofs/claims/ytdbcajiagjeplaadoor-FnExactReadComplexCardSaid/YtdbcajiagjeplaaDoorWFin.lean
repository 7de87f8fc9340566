/- Contracts: IsFinite, BitsOf, SameNumber of the program and of the reference. -/
import Derived.Test.YtdbcajiagjeplaaDoorWExt
import Derived.Test.YtdbcajiagjeplaaDoorBase
import Derived.Lib.Hide
set_option linter.unusedVariables false
set_option linter.unusedSimpArgs false
namespace Go.Proofs.YtdbcajiagjeplaaDoor
open Go.RowKit

/-- What is left of a number taken from itself is zero. -/
def finB (v : Option Nat) : Bool := fcmp .f32 (fop .sub .f32 v v) (some 0) == some .eq

theorem val_zero32 : val .f32 0 = some 0 := by decide +kernel
theorem val_zero64 : val .f64 0 = some 0 := by decide +kernel


theorem finB_of {r : Nat} {v : Option Nat} (h : FIs .f32 r (fop .sub .f32 v v)) : (FloatKind.f32.format.order r 0 == some .eq) = finB v := by
  rw [order_val, h.out, val_zero32]; rfl

/-- The bits, one NaN for all. -/
def bitsZ (v : Option Nat) : Int := match v with | none => 2143289344 | some b => (b : Int)

theorem ne_self (k : FloatKind) (x : Nat) : (k.format.order x x != some .eq) = (val k x).isNone := by
  cases hn : (k.decode x).isNaN with
  | true =>
    rw [val_none hn, show k.format.order x x = none from order_nan_l (a := k.format.read x) (b := k.format.read x) hn]; rfl
  | false =>
    rw [val_some hn, near.order_Z k x x (not_nan_rg hn) (not_nan_rg hn), near.cmp_eq rfl]; rfl

theorem specBits_any (x : Nat) (hx : x < 4294967296) (w : World) : Calls Tryd.prog 76 #[.float .f32 x] w fun e w' => e = .returned (.int .i64 (bitsZ (val .f32 x))) ∧ w = w' := by
  have hne := ne_self .f32 x
  cases hv : val .f32 x with
  | none =>
    rw [hv] at hne
    go_enter Tryd.func76, Tryd.ntmps76
    go_wp2
    go_ret
    exact ⟨rfl, rfl⟩
  | some b =>
    obtain ⟨rfl, _⟩ := val_eq_some hv
    rw [hv] at hne
    clear hv
    go_enter Tryd.func76, Tryd.ntmps76
    go_wp2
    go_ret
    exact ⟨rfl, rfl⟩
theorem specBits_some (x : Nat) (hx : x < 4294967296) (hv : val .f32 x = some x) (w : World) : Calls Tryd.prog 76 #[.float .f32 x] w fun e w' => e = .returned (.int .i64 (x : Int)) ∧ w = w' := by
  have h := specBits_any x hx w
  rw [hv] at h
  exact h
theorem specBits_none (x : Nat) (hx : x < 4294967296) (hv : val .f32 x = none) (w : World) : Calls Tryd.prog 76 #[.float .f32 x] w fun e w' => e = .returned (.int .i64 2143289344) ∧ w = w' := by
  have h := specBits_any x hx w
  rw [hv] at h
  exact h
end Go.Proofs.YtdbcajiagjeplaaDoor
