/- RootNumber, FlushNumber, FromBits: contracts and laws. -/
import Derived.Test.YtdbcajiagjeplaaDoorSameF
import Derived.Test.YtdbcajiagjeplaaDoorWSame
set_option linter.unusedVariables false
set_option linter.unusedSimpArgs false
namespace Go.Proofs.YtdbcajiagjeplaaDoor
open Go.RowKit

/-- A float of the value v is returned; nothing has turned but the count of draws. -/
def RetF (k : FloatKind) (v : Option Nat) (w : World) (e : Ending) (w' : World) : Prop := ∃ r n, e = .returned (.float k r) ∧ FIs k r v ∧ w' = w.drewN n

/-- What is left of a number: of one below the least normal number, a zero of its sign. -/
def flushV (v : Option Nat) : Option Nat := v.map fun b => if b % 2147483648 < 8388608 then b / 2147483648 * 2147483648 else b

theorem l01From_any (n : Nat) (hn : n < 4294967296) (w : World) : Calls Tryd.prog 75 #[.int .i64 n] w fun e w' => e = .returned (.float .f32 n) ∧ w = w' := by
  go_enter Tryd.func75, Tryd.ntmps75
  go_wp2_with fail
  go_ret
  exact ⟨rfl, rfl⟩
/-- The zero of a sign. -/
def zeroOf (s : Nat) : Nat := s * 9223372036854775808
theorem fits_zero (s : Nat) (hs : s < 2) : fitsNarrow (val .f64 (zeroOf s)) := by
  unfold zeroOf
  have : s = 0 ∨ s = 1 := by omega
  rcases this with rfl | rfl
  · intro b hb _ _
    rw [show val .f64 (0 * 9223372036854775808) = some 0 by decide +kernel] at hb
    cases hb; decide +kernel
  · intro b hb _ _
    rw [show val .f64 (1 * 9223372036854775808) = some 9223372036854775808 by decide +kernel] at hb
    cases hb; decide +kernel
theorem narrow_zero (s : Nat) (hs : s < 2) : fnarrow (val .f64 (zeroOf s)) = some (s * 2147483648) := by
  unfold zeroOf
  have : s = 0 ∨ s = 1 := by omega
  rcases this with rfl | rfl
  · decide +kernel
  · decide +kernel
theorem sign_wide {x r : Nat} (hx : x < 4294967296) (hr0 : r < 18446744073709551616) (hn : (FloatKind.f32.decode x).isNaN = false) (hr : FIs .f64 r (fwide (val .f32 x))) : r / 9223372036854775808 = x / 2147483648 := by
  have h := sgn_wide hn hr
  have h1 : (r / 9223372036854775808 % 2 == 1) = (x / 2147483648 % 2 == 1) := h
  have a1 : x / 2147483648 < 2 := by omega
  have a2 : r / 9223372036854775808 < 2 := by omega
  generalize x / 2147483648 = a at *
  generalize r / 9223372036854775808 = b at *
  have ha : a = 0 ∨ a = 1 := by omega
  have hb : b = 0 ∨ b = 1 := by omega
  rcases ha with rfl | rfl <;> rcases hb with rfl | rfl <;> simp at h1 <;> rfl

end Go.Proofs.YtdbcajiagjeplaaDoor
