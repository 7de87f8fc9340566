/- Contracts: SameNumber and IsSubnormal; the laws about them. -/
import Derived.Test.YtdbcajiagjeplaaDoorWNum
import Derived.Laws.BitsAllLaws
set_option linter.unusedVariables false
set_option linter.unusedSimpArgs false
namespace Go.Proofs.YtdbcajiagjeplaaDoor
open Go.RowKit near

theorem i64_and_of (a b : Nat) (ha : a < 9223372036854775808) (hb : b < 9223372036854775808) : bits .and .i64 (a : Int) (b : Int) = ((a &&& b : Nat) : Int) := by
  have hx : a &&& b < 2 ^ 63 := Nat.and_lt_two_pow _ (by omega)
  show IntKind.i64.wrap ((BitVec.ofInt 64 (a : Int) &&& BitVec.ofInt 64 (b : Int)).toNat : Int) = _
  rw [BitVec.ofInt_natCast, BitVec.ofInt_natCast, BitVec.toNat_and, BitVec.toNat_ofNat, BitVec.toNat_ofNat, Nat.mod_eq_of_lt (by omega), Nat.mod_eq_of_lt (by omega), IntKind.wrap_i64]
  omega

theorem expo_and (x : Nat) : x &&& 2139095040 = x % 2147483648 / 8388608 * 8388608 := nat_midmask 31 23 x (by decide)

/-- A number below the least normal one, zero apart. -/
def subB (v : Option Nat) : Bool := match v with
  | none => false
  | some b => decide (b % 2147483648 ≠ 0) && decide (b % 2147483648 < 8388608)

theorem sw32 : FloatKind.f32.format.signWeight = 2147483648 := rfl
theorem sw64 : FloatKind.f64.format.signWeight = 9223372036854775808 := rfl

theorem units_zero (f : Ieee.Format) : units f 0 = 0 := by unfold units; rw [if_pos (binade_pos f)]

theorem Z_zero_iff (k : FloatKind) (x : Nat) : Z k.format x = 0 ↔ rg k.format x = 0 := by
  have h0 := units_zero k.format
  have : units k.format (rg k.format x) = 0 ↔ rg k.format x = 0 := ⟨fun h => units_inj k.format (h.trans h0.symm), fun h => by rw [h, h0]⟩
  unfold Z
  split <;> omega

theorem ne_zero32 (x : Nat) : (FloatKind.f32.format.order x 0 != some .eq) = match val .f32 x with | none => true | some b => decide (b % 2147483648 ≠ 0) := by
  cases hn : (FloatKind.f32.decode x).isNaN with
  | true =>
    rw [val_none hn, show FloatKind.f32.format.order x 0 = none from order_nan_l (a := FloatKind.f32.format.read x) (b := FloatKind.f32.format.read 0) hn]; rfl
  | false =>
    rw [val_some hn, order_Z .f32 x 0 (not_nan_rg hn) (by decide)]
    have hz : Z FloatKind.f32.format 0 = 0 := (Z_zero_iff .f32 0).2 rfl
    rw [hz]
    have hi := Z_zero_iff .f32 x
    have hr : rg FloatKind.f32.format x = x % 2147483648 := rfl
    rw [hr] at hi
    rcases Int.lt_trichotomy (Z FloatKind.f32.format x) 0 with h | h | h
    · show _ = decide (x % 2147483648 ≠ 0)
      rw [cmp_lt h, decide_eq_true (by omega)]; rfl
    · show _ = decide (x % 2147483648 ≠ 0)
      rw [cmp_eq h, decide_eq_false (by omega)]; rfl
    · show _ = decide (x % 2147483648 ≠ 0)
      rw [cmp_gt h, decide_eq_true (by omega)]; rfl

end Go.Proofs.YtdbcajiagjeplaaDoor
