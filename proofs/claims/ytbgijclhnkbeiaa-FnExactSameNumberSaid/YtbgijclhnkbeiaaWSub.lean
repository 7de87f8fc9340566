/- Contracts: SameNumber and IsSubnormal; the laws about them. -/
import Derived.Test.YtbgijclhnkbeiaaWNum
import Derived.Laws.BitsAllLaws
set_option linter.unusedVariables false
set_option linter.unusedSimpArgs false
namespace Go.Proofs.Ytbgijclhnkbeiaa
open Go.RowKit near

theorem i64_and_of (a b : Nat) (ha : a < 9223372036854775808) (hb : b < 9223372036854775808) : bits .and .i64 (a : Int) (b : Int) = ((a &&& b : Nat) : Int) := by
  have hx : a &&& b < 2 ^ 63 := Nat.and_lt_two_pow _ (by omega)
  show IntKind.i64.wrap ((BitVec.ofInt 64 (a : Int) &&& BitVec.ofInt 64 (b : Int)).toNat : Int) = _
  rw [BitVec.ofInt_natCast, BitVec.ofInt_natCast, BitVec.toNat_and, BitVec.toNat_ofNat, BitVec.toNat_ofNat, Nat.mod_eq_of_lt (by omega), Nat.mod_eq_of_lt (by omega), IntKind.wrap_i64]
  omega

theorem expo_and (x : Nat) : x &&& 2139095040 = x % 2147483648 / 8388608 * 8388608 := nat_midmask 31 23 x (by decide)

/-- A number below the least normal one, zero apart. -/
def subB (v : Option Nat) : Bool := match v with
  | none => false
  | some b => decide (b % 2147483648 ≠ 0) && decide (b % 2147483648 < 8388608)

theorem sw32 : FloatKind.f32.format.signWeight = 2147483648 := rfl
theorem sw64 : FloatKind.f64.format.signWeight = 9223372036854775808 := rfl

theorem units_zero (f : Ieee.Format) : units f 0 = 0 := by unfold units; rw [if_pos (binade_pos f)]

theorem Z_zero_iff (k : FloatKind) (x : Nat) : Z k.format x = 0 ↔ rg k.format x = 0 := by
  have h0 := units_zero k.format
  have : units k.format (rg k.format x) = 0 ↔ rg k.format x = 0 := ⟨fun h => units_inj k.format (h.trans h0.symm), fun h => by rw [h, h0]⟩
  unfold Z
  split <;> omega

theorem ne_zero32 (x : Nat) : (FloatKind.f32.format.order x 0 != some .eq) = match val .f32 x with | none => true | some b => decide (b % 2147483648 ≠ 0) := by
  cases hn : (FloatKind.f32.decode x).isNaN with
  | true =>
    rw [val_none hn, show FloatKind.f32.format.order x 0 = none from order_nan_l (a := FloatKind.f32.format.read x) (b := FloatKind.f32.format.read 0) hn]; rfl
  | false =>
    rw [val_some hn, order_Z .f32 x 0 (not_nan_rg hn) (by decide)]
    have hz : Z FloatKind.f32.format 0 = 0 := (Z_zero_iff .f32 0).2 rfl
    rw [hz]
    have hi := Z_zero_iff .f32 x
    have hr : rg FloatKind.f32.format x = x % 2147483648 := rfl
    rw [hr] at hi
    rcases Int.lt_trichotomy (Z FloatKind.f32.format x) 0 with h | h | h
    · show _ = decide (x % 2147483648 ≠ 0)
      rw [cmp_lt h, decide_eq_true (by omega)]; rfl
    · show _ = decide (x % 2147483648 ≠ 0)
      rw [cmp_eq h, decide_eq_false (by omega)]; rfl
    · show _ = decide (x % 2147483648 ≠ 0)
      rw [cmp_gt h, decide_eq_true (by omega)]; rfl

theorem specSub_any (x : Nat) (hx : x < 4294967296) (w : World) : Calls Try.prog 17 #[.float .f32 x] w fun e w' => e = .returned (.bool (subB (val .f32 x))) ∧ w = w' := by
  have hz := ne_zero32 x
  cases hv : val .f32 x with
  | none =>
    rw [hv] at hz
    have hand : bits .and .i64 2143289344 2139095040 = 2139095040 := by decide +kernel
    go_enter Try.func17, Try.ntmps17
    go_wp2_with (go_at_call 25; refine (specBits_any x hx _).mono ?_; rw [hv]; rintro e w' ⟨rfl, rfl⟩)
    go_ret
    exact ⟨rfl, rfl⟩
  | some b =>
    obtain rfl : x = b := (val_eq_some hv).1.symm
    have hand := i64_and_of x 2139095040 (by omega) (by omega)
    rw [expo_and] at hand
    by_cases h0 : x % 2147483648 = 0
    · have hz' : (FloatKind.f32.format.order x 0 != some .eq) = false := by rw [hz, hv]; simp [h0]
      have hs : subB (some x) = false := by simp [subB, h0]
      clear hz hand
      rw [hs]
      go_enter Try.func17, Try.ntmps17
      go_wp2_with fail
      go_ret
      exact ⟨rfl, rfl⟩
    · have hz' : (FloatKind.f32.format.order x 0 != some .eq) = true := by rw [hz, hv]; simp [h0]
      clear hz
      by_cases h1 : x % 2147483648 < 8388608
      · have hs : subB (some x) = true := by simp [subB, h0, h1]
        have hb : (bits .and .i64 (x : Int) 2139095040 == 0) = true := by
          rw [show (2139095040 : Int) = ((2139095040 : Nat) : Int) from rfl, hand, Nat.div_eq_of_lt h1]; rfl
        clear hand
        rw [hs]
        go_enter Try.func17, Try.ntmps17
        go_wp2_with (go_at_call 25; refine (specBits_any x hx _).mono ?_; rw [hv]; rintro e w' ⟨rfl, rfl⟩)
        go_ret
        exact ⟨ret_bool hb, rfl⟩
      · have hs : subB (some x) = false := by simp [subB, h1]
        have hb : (bits .and .i64 (x : Int) 2139095040 == 0) = false := by
          rw [show (2139095040 : Int) = ((2139095040 : Nat) : Int) from rfl, hand]
          have : 1 ≤ x % 2147483648 / 8388608 := (Nat.le_div_iff_mul_le (by omega)).2 (by omega)
          simp only [beq_eq_false_iff_ne, ne_eq]
          omega
        clear hand
        rw [hs]
        go_enter Try.func17, Try.ntmps17
        go_wp2_with (go_at_call 25; refine (specBits_any x hx _).mono ?_; rw [hv]; rintro e w' ⟨rfl, rfl⟩)
        go_ret
        exact ⟨ret_bool hb, rfl⟩
end Go.Proofs.Ytbgijclhnkbeiaa
