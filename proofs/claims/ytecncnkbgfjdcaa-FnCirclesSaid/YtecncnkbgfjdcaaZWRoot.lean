/- Contracts: SameNumber and IsSubnormal; the laws about them. -/
import Derived.Test.YtecncnkbgfjdcaaZWNum
import Derived.Laws.BitsAllLaws
set_option linter.unusedVariables false
set_option linter.unusedSimpArgs false
namespace Go.Proofs.Ytecncnkbgfjdcaa
open Go.RowKit near

theorem i64_and_of (a b : Nat) (ha : a < 9223372036854775808) (hb : b < 9223372036854775808) : bits .and .i64 (a : Int) (b : Int) = ((a &&& b : Nat) : Int) := by
  have hx : a &&& b < 2 ^ 63 := Nat.and_lt_two_pow _ (by omega)
  show IntKind.i64.wrap ((BitVec.ofInt 64 (a : Int) &&& BitVec.ofInt 64 (b : Int)).toNat : Int) = _
  rw [BitVec.ofInt_natCast, BitVec.ofInt_natCast, BitVec.toNat_and, BitVec.toNat_ofNat, BitVec.toNat_ofNat, Nat.mod_eq_of_lt (by omega), Nat.mod_eq_of_lt (by omega), IntKind.wrap_i64]
  omega

theorem expo_and (x : Nat) : x &&& 2139095040 = x % 2147483648 / 8388608 * 8388608 := nat_midmask 31 23 x (by decide)

/-- A number below the least normal one, zero apart. -/
def subB (v : Option Nat) : Bool := match v with
  | none => false
  | some b => decide (b % 2147483648 ≠ 0) && decide (b % 2147483648 < 8388608)

theorem sw32 : FloatKind.f32.format.signWeight = 2147483648 := rfl
theorem sw64 : FloatKind.f64.format.signWeight = 9223372036854775808 := rfl

theorem units_zero (f : Ieee.Format) : units f 0 = 0 := by unfold units; rw [if_pos (binade_pos f)]

theorem Z_zero_iff (k : FloatKind) (x : Nat) : Z k.format x = 0 ↔ rg k.format x = 0 := by
  have h0 := units_zero k.format
  have : units k.format (rg k.format x) = 0 ↔ rg k.format x = 0 := ⟨fun h => units_inj k.format (h.trans h0.symm), fun h => by rw [h, h0]⟩
  unfold Z
  split <;> omega

theorem ne_zero32 (x : Nat) : (FloatKind.f32.format.order x 0 != some .eq) = match val .f32 x with | none => true | some b => decide (b % 2147483648 ≠ 0) := by
  cases hn : (FloatKind.f32.decode x).isNaN with
  | true =>
    rw [val_none hn, show FloatKind.f32.format.order x 0 = none from order_nan_l (a := FloatKind.f32.format.read x) (b := FloatKind.f32.format.read 0) hn]; rfl
  | false =>
    rw [val_some hn, order_Z .f32 x 0 (not_nan_rg hn) (by decide)]
    have hz : Z FloatKind.f32.format 0 = 0 := (Z_zero_iff .f32 0).2 rfl
    rw [hz]
    have hi := Z_zero_iff .f32 x
    have hr : rg FloatKind.f32.format x = x % 2147483648 := rfl
    rw [hr] at hi
    rcases Int.lt_trichotomy (Z FloatKind.f32.format x) 0 with h | h | h
    · show _ = decide (x % 2147483648 ≠ 0)
      rw [cmp_lt h, decide_eq_true (by omega)]; rfl
    · show _ = decide (x % 2147483648 ≠ 0)
      rw [cmp_eq h, decide_eq_false (by omega)]; rfl
    · show _ = decide (x % 2147483648 ≠ 0)
      rw [cmp_gt h, decide_eq_true (by omega)]; rfl

end Go.Proofs.Ytecncnkbgfjdcaa
set_option linter.unusedVariables false
set_option linter.unusedSimpArgs false
namespace Go.Proofs.Ytecncnkbgfjdcaa
open Go.RowKit near

/-- The least normal float32, as a float64. -/
theorem units_least : units FloatKind.f64.format 4039728865751334912 = 4503599627370496 * 2 ^ 896 := by
  have := units_at FloatKind.f64.format 896 4503599627370496 (by rw [bin64]; omega) (.inr (by rw [bin64]; omega))
  rw [bin64] at this
  exact this
theorem units_b32 : units FloatKind.f32.format 8388608 = 8388608 * 2 ^ 0 := by
  have := units_at FloatKind.f32.format 0 8388608 (by rw [bin32]; omega) (.inr (by rw [bin32]; omega))
  rw [bin32, Nat.zero_mul, Nat.zero_add] at this
  exact this

/-- |float64(x)| < 2^-126, for a float32 that is no NaN. -/
theorem abs_less {x r : Nat} (hn : (FloatKind.f32.decode x).isNaN = false) (hr : FIs .f64 r (fwide (val .f32 x))) :
    (FloatKind.f64.format.order (r % 9223372036854775808) 4039728865751334912 == some .lt) = decide (x % 2147483648 < 8388608) := by
  have h32 : rg FloatKind.f32.format x = x % 2147483648 := rfl
  have hle := not_nan_rg hn
  rw [inf32] at hle
  have hv : r = FloatKind.f64.encode (FloatKind.f32.decode x) := by
    have := hr.out
    rw [val_some hn] at this
    exact (val_eq_some this).1.symm
  have hposi : ∀ q, q < 9223372036854775808 → Z FloatKind.f64.format q = units FloatKind.f64.format q := by
    intro q hq
    have h1 : sgn FloatKind.f64.format q = false := by
      show (q / 9223372036854775808 % 2 == 1) = false
      rw [Nat.div_eq_of_lt hq]; rfl
    have h2 : rg FloatKind.f64.format q = q := Nat.mod_eq_of_lt hq
    unfold Z
    rw [h1, h2]; rfl
  by_cases hi : rg FloatKind.f32.format x = 2139095040
  · have hw := wide_inf hi
    have hm : r % 9223372036854775808 = 9218868437227405312 := by rw [hv, hw]; exact word_mod .f64 _ _ (by rw [sw64]; omega)
    rw [hm, order_Z .f64 _ _ (by decide) (by decide), cmp_gt (by
      rw [hposi _ (by omega), hposi _ (by omega)]
      exact_mod_cast units_lt FloatKind.f64.format (by omega))]
    rw [decide_eq_false (by omega)]; rfl
  · obtain ⟨q, hq, hql, hu⟩ := wide_number (b := x) (by omega)
    have hm : r % 9223372036854775808 = q := by rw [hv, hq]; exact word_mod .f64 _ _ (by rw [sw64]; omega)
    have hrq : rg FloatKind.f64.format q = q := Nat.mod_eq_of_lt (by rw [sw64]; omega)
    rw [hm, order_Z .f64 _ _ (by rw [hrq, inf64]; omega) (by decide), hposi _ (by omega), hposi _ (by omega), units_least, hu]
    have hk : units FloatKind.f32.format 8388608 * 2 ^ 925 = 4503599627370496 * 2 ^ 896 := by
      rw [units_b32]
      exact pow_scale 0 925 23 52 896 8388608 4503599627370496 (by decide) (by decide) rfl
    rw [← hk]
    have hP := Nat.two_pow_pos 925
    clear hk hu
    generalize 2 ^ 925 = P at *
    by_cases h1 : x % 2147483648 < 8388608
    · have h2 := units_lt FloatKind.f32.format (p := rg FloatKind.f32.format x) (q := 8388608) (by omega)
      rw [cmp_lt (by exact_mod_cast Nat.mul_lt_mul_of_pos_right h2 hP), decide_eq_true h1]; rfl
    · have h2 := units_le FloatKind.f32.format (p := 8388608) (q := rg FloatKind.f32.format x) (by omega)
      have h3 := Nat.mul_le_mul_right P h2
      rw [decide_eq_false h1]
      rcases Nat.lt_or_eq_of_le h3 with h4 | h4
      · rw [cmp_gt (by exact_mod_cast h4)]; rfl
      · rw [cmp_eq (by exact_mod_cast h4.symm)]; rfl

theorem abs_less_nan {x r : Nat} (hn : (FloatKind.f32.decode x).isNaN = true) (hr : FIs .f64 r (fwide (val .f32 x))) :
    (FloatKind.f64.format.order (r % 9223372036854775808) 4039728865751334912 == some .lt) = false := by
  have h1 : val .f64 r = none := by rw [hr.out, val_none hn]; rfl
  have h2 := val_eq_none h1
  have h3 : (FloatKind.f64.decode (r % 9223372036854775808)).isNaN = true := by
    rw [decode_isNaN, sw64] at h2 ⊢
    rw [Nat.mod_mod]; exact h2
  rw [show FloatKind.f64.format.order (r % 9223372036854775808) 4039728865751334912 = none from order_nan_l (a := FloatKind.f64.format.read _) (b := FloatKind.f64.format.read _) h3]
  rfl

end Go.Proofs.Ytecncnkbgfjdcaa
set_option linter.unusedVariables false
set_option linter.unusedSimpArgs false
namespace Go.Proofs.Ytecncnkbgfjdcaa
open Go.RowKit near

theorem nan_bits : val .f32 2143289344 = none := by decide +kernel

theorem bitsZ_none_some {x b : Nat} (h : val .f32 x = some b) : (bitsZ (some b) == bitsZ none) = false := by
  rw [beq_eq_false_iff_ne]
  intro e
  have e1 : (b : Int) = 2143289344 := e
  have e2 : b = 2143289344 := by omega
  have e3 := val_val h
  rw [e2, nan_bits] at e3
  cases e3

theorem sgn_wide {x r : Nat} (hn : (FloatKind.f32.decode x).isNaN = false) (hr : FIs .f64 r (fwide (val .f32 x))) : sgn FloatKind.f64.format r = sgn FloatKind.f32.format x := by
  have hle := not_nan_rg hn
  rw [inf32] at hle
  have hv : r = FloatKind.f64.encode (FloatKind.f32.decode x) := by
    have := hr.out
    rw [val_some hn] at this
    exact (val_eq_some this).1.symm
  by_cases hi : rg FloatKind.f32.format x = 2139095040
  · rw [hv, wide_inf hi]; exact sgn_word .f64 _ _ (by rw [sw64]; omega)
  · obtain ⟨q, hq, hql, hu⟩ := wide_number (b := x) (by omega)
    rw [hv, hq]; exact sgn_word .f64 _ _ (by rw [sw64]; omega)

theorem order_same {x y : Nat} (hx : (FloatKind.f32.decode x).isNaN = false) (hy : (FloatKind.f32.decode y).isNaN = false) :
    (FloatKind.f32.format.order x y == some .eq) = decide (Z FloatKind.f32.format x = Z FloatKind.f32.format y) := by
  rw [order_Z .f32 x y (not_nan_rg hx) (not_nan_rg hy)]
  rcases Int.lt_trichotomy (Z FloatKind.f32.format x) (Z FloatKind.f32.format y) with h | h | h
  · rw [cmp_lt h, decide_eq_false (by omega)]; rfl
  · rw [cmp_eq h, decide_eq_true h]; rfl
  · rw [cmp_gt h, decide_eq_false (by omega)]; rfl

theorem same_word {x y : Nat} (hx : x < 4294967296) (hy : y < 4294967296) (hz : Z FloatKind.f32.format x = Z FloatKind.f32.format y) (hs : sgn FloatKind.f32.format x = sgn FloatKind.f32.format y) : x = y := by
  have h1 : units FloatKind.f32.format (rg FloatKind.f32.format x) = units FloatKind.f32.format (rg FloatKind.f32.format y) := by
    unfold Z at hz
    rw [hs] at hz
    split at hz <;> omega
  have h2 := units_inj _ h1
  rw [← word_of .f32 x hx, ← word_of .f32 y hy, hs, h2]

end Go.Proofs.Ytecncnkbgfjdcaa
set_option linter.unusedVariables false
set_option linter.unusedSimpArgs false
namespace Go.Proofs.Ytecncnkbgfjdcaa
open Go.RowKit

/-- A float of the value v is returned; nothing has turned but the count of draws. -/
def RetF (k : FloatKind) (v : Option Nat) (w : World) (e : Ending) (w' : World) : Prop := ∃ r n, e = .returned (.float k r) ∧ FIs k r v ∧ w' = w.drewN n

/-- What is left of a number: of one below the least normal number, a zero of its sign. -/
def flushV (v : Option Nat) : Option Nat := v.map fun b => if b % 2147483648 < 8388608 then b / 2147483648 * 2147483648 else b

theorem l01From_any (n : Nat) (hn : n < 4294967296) (w : World) : Calls Try.prog 74 #[.int .i64 n] w fun e w' => e = .returned (.float .f32 n) ∧ w = w' := by
  go_enter Try.func74, Try.ntmps74
  go_wp2_with fail
  go_ret
  exact ⟨rfl, rfl⟩
theorem copysign_zero (r : Nat) (hr : r < 18446744073709551616) (w : World) : Calls Try.prog 76 #[.float .f64 0, .float .f64 r] w fun e w' => e = .returned (.float .f64 (r / 9223372036854775808 * 9223372036854775808)) ∧ w = w' := by
  have h1 : bits .andNot .u64 0 9223372036854775808 = 0 := by decide +kernel
  have h2 := u64_and_nat r 9223372036854775808 hr (by omega)
  rw [show ((9223372036854775808 : Nat) : Int) = (9223372036854775808 : Int) from rfl, show r &&& 9223372036854775808 = r % 18446744073709551616 / 9223372036854775808 * 9223372036854775808 from nat_midmask 64 63 r (by decide), Nat.mod_eq_of_lt hr] at h2
  have h3 := u64_or_nat 0 (r / 9223372036854775808 * 9223372036854775808) (by omega) (by omega)
  rw [Nat.zero_or] at h3
  generalize r / 9223372036854775808 * 9223372036854775808 = q at *
  go_enter Try.func76, Try.ntmps76
  go_wp2_with fail
  go_ret
  refine ⟨ret_float ?_, rfl⟩
  rw [show (0 : Int) = ((0 : Nat) : Int) from rfl, h3, Int.toNat_natCast]
/-- The zero of a sign. -/
def zeroOf (s : Nat) : Nat := s * 9223372036854775808
theorem fits_zero (s : Nat) (hs : s < 2) : fitsNarrow (val .f64 (zeroOf s)) := by
  unfold zeroOf
  have : s = 0 ∨ s = 1 := by omega
  rcases this with rfl | rfl
  · intro b hb _ _
    rw [show val .f64 (0 * 9223372036854775808) = some 0 by decide +kernel] at hb
    cases hb; decide +kernel
  · intro b hb _ _
    rw [show val .f64 (1 * 9223372036854775808) = some 9223372036854775808 by decide +kernel] at hb
    cases hb; decide +kernel
theorem narrow_zero (s : Nat) (hs : s < 2) : fnarrow (val .f64 (zeroOf s)) = some (s * 2147483648) := by
  unfold zeroOf
  have : s = 0 ∨ s = 1 := by omega
  rcases this with rfl | rfl
  · decide +kernel
  · decide +kernel
theorem sign_wide {x r : Nat} (hx : x < 4294967296) (hr0 : r < 18446744073709551616) (hn : (FloatKind.f32.decode x).isNaN = false) (hr : FIs .f64 r (fwide (val .f32 x))) : r / 9223372036854775808 = x / 2147483648 := by
  have h := sgn_wide hn hr
  have h1 : (r / 9223372036854775808 % 2 == 1) = (x / 2147483648 % 2 == 1) := h
  have a1 : x / 2147483648 < 2 := by omega
  have a2 : r / 9223372036854775808 < 2 := by omega
  generalize x / 2147483648 = a at *
  generalize r / 9223372036854775808 = b at *
  have ha : a = 0 ∨ a = 1 := by omega
  have hb : b = 0 ∨ b = 1 := by omega
  rcases ha with rfl | rfl <;> rcases hb with rfl | rfl <;> simp at h1 <;> rfl

end Go.Proofs.Ytecncnkbgfjdcaa
