/- Contracts: SameNumber and IsSubnormal of the program. -/
import Derived.Test.YtdbcajiagjeplaaDoorWSub
set_option linter.unusedVariables false
set_option linter.unusedSimpArgs false
namespace Go.Proofs.YtdbcajiagjeplaaDoor
open Go.RowKit near

/-- The least normal float32, as a float64. -/
theorem units_least : units FloatKind.f64.format 4039728865751334912 = 4503599627370496 * 2 ^ 896 := by
  have := units_at FloatKind.f64.format 896 4503599627370496 (by rw [bin64]; omega) (.inr (by rw [bin64]; omega))
  rw [bin64] at this
  exact this
theorem units_b32 : units FloatKind.f32.format 8388608 = 8388608 * 2 ^ 0 := by
  have := units_at FloatKind.f32.format 0 8388608 (by rw [bin32]; omega) (.inr (by rw [bin32]; omega))
  rw [bin32, Nat.zero_mul, Nat.zero_add] at this
  exact this

/-- |float64(x)| < 2^-126, for a float32 that is no NaN. -/
theorem abs_less {x r : Nat} (hn : (FloatKind.f32.decode x).isNaN = false) (hr : FIs .f64 r (fwide (val .f32 x))) :
    (FloatKind.f64.format.order (r % 9223372036854775808) 4039728865751334912 == some .lt) = decide (x % 2147483648 < 8388608) := by
  have h32 : rg FloatKind.f32.format x = x % 2147483648 := rfl
  have hle := not_nan_rg hn
  rw [inf32] at hle
  have hv : r = FloatKind.f64.encode (FloatKind.f32.decode x) := by
    have := hr.out
    rw [val_some hn] at this
    exact (val_eq_some this).1.symm
  have hposi : ∀ q, q < 9223372036854775808 → Z FloatKind.f64.format q = units FloatKind.f64.format q := by
    intro q hq
    have h1 : sgn FloatKind.f64.format q = false := by
      show (q / 9223372036854775808 % 2 == 1) = false
      rw [Nat.div_eq_of_lt hq]; rfl
    have h2 : rg FloatKind.f64.format q = q := Nat.mod_eq_of_lt hq
    unfold Z
    rw [h1, h2]; rfl
  by_cases hi : rg FloatKind.f32.format x = 2139095040
  · have hw := wide_inf hi
    have hm : r % 9223372036854775808 = 9218868437227405312 := by rw [hv, hw]; exact word_mod .f64 _ _ (by rw [sw64]; omega)
    rw [hm, order_Z .f64 _ _ (by decide) (by decide), cmp_gt (by
      rw [hposi _ (by omega), hposi _ (by omega)]
      exact_mod_cast units_lt FloatKind.f64.format (by omega))]
    rw [decide_eq_false (by omega)]; rfl
  · obtain ⟨q, hq, hql, hu⟩ := wide_number (b := x) (by omega)
    have hm : r % 9223372036854775808 = q := by rw [hv, hq]; exact word_mod .f64 _ _ (by rw [sw64]; omega)
    have hrq : rg FloatKind.f64.format q = q := Nat.mod_eq_of_lt (by rw [sw64]; omega)
    rw [hm, order_Z .f64 _ _ (by rw [hrq, inf64]; omega) (by decide), hposi _ (by omega), hposi _ (by omega), units_least, hu]
    have hk : units FloatKind.f32.format 8388608 * 2 ^ 925 = 4503599627370496 * 2 ^ 896 := by
      rw [units_b32]
      exact pow_scale 0 925 23 52 896 8388608 4503599627370496 (by decide) (by decide) rfl
    rw [← hk]
    have hP := Nat.two_pow_pos 925
    clear hk hu
    generalize 2 ^ 925 = P at *
    by_cases h1 : x % 2147483648 < 8388608
    · have h2 := units_lt FloatKind.f32.format (p := rg FloatKind.f32.format x) (q := 8388608) (by omega)
      rw [cmp_lt (by exact_mod_cast Nat.mul_lt_mul_of_pos_right h2 hP), decide_eq_true h1]; rfl
    · have h2 := units_le FloatKind.f32.format (p := 8388608) (q := rg FloatKind.f32.format x) (by omega)
      have h3 := Nat.mul_le_mul_right P h2
      rw [decide_eq_false h1]
      rcases Nat.lt_or_eq_of_le h3 with h4 | h4
      · rw [cmp_gt (by exact_mod_cast h4)]; rfl
      · rw [cmp_eq (by exact_mod_cast h4.symm)]; rfl

theorem abs_less_nan {x r : Nat} (hn : (FloatKind.f32.decode x).isNaN = true) (hr : FIs .f64 r (fwide (val .f32 x))) :
    (FloatKind.f64.format.order (r % 9223372036854775808) 4039728865751334912 == some .lt) = false := by
  have h1 : val .f64 r = none := by rw [hr.out, val_none hn]; rfl
  have h2 := val_eq_none h1
  have h3 : (FloatKind.f64.decode (r % 9223372036854775808)).isNaN = true := by
    rw [decode_isNaN, sw64] at h2 ⊢
    rw [Nat.mod_mod]; exact h2
  rw [show FloatKind.f64.format.order (r % 9223372036854775808) 4039728865751334912 = none from order_nan_l (a := FloatKind.f64.format.read _) (b := FloatKind.f64.format.read _) h3]
  rfl

end Go.Proofs.YtdbcajiagjeplaaDoor
