/- Kinds of float32 numbers, and of what they are widened to; math.NaN, math.Inf. -/
import Derived.Test.YtecglaggmheokaaWSqrt
import Derived.Test.YtecglaggmheokaaFLog
set_option linter.unusedVariables false
set_option linter.unusedSimpArgs false
namespace Go.Proofs.Ytecglaggmheokaa
open Go.RowKit near

theorem Z_zero (k : FloatKind) : Z k.format 0 = 0 := by
  refine (Z_zero_iff k 0).2 ?_
  cases k <;> rfl

theorem units_pos {k : FloatKind} {q : Nat} (h : 0 < q) : 0 < units k.format q := by
  have := units_lt k.format h
  omega

/-- How a number stands to nought. -/
theorem order_zero (k : FloatKind) {x : Nat} (hn : (k.decode x).isNaN = false) : k.format.order x 0 = some (if rg k.format x = 0 then .eq else if sgn k.format x then .lt else .gt) := by
  rw [order_Z k x 0 (not_nan_rg hn) (by cases k <;> decide), Z_zero]
  by_cases h0 : rg k.format x = 0
  · rw [if_pos h0, cmp_eq ((Z_zero_iff k x).2 h0)]
  · rw [if_neg h0]
    have hp := units_pos (k := k) (Nat.pos_of_ne_zero h0)
    unfold Z
    cases sgn k.format x
    · rw [if_neg (by decide), if_neg (by decide), cmp_gt (by omega)]
    · rw [if_pos rfl, if_pos rfl, cmp_lt (by omega)]

theorem order_eq_zero (k : FloatKind) {x : Nat} (hn : (k.decode x).isNaN = false) : (k.format.order x 0 == some .eq) = decide (rg k.format x = 0) := by
  rw [order_zero k hn]
  by_cases h0 : rg k.format x = 0
  · rw [if_pos h0, decide_eq_true h0]; rfl
  · rw [if_neg h0, decide_eq_false h0]; cases sgn k.format x <;> rfl
theorem order_lt_zero (k : FloatKind) {x : Nat} (hn : (k.decode x).isNaN = false) : (k.format.order x 0 == some .lt) = (decide (rg k.format x ≠ 0) && sgn k.format x) := by
  rw [order_zero k hn]
  by_cases h0 : rg k.format x = 0
  · rw [if_pos h0, decide_eq_false (by simpa using h0)]; rfl
  · rw [if_neg h0, decide_eq_true h0]; cases sgn k.format x <;> rfl
theorem order_gt_zero (k : FloatKind) {x : Nat} (hn : (k.decode x).isNaN = false) : (k.format.order x 0 == some .gt) = (decide (rg k.format x ≠ 0) && !sgn k.format x) := by
  rw [order_zero k hn]
  by_cases h0 : rg k.format x = 0
  · rw [if_pos h0, decide_eq_false (by simpa using h0)]; rfl
  · rw [if_neg h0, decide_eq_true h0]; cases sgn k.format x <;> rfl
theorem order_nan_zero (k : FloatKind) {x : Nat} (hn : (k.decode x).isNaN = true) (y : Nat) : k.format.order x y = none := order_nan_l (a := k.format.read x) (b := k.format.read y) hn
theorem self_num (k : FloatKind) {x : Nat} (hn : (k.decode x).isNaN = false) : (k.format.order x x != some .eq) = false := by
  rw [ne_self, val_some hn]; rfl
theorem self_nan (k : FloatKind) {x : Nat} (hn : (k.decode x).isNaN = true) : (k.format.order x x != some .eq) = true := by
  rw [ne_self, val_none hn]; rfl

theorem wide_number' {b : Nat} (hb : rg FloatKind.f32.format b < 2139095040) :
    ∃ q P, FloatKind.f64.encode (FloatKind.f32.decode b) = FloatKind.f64.format.word (sgn FloatKind.f32.format b) q ∧ q < 5183643171103440896 ∧ 0 < P ∧ units FloatKind.f64.format q = units FloatKind.f32.format (rg FloatKind.f32.format b) * P := by
  obtain ⟨q, h1, h2, h3⟩ := wide_number hb
  exact ⟨q, _, h1, h2, Nat.two_pow_pos 925, h3⟩
theorem mid_lo (N : Nat) (hN : N = 925) {u uq : Nat} (hu : uq = u * 2 ^ N) (h : 0 < u) : 4503599627370496 * 2 ^ 873 ≤ uq := by
  have h2 := pow_scale3 873 N 4503599627370496 1 4503599627370496 52 (by omega) (by decide) (by omega)
  rw [h2, hu]
  exact Nat.mul_le_mul_right _ h
/-- A float32 and the float64 that it is widened to, by kinds. -/
structure WideOf (x r : Nat) : Prop where
  num : (FloatKind.f64.decode r).isNaN = false
  word : r = FloatKind.f64.encode (FloatKind.f32.decode x)
  sign : sgn FloatKind.f64.format r = sgn FloatKind.f32.format x
  zero : rg FloatKind.f64.format r = 0 ↔ rg FloatKind.f32.format x = 0
  inf : rg FloatKind.f64.format r = 9218868437227405312 ↔ rg FloatKind.f32.format x = 2139095040

theorem wide_of {x r : Nat} (hn : (FloatKind.f32.decode x).isNaN = false) (hr : FIs .f64 r (fwide (val .f32 x))) : WideOf x r := by
  have hle := not_nan_rg hn
  rw [inf32] at hle
  have hw : r = FloatKind.f64.encode (FloatKind.f32.decode x) := by
    have := hr.out
    rw [val_some hn] at this
    exact (val_eq_some this).1.symm
  have hnum : (FloatKind.f64.decode r).isNaN = false := by
    have := hr.out
    rw [val_some hn] at this
    exact (val_eq_some this).2
  refine ⟨hnum, hw, sgn_wide hn hr, ?_, ?_⟩
  · by_cases hi : rg FloatKind.f32.format x = 2139095040
    · rw [hw, wide_inf hi, rg_word .f64 _ _ (by rw [sw64]; omega), hi]; omega
    · obtain ⟨q, P, hq, hql, hP, hu⟩ := wide_number' (b := x) (by omega)
      rw [hw, hq, rg_word .f64 _ _ (by rw [sw64]; omega)]
      have z64 := units_zero FloatKind.f64.format
      have z32 := units_zero FloatKind.f32.format
      constructor
      · intro h
        subst h
        rw [z64] at hu
        have h2 : units FloatKind.f32.format (rg FloatKind.f32.format x) = 0 := by
          rcases Nat.eq_zero_or_pos (units FloatKind.f32.format (rg FloatKind.f32.format x)) with h | h
          · exact h
          · exact absurd hu (Nat.ne_of_lt (Nat.mul_pos h hP))
        exact units_inj _ (h2.trans z32.symm)
      · intro h
        rw [h, z32] at hu
        exact units_inj _ ((hu.trans (Nat.zero_mul P)).trans z64.symm)
  · by_cases hi : rg FloatKind.f32.format x = 2139095040
    · rw [hw, wide_inf hi, rg_word .f64 _ _ (by rw [sw64]; omega)]; simp [hi]
    · obtain ⟨q, hq, hql, hu⟩ := wide_number (b := x) (by omega)
      rw [hw, hq, rg_word .f64 _ _ (by rw [sw64]; omega)]; omega

/-- A finite number but nought, widened: its exponent is a middle one. -/
theorem wide_mid {x r : Nat} (hn : (FloatKind.f32.decode x).isNaN = false) (h : WideOf x r) (h0 : rg FloatKind.f32.format x ≠ 0) (hi : rg FloatKind.f32.format x ≠ 2139095040) :
    874 * 4503599627370496 ≤ rg FloatKind.f64.format r ∧ rg FloatKind.f64.format r < 1151 * 4503599627370496 := by
  have hle := not_nan_rg hn
  rw [inf32] at hle
  obtain ⟨q, hq, hql, hu⟩ := wide_number (b := x) (by omega)
  rw [h.word, hq, rg_word .f64 _ _ (by rw [sw64]; omega)]
  refine ⟨?_, by omega⟩
  refine le_of_units FloatKind.f64.format ?_
  have h1 := units_word (q := 874 * 4503599627370496) (d := 874) (f := 0) (M := 4503599627370496) (L := 873) (by omega) (by omega) (by omega) (by omega) (by omega)
  exact Nat.le_trans (Nat.le_of_eq h1) (mid_lo 925 rfl hu (units_pos (k := .f32) (Nat.pos_of_ne_zero h0)))

theorem val_nan64 : val .f64 9221120237041090561 = none := by decide +kernel
theorem nan_any (w : World) : Calls Try.prog 59 #[] w fun e w' => e = .returned (.float .f64 9221120237041090561) ∧ w = w' := by
  go_enter Try.func59, Try.ntmps59
  go_wp2_with fail
  go_ret
  exact ⟨rfl, rfl⟩
theorem inf_neg (w : World) : Calls Try.prog 58 #[.int .i64 (-1)] w fun e w' => e = .returned (.float .f64 18442240474082181120) ∧ w = w' := by
  go_enter Try.func58, Try.ntmps58
  go_wp2_with fail
  go_ret
  exact ⟨rfl, rfl⟩
theorem inf_pos (w : World) : Calls Try.prog 58 #[.int .i64 1] w fun e w' => e = .returned (.float .f64 9218868437227405312) ∧ w = w' := by
  go_enter Try.func58, Try.ntmps58
  go_wp2_with fail
  go_ret
  exact ⟨rfl, rfl⟩
end Go.Proofs.Ytecglaggmheokaa
