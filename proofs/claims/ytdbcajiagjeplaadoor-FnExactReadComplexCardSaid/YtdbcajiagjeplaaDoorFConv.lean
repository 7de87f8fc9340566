/- float64(x) of a float32 is exact; float32 of that is x again; a comparison of two float32 values is that of their float64 values. -/
import Derived.Test.YtdbcajiagjeplaaDoorFVal
set_option linter.unusedVariables false
set_option linter.unusedSimpArgs false
namespace Go.Proofs.YtdbcajiagjeplaaDoor
open Ieee near

theorem lp32 : FloatKind.f32.format.leastPlace = -149 := rfl
theorem lp64 : FloatKind.f64.format.leastPlace = -1074 := rfl
theorem bin32 : FloatKind.f32.format.binade = 8388608 := rfl
theorem bin64 : FloatKind.f64.format.binade = 4503599627370496 := rfl
theorem inf32 : FloatKind.f32.format.infRung = 2139095040 := rfl
theorem inf64 : FloatKind.f64.format.infRung = 9218868437227405312 := rfl

theorem pow_scale (A B C D E M N : Nat) (hM : M = 2 ^ C) (hN : N = 2 ^ D) (h : C + A + B = D + E) : M * 2 ^ A * 2 ^ B = N * 2 ^ E := by
  subst hM; subst hN
  rw [← Nat.pow_add, ← Nat.pow_add, ← Nat.pow_add, h]

theorem pow_join (m a b c d : Nat) (h : a = c + d) (hb : b = m * 2 ^ c) : m * 2 ^ a = b * 2 ^ d := by
  subst h; subst hb
  rw [Nat.pow_add, Nat.mul_assoc]

theorem units_inf32 : units FloatKind.f32.format 2139095040 = 8388608 * 2 ^ 254 := by
  have := units_at FloatKind.f32.format 254 8388608 (by rw [bin32]; omega) (.inr (by rw [bin32]; omega))
  rw [bin32] at this
  exact this

/-- The rung of float64 that holds 2^128. -/
theorem units_top : units FloatKind.f64.format 5183643171103440896 = 4503599627370496 * 2 ^ 1150 := by
  have := units_at FloatKind.f64.format 1150 4503599627370496 (by rw [bin64]; omega) (.inr (by rw [bin64]; omega))
  rw [bin64] at this
  exact this

/-- A finite float32, widened: the rung of float64 with the same value. -/
theorem wide_number {b : Nat} (hb : rg FloatKind.f32.format b < 2139095040) :
    ∃ q, FloatKind.f64.encode (FloatKind.f32.decode b) = FloatKind.f64.format.word (sgn FloatKind.f32.format b) q ∧ q < 5183643171103440896 ∧ units FloatKind.f64.format q = units FloatKind.f32.format (rg FloatKind.f32.format b) * 2 ^ 925 := by
  rcases read_cases .f32 b with ⟨h1, m, e, e1, hi, hm, hlt⟩ | ⟨h1, e1⟩ | ⟨h1, _⟩
  · rw [e1]
    rw [lp32] at hi hm
    rw [bin32] at hlt
    obtain ⟨q, hq⟩ := represents FloatKind.f64.format m e (by rw [bin64]; omega) (by rw [lp64]; omega)
    rw [lp64] at hq
    have hu : units FloatKind.f64.format q = units FloatKind.f32.format (rg FloatKind.f32.format b) * 2 ^ 925 := by
      rw [hq]
      exact pow_join m _ _ _ 925 (by omega) hm.symm
    have hlt2 : q < 5183643171103440896 := by
      have h2 : units FloatKind.f64.format q < units FloatKind.f64.format 5183643171103440896 := by
        rw [units_top, hu]
        have h3 := units_lt FloatKind.f32.format hb
        rw [units_inf32] at h3
        have h4 := Nat.mul_lt_mul_of_pos_right h3 (Nat.two_pow_pos 925)
        rw [pow_scale 254 925 23 52 1150 8388608 4503599627370496 (by decide) (by decide) rfl] at h4
        exact h4
      by_cases hc : q < 5183643171103440896
      · exact hc
      · have := units_le FloatKind.f64.format (p := 5183643171103440896) (q := q) (by omega)
        omega
    refine ⟨q, ?_, hlt2, hu⟩
    show FloatKind.f64.format.nearest _ m e = _
    refine nearest_exact _ _ m e q (by rw [inf64]; omega) ?_
    rw [lp64, hq, show (-1074 - e).toNat = 0 from by omega, Nat.pow_zero, Nat.mul_one]
  · rw [inf32] at h1; omega
  · rw [inf32] at h1; omega

theorem wide_inf {b : Nat} (hb : rg FloatKind.f32.format b = 2139095040) : FloatKind.f64.encode (FloatKind.f32.decode b) = FloatKind.f64.format.word (sgn FloatKind.f32.format b) 9218868437227405312 := by
  rcases read_cases .f32 b with ⟨h1, _⟩ | ⟨h1, e1⟩ | ⟨h1, _⟩
  · rw [inf32] at h1; omega
  · rw [e1]; rfl
  · rw [inf32] at h1; omega

theorem not_nan_rg {k : FloatKind} {b : Nat} (hn : (k.decode b).isNaN = false) : rg k.format b ≤ k.format.infRung := by
  rw [decode_isNaN, decide_eq_false_iff_not] at hn
  unfold rg
  omega

theorem inf_iff {k : FloatKind} {b : Nat} : (k.decode b).isInfinity = decide (rg k.format b = k.format.infRung) := read_isInf k b

theorem wide_bits {b : Nat} (hn : (FloatKind.f32.decode b).isNaN = false) : floatToFloatBits .f32 b .f64 = some (FloatKind.f64.encode (FloatKind.f32.decode b)) := by
  have hr := not_nan_rg hn
  unfold floatToFloatBits
  rw [if_neg (by decide)]
  rcases read_cases .f32 b with ⟨h1, m, e, e1, hi, hm, hlt⟩ | ⟨h1, e1⟩ | ⟨h1, _⟩
  · rw [inf32] at h1
    obtain ⟨q, hq, hql, _⟩ := wide_number h1
    rw [e1] at hq ⊢
    dsimp only
    have hsw : FloatKind.f64.format.signWeight = 9223372036854775808 := rfl
    rw [hq, if_neg]
    rw [inf_iff, rg_word .f64 _ q (by rw [hsw]; omega), inf64, decide_eq_true_eq]
    omega
  · rw [e1]
  · omega

theorem narrow_bits {b : Nat} (hn : (FloatKind.f64.decode b).isNaN = false) (hfit : fitsNarrow (some b)) : floatToFloatBits .f64 b .f32 = some (FloatKind.f32.encode (FloatKind.f64.decode b)) := by
  unfold floatToFloatBits
  rw [if_neg (by decide)]
  have hf := hfit b rfl hn
  revert hf
  cases hd : FloatKind.f64.decode b with
  | number s m e =>
    intro hf
    dsimp only
    rw [if_neg (by rw [hf rfl]; decide)]
  | infinity s => intro _; rfl
  | nan s f => rw [hd] at hn; cases hn

/-- Narrowed behind widening: the word itself. -/
theorem narrow_of_wide {b : Nat} (hb : b < 4294967296) (hn : (FloatKind.f32.decode b).isNaN = false) :
    FloatKind.f32.encode (FloatKind.f64.decode (FloatKind.f64.encode (FloatKind.f32.decode b))) = b := by
  have hr := not_nan_rg hn
  rw [inf32] at hr
  have hw : FloatKind.f32.format.word (sgn FloatKind.f32.format b) (rg FloatKind.f32.format b) = b := word_of .f32 b hb
  have hsw : FloatKind.f64.format.signWeight = 9223372036854775808 := rfl
  by_cases hi : rg FloatKind.f32.format b = 2139095040
  · rw [wide_inf hi]
    rcases read_cases .f64 (FloatKind.f64.format.word (sgn FloatKind.f32.format b) 9218868437227405312) with ⟨h1, _⟩ | ⟨h1, e1⟩ | ⟨h1, _⟩
    · rw [rg_word .f64 _ _ (by rw [hsw]; omega), inf64] at h1; omega
    · rw [e1, sgn_word .f64 _ _ (by rw [hsw]; omega)]
      conv => rhs; rw [← hw, hi]
      rfl
    · rw [rg_word .f64 _ _ (by rw [hsw]; omega), inf64] at h1; omega
  · obtain ⟨q, hq, hql, hu⟩ := wide_number (b := b) (by omega)
    rw [hq]
    rcases read_cases .f64 (FloatKind.f64.format.word (sgn FloatKind.f32.format b) q) with ⟨h1, m, e, e1, he, hm, hlt⟩ | ⟨h1, e1⟩ | ⟨h1, _⟩
    · rw [e1, sgn_word .f64 _ _ (by rw [hsw]; omega)]
      rw [rg_word .f64 _ _ (by rw [hsw]; omega), hu, lp64] at hm
      rw [lp64] at he
      conv => rhs; rw [← hw]
      show FloatKind.f32.format.nearest _ m e = _
      refine nearest_exact _ _ m e _ (by rw [inf32]; omega) ?_
      rw [lp32]
      -- m * 2^(e+149) = U * 2^(-149-e), from m * 2^(e+1074) = U * 2^925
      by_cases h5 : -149 ≤ e
      · rw [show (-149 - e).toNat = 0 from by omega, Nat.pow_zero, Nat.mul_one]
        refine Nat.eq_of_mul_eq_mul_right (Nat.two_pow_pos 925) ?_
        rw [← hm]
        exact (pow_join m _ _ _ 925 (by omega) rfl).symm
      · rw [show (e - -149).toNat = 0 from by omega, Nat.pow_zero, Nat.mul_one]
        refine Nat.eq_of_mul_eq_mul_right (Nat.two_pow_pos (e - -1074).toNat) ?_
        rw [hm]
        exact pow_join _ 925 _ _ _ (by omega) rfl
    · rw [rg_word .f64 _ _ (by rw [hsw]; omega), inf64] at h1; omega
    · rw [rg_word .f64 _ _ (by rw [hsw]; omega), inf64] at h1; omega

theorem fnarrow_fwide {b : Nat} (hb : b < 4294967296) : fnarrow (fwide (val .f32 b)) = val .f32 b := by
  cases hn : (FloatKind.f32.decode b).isNaN with
  | true => rw [val_none hn]; rfl
  | false =>
    rw [val_some hn]
    exact congrArg some (narrow_of_wide hb hn)

theorem fits_wide {b : Nat} (hb : b < 4294967296) : fitsNarrow (fwide (val .f32 b)) := by
  intro c hc _ hi
  cases hn : (FloatKind.f32.decode b).isNaN with
  | true => rw [val_none hn] at hc; cases hc
  | false =>
    rw [val_some hn] at hc
    obtain rfl : FloatKind.f64.encode (FloatKind.f32.decode b) = c := Option.some.inj hc
    rw [narrow_of_wide hb hn]
    have hr := not_nan_rg hn
    rw [inf_iff, inf32, decide_eq_false_iff_not]
    intro h
    rw [wide_inf h, inf_iff, rg_word .f64 _ _ (by decide), inf64] at hi
    simp at hi
end Go.Proofs.YtdbcajiagjeplaaDoor
