/- Contract: SameNumber of the program. -/
import Derived.Test.YtdbcajiagjeplaaDoorWSub2
set_option linter.unusedVariables false
set_option linter.unusedSimpArgs false
namespace Go.Proofs.YtdbcajiagjeplaaDoor
open Go.RowKit near

theorem nan_bits : val .f32 2143289344 = none := by decide +kernel

theorem bitsZ_none_some {x b : Nat} (h : val .f32 x = some b) : (bitsZ (some b) == bitsZ none) = false := by
  rw [beq_eq_false_iff_ne]
  intro e
  have e1 : (b : Int) = 2143289344 := e
  have e2 : b = 2143289344 := by omega
  have e3 := val_val h
  rw [e2, nan_bits] at e3
  cases e3

theorem sgn_wide {x r : Nat} (hn : (FloatKind.f32.decode x).isNaN = false) (hr : FIs .f64 r (fwide (val .f32 x))) : sgn FloatKind.f64.format r = sgn FloatKind.f32.format x := by
  have hle := not_nan_rg hn
  rw [inf32] at hle
  have hv : r = FloatKind.f64.encode (FloatKind.f32.decode x) := by
    have := hr.out
    rw [val_some hn] at this
    exact (val_eq_some this).1.symm
  by_cases hi : rg FloatKind.f32.format x = 2139095040
  · rw [hv, wide_inf hi]; exact sgn_word .f64 _ _ (by rw [sw64]; omega)
  · obtain ⟨q, hq, hql, hu⟩ := wide_number (b := x) (by omega)
    rw [hv, hq]; exact sgn_word .f64 _ _ (by rw [sw64]; omega)

theorem order_same {x y : Nat} (hx : (FloatKind.f32.decode x).isNaN = false) (hy : (FloatKind.f32.decode y).isNaN = false) :
    (FloatKind.f32.format.order x y == some .eq) = decide (Z FloatKind.f32.format x = Z FloatKind.f32.format y) := by
  rw [order_Z .f32 x y (not_nan_rg hx) (not_nan_rg hy)]
  rcases Int.lt_trichotomy (Z FloatKind.f32.format x) (Z FloatKind.f32.format y) with h | h | h
  · rw [cmp_lt h, decide_eq_false (by omega)]; rfl
  · rw [cmp_eq h, decide_eq_true h]; rfl
  · rw [cmp_gt h, decide_eq_false (by omega)]; rfl

theorem same_word {x y : Nat} (hx : x < 4294967296) (hy : y < 4294967296) (hz : Z FloatKind.f32.format x = Z FloatKind.f32.format y) (hs : sgn FloatKind.f32.format x = sgn FloatKind.f32.format y) : x = y := by
  have h1 : units FloatKind.f32.format (rg FloatKind.f32.format x) = units FloatKind.f32.format (rg FloatKind.f32.format y) := by
    unfold Z at hz
    rw [hs] at hz
    split at hz <;> omega
  have h2 := units_inj _ h1
  rw [← word_of .f32 x hx, ← word_of .f32 y hy, hs, h2]

end Go.Proofs.YtdbcajiagjeplaaDoor
