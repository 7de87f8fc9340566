/- Bounds by powers of two: what an operation's result can be at most. -/
import Derived.Test.YtecglaggmheokaaFConv
import Derived.Test.YtecglaggmheokaaFWalk
set_option linter.unusedVariables false
set_option linter.unusedSimpArgs false
namespace Go.Proofs.Ytecglaggmheokaa
open Ieee near

theorem two_pow_le {a b : Nat} (h : a ≤ b) : 2 ^ a ≤ 2 ^ b := Nat.pow_le_pow_right (by omega) h

/-- A power of two as a rung of float64. -/
theorem rung_pow (E : Nat) (hE : E ≤ 2098) : ∃ q, q ≤ FloatKind.f64.format.infRung ∧ units FloatKind.f64.format q = 2 ^ E := by
  by_cases h : E < 52
  · refine ⟨2 ^ E, ?_, ?_⟩
    · have := two_pow_le (Nat.le_of_lt h)
      rw [inf64]; omega
    · unfold units
      have h2 : 2 ^ E < 2 ^ 52 := Nat.pow_lt_pow_right (by omega) h
      rw [if_pos (by rw [bin64]; omega)]
  · refine ⟨(E - 52) * FloatKind.f64.format.binade + FloatKind.f64.format.binade, ?_, ?_⟩
    · rw [inf64, bin64]; omega
    · rw [units_at FloatKind.f64.format (E - 52) _ (by omega) (.inr (Nat.le_refl _))]
      rw [show FloatKind.f64.format.binade = 2 ^ 52 from rfl, ← Nat.pow_add]
      exact congrArg (2 ^ ·) (by omega)
theorem rung_pow32 (E : Nat) (h0 : 23 ≤ E) (hE : E ≤ 276) : ∃ q, q < FloatKind.f32.format.infRung ∧ units FloatKind.f32.format q = 2 ^ E := by
  refine ⟨(E - 23) * FloatKind.f32.format.binade + FloatKind.f32.format.binade, ?_, ?_⟩
  · rw [inf32, bin32]; omega
  · rw [units_at FloatKind.f32.format (E - 23) _ (by omega) (.inr (Nat.le_refl _))]
    rw [show FloatKind.f32.format.binade = 2 ^ 23 from rfl, ← Nat.pow_add]
    exact congrArg (2 ^ ·) (by omega)

/-- A float64 value is at most 2 ^ (E - 1074), or a NaN. -/
def UB (v : Option Nat) (E : Nat) : Prop := ∀ b, v = some b → units FloatKind.f64.format (rg FloatKind.f64.format b) ≤ 2 ^ E

theorem UB.none_ (E : Nat) : UB none E := fun _ h => by cases h
theorem UB.mono {v : Option Nat} {E F : Nat} (h : UB v E) (hEF : E ≤ F) : UB v F := fun b hb => Nat.le_trans (h b hb) (two_pow_le hEF)

/-- What UB says of a number read: its magnitude. -/
theorem UB.read {b E : Nat} (h : UB (some b) E) (hE : E < 2098) (hn : (FloatKind.f64.decode b).isNaN = false) :
    ∃ m e, FloatKind.f64.decode b = .number (sgn FloatKind.f64.format b) m e ∧ -1074 ≤ e ∧ m * 2 ^ (e + 1074).toNat ≤ 2 ^ E := by
  have hb := h b rfl
  rcases read_cases .f64 b with ⟨h1, m, e, e1, he, hm, _⟩ | ⟨h1, e1⟩ | ⟨h1, h2⟩
  · refine ⟨m, e, e1, by rw [lp64] at he; omega, ?_⟩
    rw [lp64] at hm
    rw [show e + 1074 = e - -1074 by omega, hm]; exact hb
  · exfalso
    rw [h1] at hb
    obtain ⟨N, hN⟩ : ∃ N : Nat, N = 2098 := ⟨_, rfl⟩
    obtain ⟨q, hq, hu⟩ := rung_pow N (by omega)
    have h3 := units_le FloatKind.f64.format hq
    rw [hu] at h3
    have h5 : 2 ^ E < 2 ^ N := Nat.pow_lt_pow_right (by omega) (by omega)
    exact absurd (Nat.le_trans h3 hb) (Nat.not_le.2 h5)
  · rw [hn] at h2; cases h2

/-- A magnitude at most a power of two is rounded to at most that. -/
theorem nearest_ub (s : Bool) (mag : Nat) (place : Int) (E : Nat) (hE : E ≤ 2098) (h : mag * 2 ^ (place + 1074).toNat ≤ 2 ^ E * 2 ^ (-1074 - place).toNat) : UB (some (FloatKind.f64.format.nearest s mag place)) E := by
  intro b hb
  obtain rfl : FloatKind.f64.format.nearest s mag place = b := Option.some.inj hb
  obtain ⟨q, hq, hu⟩ := rung_pow E hE
  have hr : rawRung FloatKind.f64.format mag place ≤ q := raw_le FloatKind.f64.format mag place q (by rw [lp64, hu, show place - -1074 = place + 1074 by omega]; exact h)
  rw [nearest_eq, rg_word .f64 _ _ (by have h1 := FloatKind.f64.format.infRung_lt; have := Nat.min_le_right (rawRung FloatKind.f64.format mag place) FloatKind.f64.format.infRung; omega)]
  rw [← hu]
  exact units_le _ (Nat.le_trans (Nat.min_le_left _ _) hr)

theorem fop_some {op : BinOp} {k : FloatKind} {a b : Option Nat} {r : Nat} (h : fop op k a b = some r) : ∃ x y, a = some x ∧ b = some y ∧ floatBits op k x y = some r := by
  unfold fop at h
  cases a with
  | none => cases h
  | some x =>
    cases b with
    | none => cases h
    | some y => exact ⟨x, y, rfl, rfl, h⟩

theorem bits_not_nan {op : BinOp} {k : FloatKind} {x y r : Nat} (h : floatBits op k x y = some r) : (k.decode x).isNaN = false ∧ (k.decode y).isNaN = false := by
  constructor
  · cases hx : (k.decode x).isNaN with
    | false => rfl
    | true => rw [floatBits_nan_l hx] at h; cases h
  · cases hy : (k.decode y).isNaN with
    | false => rfl
    | true => rw [floatBits_nan_r hy] at h; cases h

theorem UB.mul {a b : Option Nat} {E F G : Nat} (ha : UB a E) (hb : UB b F) (hE : E < 2098) (hF : F < 2098) (hG : E + F ≤ G + 1074) (hG2 : G ≤ 2098) : UB (fop .mul .f64 a b) G := by
  intro r hr
  obtain ⟨x, y, rfl, rfl, h⟩ := fop_some hr
  obtain ⟨hx, hy⟩ := bits_not_nan h
  obtain ⟨m, i, e1, hi, hm⟩ := ha.read hE hx
  obtain ⟨n, j, e2, hj, hn⟩ := hb.read hF hy
  have h1 : floatBits .mul .f64 x y = some (FloatKind.f64.format.nearest (sgn FloatKind.f64.format x ^^ sgn FloatKind.f64.format y) (m * n) (i + j)) := by
    show (((FloatKind.f64.decode x).product (FloatKind.f64.decode y)).map FloatKind.f64.format.write) = _
    rw [e1, e2]; rfl
  rw [h1] at h
  refine nearest_ub _ (m * n) (i + j) G hG2 ?_ r h
  have h2 : m * n * 2 ^ ((i + 1074).toNat + (j + 1074).toNat) ≤ 2 ^ (G + 1074) := by
    rw [Nat.pow_add, show m * n * (2 ^ (i + 1074).toNat * 2 ^ (j + 1074).toNat) = (m * 2 ^ (i + 1074).toNat) * (n * 2 ^ (j + 1074).toNat) from by
      rw [Nat.mul_mul_mul_comm]]
    refine Nat.le_trans (Nat.mul_le_mul hm hn) ?_
    rw [← Nat.pow_add]; exact two_pow_le hG
  by_cases hS : 0 ≤ i + j + 1074
  · rw [show (-1074 - (i + j)).toNat = 0 by omega, Nat.pow_zero, Nat.mul_one]
    refine Nat.le_of_mul_le_mul_right ?_ (Nat.two_pow_pos 1074)
    rw [← Nat.pow_add 2 G 1074, Nat.mul_assoc, ← Nat.pow_add 2 _ 1074, show (i + j + 1074).toNat + 1074 = (i + 1074).toNat + (j + 1074).toNat by omega]
    exact h2
  · rw [show (i + j + 1074).toNat = 0 by omega, Nat.pow_zero, Nat.mul_one]
    refine Nat.le_of_mul_le_mul_right ?_ (Nat.two_pow_pos ((i + 1074).toNat + (j + 1074).toNat))
    refine Nat.le_trans h2 ?_
    rw [Nat.mul_assoc, ← Nat.pow_add, ← Nat.pow_add]
    exact two_pow_le (by omega)
end Go.Proofs.Ytecglaggmheokaa
