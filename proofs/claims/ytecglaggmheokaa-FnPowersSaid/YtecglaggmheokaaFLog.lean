/- The logarithm on values: halving and doubling a float64 turns its exponent alone; what both sides' loops reckon. -/
import Derived.Test.YtecglaggmheokaaFBound3
set_option linter.unusedVariables false
set_option linter.unusedSimpArgs false
namespace Go.Proofs.Ytecglaggmheokaa
open Ieee near

def fl (n : Int) : Nat := FloatKind.f64.nearest n
def one64 : Nat := 4607182418800017408
def two64 : Nat := 4611686018427387904

theorem inf64' : FloatKind.f64.format.infRung = 2047 * 4503599627370496 := rfl

/-- A float64 that is positive and no NaN, with its exponent field d: what its word reads as. -/
theorem read_normal {y d f : Nat} (hy : y = d * 4503599627370496 + f) (hf : f < 4503599627370496) (hd : 1 ≤ d) (hd2 : d ≤ 2046) :
    FloatKind.f64.decode y = .number false (4503599627370496 + f) (-1074 + (d - 1 : Nat)) := by
  have hsw : FloatKind.f64.format.signWeight = 9223372036854775808 := rfl
  have h1 : y / FloatKind.f64.format.signWeight = 0 := by rw [hsw]; exact Nat.div_eq_of_lt (by omega)
  have h2 : y % FloatKind.f64.format.signWeight = y := by rw [hsw]; exact Nat.mod_eq_of_lt (by omega)
  unfold FloatKind.decode Format.read
  dsimp only
  rw [h1, h2, if_neg (by rw [bin64]; omega), if_pos (by rw [inf64']; omega), bin64, lp64]
  have h3 : y % 4503599627370496 = f := by omega
  have h4 : y / 4503599627370496 = d := by omega
  rw [h3, h4]; rfl

theorem log2_eq {m k : Nat} (h1 : 2 ^ k ≤ m) (h2 : m < 2 ^ (k + 1)) : m.log2 = k := by
  have hm : m ≠ 0 := by have := Nat.two_pow_pos k; omega
  have h3 := Nat.log2_self_le hm
  have h4 : m < 2 ^ (m.log2 + 1) := Nat.lt_log2_self
  have h5 : k < m.log2 + 1 := (Nat.pow_lt_pow_iff_right (by omega)).1 (Nat.lt_of_le_of_lt h1 h4)
  have h6 : m.log2 < k + 1 := (Nat.pow_lt_pow_iff_right (by omega)).1 (Nat.lt_of_le_of_lt h3 h2)
  omega

theorem units_normal {d f : Nat} (hf : f < 4503599627370496) (hd : 1 ≤ d) : units FloatKind.f64.format (d * 4503599627370496 + f) = (4503599627370496 + f) * 2 ^ (d - 1) := by
  have := units_at FloatKind.f64.format (d - 1) (4503599627370496 + f) (by rw [bin64]; omega) (.inr (by rw [bin64]; omega))
  rw [bin64] at this
  rw [← this]
  exact congrArg (units FloatKind.f64.format) (by omega)

theorem pow_scale3 (A B M N K c : Nat) (hM : M = N * K) (hK : K = 2 ^ c) (h : c + A = B) : M * 2 ^ A = N * 2 ^ B := by
  subst hM; subst hK; subst h
  rw [Nat.mul_assoc, ← Nat.pow_add]

theorem units_word {q d f M L : Nat} (hq : q = d * 4503599627370496 + f) (hf : f < 4503599627370496) (hd : 1 ≤ d) (hM : M = 4503599627370496 + f) (hL : L = d - 1) : units FloatKind.f64.format q = M * 2 ^ L := by
  subst hq; subst hM; subst hL
  exact units_normal hf hd

theorem two_read : FloatKind.f64.decode two64 = .number false 4503599627370496 (-51) := by decide +kernel

/-- y / 2. -/
theorem halve_of {y t q : Nat} (ht : FloatKind.f64.decode t = .number false 4503599627370496 (-51)) (hq : q + 4503599627370496 = y) (h1 : 2 * 4503599627370496 ≤ y) (h2 : y < 2047 * 4503599627370496) : floatBits .quo .f64 y t = some q := by
  obtain ⟨d, f, hy, hf⟩ : ∃ d f, y = d * 4503599627370496 + f ∧ f < 4503599627370496 := ⟨y / 4503599627370496, y % 4503599627370496, by omega, by omega⟩
  have hd : 2 ≤ d := by omega
  have hd2 : d ≤ 2046 := by omega
  show ((FloatKind.f64.decode y).quotient 54 (FloatKind.f64.decode t)).map FloatKind.f64.format.write = _
  rw [read_normal hy hf (by omega) hd2, ht]
  unfold Datum.quotient
  dsimp only
  have hl1 : (4503599627370496 + f).log2 = 52 := log2_eq (by omega) (by omega)
  have hl2 : Nat.log2 4503599627370496 = 52 := by decide +kernel
  rw [if_neg (by omega), hl1, hl2, Nat.shiftLeft_eq]
  have e1 : (4503599627370496 + f) * 2 ^ (54 + 52 - 52) = (4503599627370496 + f) * 4 * 4503599627370496 := by omega
  rw [e1, Nat.mul_div_cancel _ (by omega), Nat.mul_mod_left]
  show some (FloatKind.f64.format.nearest _ _ _) = _
  congr 1
  rw [show 2 * ((4503599627370496 + f) * 4) + (0 != 0).toNat = (4503599627370496 + f) * 8 by simp; omega]
  rw [nearest_exact FloatKind.f64.format _ _ _ q (by rw [inf64']; omega) ?_]
  · rfl
  · rw [lp64, show q = (d - 1) * 4503599627370496 + f by omega, units_normal hf (by omega), show (8 : Nat) = 2 ^ 3 from rfl, Nat.mul_assoc, Nat.mul_assoc, ← Nat.pow_add, ← Nat.pow_add]
    exact congrArg (fun t => (4503599627370496 + f) * 2 ^ t) (by omega)

theorem halve {y : Nat} (h1 : 2 * 4503599627370496 ≤ y) (h2 : y < 2047 * 4503599627370496) : floatBits .quo .f64 y two64 = some (y - 4503599627370496) := halve_of two_read (by omega) h1 h2

/-- y * 2. -/
theorem double_of {y t q : Nat} (ht : FloatKind.f64.decode t = .number false 4503599627370496 (-51)) (hq : q = y + 4503599627370496) (h1 : 4503599627370496 ≤ y) (h2 : y + 4503599627370496 < 2047 * 4503599627370496) : floatBits .mul .f64 y t = some q := by
  obtain ⟨d, f, hy, hf⟩ : ∃ d f, y = d * 4503599627370496 + f ∧ f < 4503599627370496 := ⟨y / 4503599627370496, y % 4503599627370496, by omega, by omega⟩
  have hd : 1 ≤ d := by omega
  have hd2 : d ≤ 2045 := by omega
  show ((FloatKind.f64.decode y).product (FloatKind.f64.decode t)).map FloatKind.f64.format.write = _
  rw [read_normal hy hf (by omega) (by omega), ht]
  unfold Datum.product
  dsimp only
  show some (FloatKind.f64.format.nearest _ _ _) = _
  congr 1
  rw [nearest_exact FloatKind.f64.format _ _ _ q (by rw [inf64']; omega) ?_]
  · rfl
  · rw [lp64, show q = (d + 1) * 4503599627370496 + f by omega, units_normal hf (by omega)]
    conv => lhs; rw [Nat.mul_assoc, show (4503599627370496 : Nat) * 2 ^ (-1074 + ((d - 1 : Nat) : Int) + -51 - -1074).toNat = 2 ^ (52 + (-1074 + ((d - 1 : Nat) : Int) + -51 - -1074).toNat) from by rw [Nat.pow_add]]
    rw [Nat.mul_assoc, ← Nat.pow_add]
    exact congrArg (fun t => (4503599627370496 + f) * 2 ^ t) (by omega)

theorem double {y : Nat} (h1 : 4503599627370496 ≤ y) (h2 : y + 4503599627370496 < 2047 * 4503599627370496) : floatBits .mul .f64 y two64 = some (y + 4503599627370496) := double_of two_read rfl h1 h2

/-- Positive words stand to each other as their numbers do. -/
theorem order_pos {x y : Nat} (hx : x ≤ 2047 * 4503599627370496) (hy : y ≤ 2047 * 4503599627370496) : FloatKind.f64.format.order x y = some (if x < y then .lt else if x = y then .eq else .gt) := by
  have hsw : FloatKind.f64.format.signWeight = 9223372036854775808 := rfl
  have pos : ∀ q, q ≤ 2047 * 4503599627370496 → rg FloatKind.f64.format q = q ∧ Z FloatKind.f64.format q = units FloatKind.f64.format q := by
    intro q hq
    have h1 : sgn FloatKind.f64.format q = false := by
      unfold sgn
      rw [hsw, Nat.div_eq_of_lt (by omega)]; rfl
    have h2 : rg FloatKind.f64.format q = q := by unfold rg; rw [hsw]; exact Nat.mod_eq_of_lt (by omega)
    refine ⟨h2, ?_⟩
    unfold Z
    rw [h1, h2]; rfl
  obtain ⟨a1, a2⟩ := pos x hx
  obtain ⟨b1, b2⟩ := pos y hy
  rw [order_Z .f64 x y (by rw [a1, inf64']; exact hx) (by rw [b1, inf64']; exact hy), a2, b2]
  rcases Nat.lt_trichotomy x y with h | h | h
  · have := units_lt FloatKind.f64.format h
    rw [cmp_lt (by exact_mod_cast this), if_pos h]
  · subst h
    rw [cmp_eq rfl, if_neg (by omega), if_pos rfl]
  · have := units_lt FloatKind.f64.format h
    rw [cmp_gt (by exact_mod_cast this), if_neg (by omega), if_neg (by omega)]

theorem lt_pos {x y : Nat} (hx : x ≤ 2047 * 4503599627370496) (hy : y ≤ 2047 * 4503599627370496) : (FloatKind.f64.format.order x y == some .lt) = decide (x < y) := by
  rw [order_pos hx hy]
  by_cases h : x < y
  · rw [if_pos h, decide_eq_true h]; rfl
  · rw [if_neg h, decide_eq_false h]
    split <;> rfl
theorem ge_pos {x y : Nat} (hx : x ≤ 2047 * 4503599627370496) (hy : y ≤ 2047 * 4503599627370496) : (FloatKind.f64.format.order x y == some .gt || FloatKind.f64.format.order x y == some .eq) = decide (y ≤ x) := by
  rw [order_pos hx hy]
  by_cases h : x < y
  · rw [if_pos h, decide_eq_false (by omega)]; rfl
  · rw [if_neg h, decide_eq_true (by omega)]
    split <;> rfl

/-- The words of 0.75, 1.5. -/
def c075 : Nat := 4604930618986332160
def c15 : Nat := 4609434218613702656

def logE (y : Nat) : Int := ((y : Int) - 4604930618986332160) / 4503599627370496
def logZ (y : Nat) : Nat := ((y : Int) - logE y * 4503599627370496).toNat

theorem log_unique {y z : Nat} {e : Int} (h : (z : Int) = y - e * 4503599627370496) (h1 : 4604930618986332160 ≤ z) (h2 : z < 4609434218613702656) : e = logE y ∧ z = logZ y := by
  have he : e = logE y := by unfold logE; omega
  refine ⟨he, ?_⟩
  unfold logZ
  rw [← he]; omega

/-- The series: 1/1 + u (1/3 + u (1/5 + ..)), from 25 down; j rounds. -/
def logQ (u : Option Nat) : Nat → Option Nat
  | 0 => some 0
  | j + 1 => fop .add .f64 (fop .quo .f64 (some one64) (some (fl (25 - 2 * (j : Int))))) (fop .mul .f64 u (logQ u j))

def logS (z : Option Nat) : Option Nat := fop .quo .f64 (fop .sub .f64 z (some one64)) (fop .add .f64 z (some one64))
/-- 2 s q + e ln 2. -/
def logTail (s : Option Nat) (e : Int) : Option Nat :=
  fop .add .f64 (fop .mul .f64 (some two64) (fop .mul .f64 s (logQ (fop .mul .f64 s s) 13))) (fop .mul .f64 (some (fl e)) (some 4604418534313441775))
/-- The logarithm of a positive number with the word y. -/
def logV (y : Nat) : Option Nat := logTail (logS (some (logZ y))) (logE y)

theorem val_one64 : val .f64 4607182418800017408 = some one64 := by decide +kernel
theorem val_two64 : val .f64 4611686018427387904 = some two64 := by decide +kernel
theorem val_fl_small : ∀ n : Nat, n < 400 → val .f64 (fl ((n : Int) - 200)) = some (fl ((n : Int) - 200)) := by decide +kernel
theorem fl_dec : ∀ n : Nat, n < 200 → floatBits .sub .f64 (fl (-(n : Int))) 4607182418800017408 = some (fl (-(n : Int) - 1)) := by decide +kernel
theorem fl_inc : ∀ n : Nat, n < 200 → floatBits .add .f64 (fl (n : Int)) 4607182418800017408 = some (fl ((n : Int) + 1)) := by decide +kernel
theorem k_val : ∀ j : Nat, j < 14 → val .f64 (fl (25 - 2 * (j : Int))) = some (fl (25 - 2 * (j : Int))) := by decide +kernel
theorem k_ge : ∀ j : Nat, j < 13 → (FloatKind.f64.format.order (fl (25 - 2 * (j : Int))) 4607182418800017408 == some .gt || FloatKind.f64.format.order (fl (25 - 2 * (j : Int))) 4607182418800017408 == some .eq) = true := by decide +kernel
theorem k_end : (FloatKind.f64.format.order (fl (25 - 2 * ((13 : Nat) : Int))) 4607182418800017408 == some .gt || FloatKind.f64.format.order (fl (25 - 2 * ((13 : Nat) : Int))) 4607182418800017408 == some .eq) = false := by decide +kernel
theorem k_step : ∀ j : Nat, j < 13 → floatBits .sub .f64 (fl (25 - 2 * (j : Int))) 4611686018427387904 = some (fl (25 - 2 * ((j + 1 : Nat) : Int))) := by decide +kernel

theorem FIs.eq {k : FloatKind} {r c : Nat} (h : FIs k r (some c)) : r = c := (val_eq_some h.out).1.symm
end Go.Proofs.Ytecglaggmheokaa
