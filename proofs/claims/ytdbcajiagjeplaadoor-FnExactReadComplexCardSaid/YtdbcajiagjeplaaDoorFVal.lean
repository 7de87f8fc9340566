/- Words, their signs, rungs and exact values; widening is exact, narrowing leads back. -/
import Derived.Test.YtdbcajiagjeplaaDoorFNear
set_option linter.unusedVariables false
set_option linter.unusedSimpArgs false
namespace Go.Proofs.YtdbcajiagjeplaaDoor.near
open Ieee

def sgn (f : Format) (x : Nat) : Bool := x / f.signWeight % 2 == 1
def rg (f : Format) (x : Nat) : Nat := x % f.signWeight
/-- The exact value of a word that is no NaN, in units of the last place; an infinity counts as the number behind the greatest. -/
def Z (f : Format) (x : Nat) : Int := if sgn f x then -(units f (rg f x) : Int) else (units f (rg f x) : Int)

theorem inf_form (k : FloatKind) : ∃ n, k.format.infRung = (n + 1) * k.format.binade ∧ 1 ≤ n := by
  cases k
  · exact ⟨254, rfl, by decide⟩
  · exact ⟨2046, rfl, by decide⟩

theorem read_cases (k : FloatKind) (x : Nat) :
    (rg k.format x < k.format.infRung ∧ ∃ m e, k.decode x = .number (sgn k.format x) m e ∧ k.format.leastPlace ≤ e ∧ m * 2 ^ (e - k.format.leastPlace).toNat = units k.format (rg k.format x) ∧ m < 2 * k.format.binade)
    ∨ (rg k.format x = k.format.infRung ∧ k.decode x = .infinity (sgn k.format x))
    ∨ (k.format.infRung < rg k.format x ∧ (k.decode x).isNaN = true) := by
  have hB := binade_pos k.format
  obtain ⟨n, hn, hn1⟩ := inf_form k
  unfold FloatKind.decode Format.read rg sgn
  dsimp only
  generalize hq : x % k.format.signWeight = q
  generalize (x / k.format.signWeight % 2 == 1) = s
  by_cases h1 : q < k.format.binade
  · left
    rw [if_pos h1]
    refine ⟨?_, q, _, rfl, Int.le_refl _, ?_, by omega⟩
    · rw [hn]
      have : 1 * k.format.binade ≤ (n + 1) * k.format.binade := Nat.mul_le_mul_right _ (by omega)
      omega
    · rw [Int.sub_self, Int.toNat_zero, Nat.pow_zero, Nat.mul_one]; unfold units; rw [if_pos h1]
  · rw [if_neg h1]
    by_cases h2 : q < k.format.infRung
    · left
      rw [if_pos h2]
      refine ⟨h2, _, _, rfl, by omega, ?_, by have := Nat.mod_lt q hB; omega⟩
      unfold units
      rw [if_neg h1]
      congr 2
      have : 1 ≤ q / k.format.binade := (Nat.le_div_iff_mul_le hB).2 (by omega)
      omega
    · rw [if_neg h2]
      right
      by_cases h3 : q = k.format.infRung
      · left; rw [if_pos h3]; exact ⟨h3, rfl⟩
      · right; rw [if_neg h3]; exact ⟨by omega, rfl⟩

theorem sgn_word (k : FloatKind) (s : Bool) (q : Nat) (h : q < k.format.signWeight) : sgn k.format (k.format.word s q) = s := by
  have hw : 0 < k.format.signWeight := Nat.two_pow_pos _
  unfold sgn Format.word
  cases s
  · rw [if_neg (by decide), Nat.div_eq_of_lt h]; rfl
  · rw [if_pos rfl, Nat.add_div_left _ hw, Nat.div_eq_of_lt h]; rfl

theorem rg_word (k : FloatKind) (s : Bool) (q : Nat) (h : q < k.format.signWeight) : rg k.format (k.format.word s q) = q := word_mod k s q h

theorem word_of (k : FloatKind) (x : Nat) (hx : x < 2 ^ k.format.width) : k.format.word (sgn k.format x) (rg k.format x) = x := by
  have hw : 0 < k.format.signWeight := Nat.two_pow_pos _
  have h2 : 2 ^ k.format.width = 2 * k.format.signWeight := by cases k <;> rfl
  have h3 := Nat.div_add_mod x k.format.signWeight
  have h4 : x / k.format.signWeight < 2 := (Nat.div_lt_iff_lt_mul hw).2 (by omega)
  unfold Format.word sgn rg
  generalize x / k.format.signWeight = d at *
  have : d = 0 ∨ d = 1 := by omega
  rcases this with rfl | rfl
  · simp at h3 ⊢; omega
  · simp at h3 ⊢; omega

/-- A number with few digits, not below the last place, is some rung's. -/
theorem represents (f : Format) (m : Nat) (e : Int) (hm : m < 2 * f.binade) (_he : f.leastPlace ≤ e) : ∃ q, units f q = m * 2 ^ (e - f.leastPlace).toNat := by
  generalize (e - f.leastPlace).toNat = L
  clear _he
  have hB : f.binade = 2 ^ f.fractionBits := rfl
  by_cases h0 : m = 0
  · exact ⟨0, by subst h0; unfold units; rw [if_pos (binade_pos f)]; simp⟩
  induction L generalizing m with
  | zero => exact ⟨0 * f.binade + m, units_at f 0 m (by omega) (.inl rfl)⟩
  | succ L ih =>
    by_cases h1 : f.binade ≤ m
    · exact ⟨(L + 1) * f.binade + m, units_at f (L + 1) m (by omega) (.inr h1)⟩
    · obtain ⟨q, hq⟩ := ih (2 * m) (by omega) (by omega)
      exact ⟨q, by rw [hq, Nat.pow_succ, Nat.mul_comm 2 m, Nat.mul_assoc, Nat.mul_comm (2 ^ L)]⟩

theorem cmp_lt {a b : Int} (h : a < b) : compare a b = .lt := by simp only [compare, compareOfLessAndEq]; rw [if_pos h]
theorem cmp_gt {a b : Int} (h : b < a) : compare a b = .gt := by simp only [compare, compareOfLessAndEq]; rw [if_neg (by omega), if_neg (by omega)]
theorem cmp_eq {a b : Int} (h : a = b) : compare a b = .eq := by simp only [compare, compareOfLessAndEq]; rw [if_neg (by omega), if_pos h]

theorem order_Z (k : FloatKind) (x y : Nat) (hx : rg k.format x ≤ k.format.infRung) (hy : rg k.format y ≤ k.format.infRung) : k.format.order x y = some (compare (Z k.format x) (Z k.format y)) := by
  have key : ∀ (s t : Bool) (m n : Nat) (i j : Int) (a b : Nat), k.format.leastPlace ≤ i → k.format.leastPlace ≤ j → m * 2 ^ (i - k.format.leastPlace).toNat = a → n * 2 ^ (j - k.format.leastPlace).toNat = b →
      compare (signed s m (i - min i j).toNat) (signed t n (j - min i j).toNat) = compare (if s then -(a : Int) else a) (if t then -(b : Int) else b) := by
    intro s t m n i j a b hi hj ha hb
    -- both sides are one power of two apart
    obtain ⟨d, hd⟩ : ∃ d : Nat, min i j - k.format.leastPlace = d := ⟨(min i j - k.format.leastPlace).toNat, by omega⟩
    have ea : a = (m <<< (i - min i j).toNat) * 2 ^ d := by
      rw [← ha, Nat.shiftLeft_eq, Nat.mul_assoc, ← Nat.pow_add]; congr 2; omega
    have eb : b = (n <<< (j - min i j).toNat) * 2 ^ d := by
      rw [← hb, Nat.shiftLeft_eq, Nat.mul_assoc, ← Nat.pow_add]; congr 2; omega
    unfold signed
    rw [ea, eb]
    generalize m <<< (i - min i j).toNat = u
    generalize n <<< (j - min i j).toNat = v
    have hp : (0 : Int) < ((2 ^ d : Nat) : Int) := by exact_mod_cast Nat.two_pow_pos d
    generalize hP : ((2 ^ d : Nat) : Int) = P at hp
    have scale : ∀ p q : Int, compare p q = compare (p * P) (q * P) := by
      intro p q
      rcases Int.lt_trichotomy p q with h | h | h
      · have : p * P < q * P := Int.mul_lt_mul_of_pos_right h hp
        simp only [compare, compareOfLessAndEq]; rw [if_pos h, if_pos this]
      · subst h; simp [compare, compareOfLessAndEq]
      · have : q * P < p * P := Int.mul_lt_mul_of_pos_right h hp
        simp only [compare, compareOfLessAndEq]; rw [if_neg (by omega), if_neg (by omega), if_neg (by omega), if_neg (by omega)]
    rw [scale]
    congr 1
    · cases s <;> simp [← hP, Int.neg_mul]
    · cases t <;> simp [← hP, Int.neg_mul]
  have fin : ∀ z, rg k.format z < k.format.infRung → units k.format (rg k.format z) < units k.format k.format.infRung := fun z h => units_lt _ h
  unfold Format.order
  rcases read_cases k x with ⟨h1, m, i, e1, hi, hm, -⟩ | ⟨h1, e1⟩ | ⟨h1, _⟩
  · rcases read_cases k y with ⟨h2, n, j, e2, hj, hn, -⟩ | ⟨h2, e2⟩ | ⟨h2, _⟩
    · rw [show k.format.read x = k.decode x from rfl, show k.format.read y = k.decode y from rfl, e1, e2]
      unfold Datum.order
      dsimp only
      rw [key _ _ m n i j _ _ hi hj hm hn]; rfl
    · rw [show k.format.read x = k.decode x from rfl, show k.format.read y = k.decode y from rfl, e1, e2]
      unfold Datum.order Z
      dsimp only
      have hf := fin x h1
      rw [h2]
      generalize units k.format (rg k.format x) = a at *
      generalize units k.format k.format.infRung = b at *
      cases sgn k.format y <;> cases sgn k.format x <;> simp only [Bool.false_eq_true, if_false, if_true] <;> first | (rw [cmp_lt (by omega)] <;> rfl) | (rw [cmp_gt (by omega)] <;> rfl) | (rw [cmp_eq (by omega)] <;> rfl)
    · omega
  · rcases read_cases k y with ⟨h2, n, j, e2, hj, hn, -⟩ | ⟨h2, e2⟩ | ⟨h2, _⟩
    · rw [show k.format.read x = k.decode x from rfl, show k.format.read y = k.decode y from rfl, e1, e2]
      unfold Datum.order Z
      dsimp only
      have hf := fin y h2
      rw [h1]
      generalize units k.format (rg k.format y) = a at *
      generalize units k.format k.format.infRung = b at *
      cases sgn k.format y <;> cases sgn k.format x <;> simp only [Bool.false_eq_true, if_false, if_true] <;> first | (rw [cmp_lt (by omega)] <;> rfl) | (rw [cmp_gt (by omega)] <;> rfl) | (rw [cmp_eq (by omega)] <;> rfl)
    · rw [show k.format.read x = k.decode x from rfl, show k.format.read y = k.decode y from rfl, e1, e2]
      unfold Datum.order Z
      dsimp only
      rw [h1, h2]
      have hpos : 0 < units k.format k.format.infRung := by
        have h0 : units k.format 0 < units k.format k.format.infRung := units_lt _ (by cases k <;> decide)
        omega
      generalize units k.format k.format.infRung = b at *
      cases sgn k.format y <;> cases sgn k.format x <;> simp only [Bool.false_eq_true, if_false, if_true] <;> first | (rw [cmp_lt (by omega)] <;> rfl) | (rw [cmp_gt (by omega)] <;> rfl) | (rw [cmp_eq (by omega)] <;> rfl)
    · omega
  · omega

end Go.Proofs.YtdbcajiagjeplaaDoor.near
