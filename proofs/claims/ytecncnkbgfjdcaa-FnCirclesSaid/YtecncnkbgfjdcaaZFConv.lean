/- What the float operations of the model give, as functions of values in which all NaNs are one. -/
import Derived.Laws.FloatArith
set_option linter.unusedVariables false
set_option linter.unusedSimpArgs false
namespace Go.Proofs.Ytecncnkbgfjdcaa

/-- A word's value: none is 'a NaN'. -/
def val (k : FloatKind) (b : Nat) : Option Nat := if (k.decode b).isNaN then none else some b

/-- + - * / on values. -/
def fop (op : BinOp) (k : FloatKind) (a b : Option Nat) : Option Nat := a.bind fun x => b.bind fun y => floatBits op k x y

/-- How two values stand to each other. -/
def fcmp (k : FloatKind) (a b : Option Nat) : Option Ordering := a.bind fun x => b.bind fun y => k.format.order x y

/-- The float with the word r has the value v; the word fits its kind. -/
def FIs (k : FloatKind) (r : Nat) (v : Option Nat) : Prop := val k r = v ∧ r < 2 ^ k.format.width

theorem FIs.out {k : FloatKind} {r : Nat} {v : Option Nat} (h : FIs k r v) : val k r = v := h.1
theorem FIs.lt32 {r : Nat} {v : Option Nat} (h : FIs .f32 r v) : r < 4294967296 := h.2
theorem FIs.lt64 {r : Nat} {v : Option Nat} (h : FIs .f64 r v) : r < 18446744073709551616 := h.2
theorem FIs.mk {k : FloatKind} {r : Nat} {v : Option Nat} (h : val k r = v) (h2 : r < 2 ^ k.format.width) : FIs k r v := ⟨h, h2⟩

theorem binade_le_inf (k : FloatKind) : k.format.binade ≤ k.format.infRung := by cases k <;> decide

theorem read_isNaN (k : FloatKind) (w : Nat) : (k.format.read w).isNaN = decide (k.format.infRung < w % k.format.signWeight) := by
  have hb := binade_le_inf k
  unfold Ieee.Format.read
  dsimp only
  split
  · rename_i h; simp only [Ieee.Datum.isNaN]; symm; rw [decide_eq_false_iff_not]; omega
  · split
    · rename_i h; simp only [Ieee.Datum.isNaN]; symm; rw [decide_eq_false_iff_not]; omega
    · split
      · rename_i h; simp only [Ieee.Datum.isNaN]; symm; rw [decide_eq_false_iff_not]; omega
      · simp only [Ieee.Datum.isNaN]; symm; rw [decide_eq_true_eq]; omega

theorem decode_isNaN (k : FloatKind) (w : Nat) : (k.decode w).isNaN = decide (k.format.infRung < w % k.format.signWeight) := read_isNaN k w

theorem word_mod (k : FloatKind) (s : Bool) (r : Nat) (h : r < k.format.signWeight) : k.format.word s r % k.format.signWeight = r := by
  unfold Ieee.Format.word
  split
  · rw [Nat.add_mod_left]; exact Nat.mod_eq_of_lt h
  · exact Nat.mod_eq_of_lt h

theorem nearest_word (k : FloatKind) (s : Bool) (m : Nat) (e : Int) : ∃ r, r ≤ k.format.infRung ∧ k.format.nearest s m e = k.format.word s r := by
  unfold Ieee.Format.nearest
  dsimp only
  split
  · exact ⟨0, Nat.zero_le _, rfl⟩
  · exact ⟨_, Nat.min_le_right _ _, rfl⟩

theorem not_nan_word (k : FloatKind) (s : Bool) (r : Nat) (h : r ≤ k.format.infRung) : (k.decode (k.format.word s r)).isNaN = false := by
  rw [decode_isNaN, word_mod k s r (Nat.lt_of_le_of_lt h k.format.infRung_lt), decide_eq_false_iff_not]
  omega

theorem write_not_nan (k : FloatKind) (d : Ieee.Datum) (h : d.isNaN = false) : (k.decode (k.format.write d)).isNaN = false := by
  cases d with
  | number s m e =>
    obtain ⟨r, hr, he⟩ := nearest_word k s m e
    show (k.decode (k.format.nearest s m e)).isNaN = false
    rw [he]; exact not_nan_word k s r hr
  | infinity s => exact not_nan_word k s _ (Nat.le_refl _)
  | nan s t => cases h

theorem val_some {k : FloatKind} {b : Nat} (h : (k.decode b).isNaN = false) : val k b = some b := by simp [val, h]
theorem val_none {k : FloatKind} {b : Nat} (h : (k.decode b).isNaN = true) : val k b = none := by simp [val, h]
theorem val_eq_some {k : FloatKind} {b x : Nat} (h : val k b = some x) : x = b ∧ (k.decode b).isNaN = false := by
  unfold val at h
  split at h
  · cases h
  · rename_i hn; cases h; exact ⟨rfl, by simpa using hn⟩
theorem val_eq_none {k : FloatKind} {b : Nat} (h : val k b = none) : (k.decode b).isNaN = true := by
  unfold val at h
  split at h
  · assumption
  · cases h
theorem val_val {k : FloatKind} {b x : Nat} (h : val k b = some x) : val k x = some x := by
  obtain ⟨rfl, h2⟩ := val_eq_some h; exact h

section
variable {f : Ieee.Format}
theorem sum_nan_l {a b : Ieee.Datum} (h : a.isNaN = true) : a.sum b = none := by cases a <;> simp_all [Ieee.Datum.isNaN, Ieee.Datum.sum]
theorem sum_nan_r {a b : Ieee.Datum} (h : b.isNaN = true) : a.sum b = none := by cases b <;> cases a <;> simp_all [Ieee.Datum.isNaN, Ieee.Datum.sum]
theorem product_nan_l {a b : Ieee.Datum} (h : a.isNaN = true) : a.product b = none := by cases a <;> simp_all [Ieee.Datum.isNaN, Ieee.Datum.product]
theorem product_nan_r {a b : Ieee.Datum} (h : b.isNaN = true) : a.product b = none := by cases b <;> cases a <;> simp_all [Ieee.Datum.isNaN, Ieee.Datum.product]
theorem quotient_nan_l {n : Nat} {a b : Ieee.Datum} (h : a.isNaN = true) : a.quotient n b = none := by cases a <;> simp_all [Ieee.Datum.isNaN, Ieee.Datum.quotient]
theorem quotient_nan_r {n : Nat} {a b : Ieee.Datum} (h : b.isNaN = true) : a.quotient n b = none := by cases b <;> cases a <;> simp_all [Ieee.Datum.isNaN, Ieee.Datum.quotient]
theorem order_nan_l {a b : Ieee.Datum} (h : a.isNaN = true) : a.order b = none := by cases a <;> simp_all [Ieee.Datum.isNaN, Ieee.Datum.order]
theorem order_nan_r {a b : Ieee.Datum} (h : b.isNaN = true) : a.order b = none := by cases b <;> cases a <;> simp_all [Ieee.Datum.isNaN, Ieee.Datum.order]
theorem opposite_nan {a : Ieee.Datum} : a.opposite.isNaN = a.isNaN := by cases a <;> rfl

theorem sum_not_nan {a b d : Ieee.Datum} (h : a.sum b = some d) : d.isNaN = false := by
  cases a <;> cases b <;> simp [Ieee.Datum.sum] at h <;> first | (subst h; rfl) | (obtain ⟨_, rfl⟩ := h; rfl) | skip
theorem product_not_nan {a b d : Ieee.Datum} (h : a.product b = some d) : d.isNaN = false := by
  cases a <;> cases b <;> simp [Ieee.Datum.product] at h <;> first | (subst h; rfl) | (obtain ⟨_, rfl⟩ := h; rfl) | skip
theorem quotient_not_nan {n : Nat} {a b d : Ieee.Datum} (h : a.quotient n b = some d) : d.isNaN = false := by
  cases a <;> cases b <;> simp only [Ieee.Datum.quotient] at h <;> (repeat' split at h) <;> first | (cases h; done) | (cases h; rfl)
end

theorem floatBits_nan_l {op : BinOp} {k : FloatKind} {x y : Nat} (h : (k.decode x).isNaN = true) : floatBits op k x y = none := by
  unfold floatBits
  have h' : (k.format.read x).isNaN = true := h
  split <;> first | rfl | skip
  · simp [Ieee.Format.add, sum_nan_l h']
  · simp [Ieee.Format.sub, sum_nan_l h']
  · simp [Ieee.Format.mul, product_nan_l h']
  · simp [Ieee.Format.div, quotient_nan_l h']

theorem floatBits_nan_r {op : BinOp} {k : FloatKind} {x y : Nat} (h : (k.decode y).isNaN = true) : floatBits op k x y = none := by
  unfold floatBits
  have h' : (k.format.read y).isNaN = true := h
  split <;> first | rfl | skip
  · simp [Ieee.Format.add, sum_nan_r h']
  · simp [Ieee.Format.sub, sum_nan_r (opposite_nan.trans h')]
  · simp [Ieee.Format.mul, product_nan_r h']
  · simp [Ieee.Format.div, quotient_nan_r h']

theorem floatBits_not_nan {op : BinOp} {k : FloatKind} {x y r : Nat} (h : floatBits op k x y = some r) : (k.decode r).isNaN = false := by
  unfold floatBits at h
  split at h <;> first | (cases h; done) | skip
  all_goals
    simp only [Ieee.Format.add, Ieee.Format.sub, Ieee.Format.mul, Ieee.Format.div, Option.map_eq_some_iff] at h
    obtain ⟨d, hd, rfl⟩ := h
  · exact write_not_nan k d (sum_not_nan hd)
  · exact write_not_nan k d (sum_not_nan hd)
  · exact write_not_nan k d (product_not_nan hd)
  · exact write_not_nan k d (quotient_not_nan hd)

/-- An operation looks at its operands' values alone. -/
theorem floatBits_val (op : BinOp) (k : FloatKind) (x y : Nat) : floatBits op k x y = fop op k (val k x) (val k y) := by
  unfold fop
  cases hx : (k.decode x).isNaN
  · cases hy : (k.decode y).isNaN
    · rw [val_some hx, val_some hy]; rfl
    · rw [val_none hy, floatBits_nan_r hy]; cases val k x <;> rfl
  · rw [val_none hx, floatBits_nan_l hx]; rfl

theorem order_val (k : FloatKind) (x y : Nat) : k.format.order x y = fcmp k (val k x) (val k y) := by
  unfold fcmp
  cases hx : (k.decode x).isNaN
  · cases hy : (k.decode y).isNaN
    · rw [val_some hx, val_some hy]; rfl
    · rw [val_none hy]; have : k.format.order x y = none := order_nan_r (a := k.format.read x) (b := k.format.read y) hy
      rw [this]; cases val k x <;> rfl
  · rw [val_none hx]; exact order_nan_l (a := k.format.read x) (b := k.format.read y) hx

/-- Where the language leaves a NaN's bits open, a NaN it is. -/
theorem val_nanCut (k : FloatKind) (x y t : Nat) : val k ((Question.nanBits k x y).cut t) = none := by
  refine val_none ?_
  rw [decode_isNaN, decide_eq_true_eq]
  cases k
  · show 2139095040 < ((t % 2) * 2 ^ 31 + 0x7f800000 + 1 + (t / 2) % (2 ^ 23 - 1)) % 2147483648
    rcases Nat.mod_two_eq_zero_or_one t with h | h <;> rw [h] <;> omega
  · show 9218868437227405312 < ((t % 2) * 2 ^ 63 + 0x7ff0000000000000 + 1 + (t / 2) % (2 ^ 52 - 1)) % 9223372036854775808
    rcases Nat.mod_two_eq_zero_or_one t with h | h <;> rw [h] <;> omega
theorem val_nanConvCut (k : FloatKind) (x t : Nat) : val k ((Question.nanConv k x).cut t) = none := by
  refine val_none ?_
  rw [decode_isNaN, decide_eq_true_eq]
  cases k
  · show 2139095040 < ((t % 2) * 2 ^ 31 + 0x7f800000 + 1 + (t / 2) % (2 ^ 23 - 1)) % 2147483648
    rcases Nat.mod_two_eq_zero_or_one t with h | h <;> rw [h] <;> omega
  · show 9218868437227405312 < ((t % 2) * 2 ^ 63 + 0x7ff0000000000000 + 1 + (t / 2) % (2 ^ 52 - 1)) % 9223372036854775808
    rcases Nat.mod_two_eq_zero_or_one t with h | h <;> rw [h] <;> omega

theorem nanCut_lt (k : FloatKind) (x y t : Nat) : (Question.nanBits k x y).cut t < 2 ^ k.format.width := by
  cases k
  · show ((t % 2) * 2 ^ 31 + 0x7f800000 + 1 + (t / 2) % (2 ^ 23 - 1)) < 4294967296
    rcases Nat.mod_two_eq_zero_or_one t with h | h <;> rw [h] <;> omega
  · show ((t % 2) * 2 ^ 63 + 0x7ff0000000000000 + 1 + (t / 2) % (2 ^ 52 - 1)) < 18446744073709551616
    rcases Nat.mod_two_eq_zero_or_one t with h | h <;> rw [h] <;> omega
theorem nanConvCut_lt (k : FloatKind) (x t : Nat) : (Question.nanConv k x).cut t < 2 ^ k.format.width := by
  cases k
  · exact nanCut_lt .f32 x x t
  · exact nanCut_lt .f64 x x t

theorem floatBits_lt {op : BinOp} {k : FloatKind} {x y r : Nat} (h : floatBits op k x y = some r) : r < 2 ^ k.format.width := by
  unfold floatBits at h
  split at h
  · exact k.format.add_lt h
  · exact k.format.sub_lt h
  · exact k.format.mul_lt h
  · exact k.format.div_lt h
  · cases h

/-- float64(x) on float32 values, float32(x) on float64 values that fit. -/
def fwide (a : Option Nat) : Option Nat := a.map fun b => FloatKind.f64.encode (FloatKind.f32.decode b)
def fnarrow (a : Option Nat) : Option Nat := a.map fun b => FloatKind.f32.encode (FloatKind.f64.decode b)
/-- Narrowed, the number stays finite (or it was none: an infinity, a NaN). -/
def fitsNarrow (a : Option Nat) : Prop := ∀ b, a = some b → (FloatKind.f64.decode b).isNaN = false → (FloatKind.f64.decode b).isInfinity = false → (FloatKind.f32.decode (FloatKind.f32.encode (FloatKind.f64.decode b))).isInfinity = false

theorem read_isInf (k : FloatKind) (w : Nat) : (k.format.read w).isInfinity = decide (w % k.format.signWeight = k.format.infRung) := by
  have hb := binade_le_inf k
  unfold Ieee.Format.read
  dsimp only
  split
  · rename_i h
    have : k.format.binade < k.format.infRung ∨ k.format.binade = k.format.infRung := by omega
    simp only [Ieee.Datum.isInfinity]; symm; rw [decide_eq_false_iff_not]; omega
  · split
    · rename_i h; simp only [Ieee.Datum.isInfinity]; symm; rw [decide_eq_false_iff_not]; omega
    · split
      · rename_i h; simp only [Ieee.Datum.isInfinity]; symm; rw [decide_eq_true_eq]; omega
      · rename_i h; simp only [Ieee.Datum.isInfinity]; symm; rw [decide_eq_false_iff_not]; omega

/-- The numbers that float32 holds, read as (sign, magnitude, place): the magnitude has at most 24 digits, the place lies from -149 to 104. -/
theorem read32_number {b : Nat} {s : Bool} {m : Nat} {e : Int} (h : FloatKind.f32.decode b = .number s m e) : m < 16777216 ∧ -149 ≤ e ∧ e ≤ 104 := by
  have hb : FloatKind.f32.format.binade = 8388608 := rfl
  have hi : FloatKind.f32.format.infRung = 2139095040 := rfl
  have hp : FloatKind.f32.format.leastPlace = -149 := rfl
  unfold FloatKind.decode Ieee.Format.read at h
  dsimp only at h
  rw [hb, hi, hp] at h
  generalize b % FloatKind.f32.format.signWeight = q at h
  split at h
  · injection h with h1 h2 h3; omega
  · split at h
    · rename_i h4 h5
      injection h with h1 h2 h3
      have h6 : q / 8388608 ≤ 254 := by omega
      have h7 : q % 8388608 < 8388608 := Nat.mod_lt _ (by omega)
      omega
    · split at h <;> cases h

end Go.Proofs.Ytecncnkbgfjdcaa
set_option linter.unusedVariables false
set_option linter.unusedSimpArgs false
namespace Go.Proofs.Ytecncnkbgfjdcaa.near
open Ieee

/-- The cut of n / 2^drop to a whole number lies on the same side of every whole number as the quotient. -/
theorem cut_le (neg : Bool) (n drop j : Nat) (h : n ≤ j * 2 ^ drop) : Toward.even.cut neg n drop ≤ j := by
  unfold Toward.cut
  dsimp only
  rw [Nat.one_shiftLeft]
  by_cases hd : drop ≤ n.log2 + 2
  · rw [Nat.min_eq_left hd]
    have hg : 0 < 2 ^ drop := Nat.two_pow_pos _
    generalize 2 ^ drop = g at *
    have h1 := Nat.div_add_mod n g
    have h2 := Nat.mod_lt n hg
    generalize hq : n / g = q at *
    generalize hr : n % g = r at *
    by_cases hqj : q < j
    · have : ∀ b : Bool, b.toNat ≤ 1 := fun b => by cases b <;> decide
      have := this (decide (g < 2 * r) || (g == 2 * r) && (q % 2 == 1))
      omega
    · have hqj2 : q ≤ j := by
        by_cases hc : q ≤ j
        · exact hc
        · exfalso
          have : (j + 1) * g ≤ q * g := Nat.mul_le_mul_right g (by omega)
          rw [Nat.add_mul, Nat.one_mul] at this
          rw [Nat.mul_comm g q] at h1
          omega
      have hq2 : q = j := by omega
      subst hq2
      have hr0 : r = 0 := by rw [Nat.mul_comm g q] at h1; omega
      subst hr0
      have e1 : decide (g < 2 * 0) = false := by simp
      have e2 : (g == 2 * 0) = false := by simp; omega
      rw [e1, e2]; simp
  · rw [Nat.min_eq_right (by omega)]
    by_cases hn : n = 0
    · subst hn
      simp
    · have h1 : n < 2 ^ (n.log2 + 1) := Nat.lt_log2_self
      have h2 : 2 ^ (n.log2 + 2) = 2 * 2 ^ (n.log2 + 1) := by rw [Nat.pow_succ 2 (n.log2 + 1), Nat.mul_comm]
      generalize 2 ^ (n.log2 + 2) = g at *
      have e0 : n / g = 0 := Nat.div_eq_of_lt (by omega)
      have e3 : n % g = n := Nat.mod_eq_of_lt (by omega)
      rw [e0, e3]
      have e1 : decide (g < 2 * n) = false := by simp; omega
      have e2 : (g == 2 * n) = false := by simp; omega
      rw [e1, e2]; simp

theorem le_cut (neg : Bool) (n drop j : Nat) (h : j * 2 ^ drop ≤ n) : j ≤ Toward.even.cut neg n drop := by
  unfold Toward.cut
  dsimp only
  rw [Nat.one_shiftLeft]
  by_cases hd : drop ≤ n.log2 + 2
  · rw [Nat.min_eq_left hd]
    have : j ≤ n / 2 ^ drop := (Nat.le_div_iff_mul_le (Nat.two_pow_pos _)).2 h
    omega
  · have h1 : n < 2 ^ (n.log2 + 1) := Nat.lt_log2_self
    have h2 : 2 ^ (n.log2 + 1) ≤ 2 ^ drop := Nat.pow_le_pow_right (by omega) (by omega)
    have : j = 0 := by
      by_cases hj : j = 0
      · exact hj
      · exfalso
        have : 1 * 2 ^ drop ≤ j * 2 ^ drop := Nat.mul_le_mul_right _ (by omega)
        omega
    rw [this]
    exact Nat.zero_le _

/-- The magnitude of a rung, in units of the format's last place. -/
def units (f : Format) (q : Nat) : Nat := if q < f.binade then q else (f.binade + q % f.binade) * 2 ^ (q / f.binade - 1)

theorem binade_pos (f : Format) : 0 < f.binade := Nat.two_pow_pos _

/-- Units of the rung 'a whole binades and m more', m within the two binades above. -/
theorem units_at (f : Format) (L m : Nat) (hm : m ≤ 2 * f.binade) (hL : L = 0 ∨ f.binade ≤ m) : units f (L * f.binade + m) = m * 2 ^ L := by
  have hB := binade_pos f
  unfold units
  generalize hBB : f.binade = B at *
  by_cases h1 : m < B
  · have hL0 : L = 0 := by omega
    subst hL0
    simp [h1]
  · rw [if_neg (by have := Nat.le_mul_of_pos_right L hB; have : 0 ≤ L * B := Nat.zero_le _; omega)]
    by_cases h2 : m < 2 * B
    · have e1 : (L * B + m) % B = m - B := by
        rw [show L * B + m = (m - B) + (L + 1) * B from by rw [Nat.add_mul]; omega, Nat.add_mul_mod_self_right]
        exact Nat.mod_eq_of_lt (by omega)
      have e2 : (L * B + m) / B = L + 1 := by
        rw [show L * B + m = (m - B) + (L + 1) * B from by rw [Nat.add_mul]; omega, Nat.add_mul_div_right _ _ hB, Nat.div_eq_of_lt (by omega), Nat.zero_add]
      rw [e1, e2, show B + (m - B) = m from by omega, Nat.add_sub_cancel]
    · have h3 : m = 2 * B := by omega
      subst h3
      have e1 : (L * B + 2 * B) % B = 0 := by rw [← Nat.add_mul]; exact Nat.mul_mod_left _ _
      have e2 : (L * B + 2 * B) / B = L + 2 := by rw [← Nat.add_mul]; exact Nat.mul_div_cancel _ hB
      rw [e1, e2, Nat.add_zero, show L + 2 - 1 = L + 1 from rfl, Nat.pow_succ, Nat.mul_comm (2 ^ L) 2, ← Nat.mul_assoc, Nat.mul_comm B 2]

/-- Every rung is of that form. -/
theorem rung_form (f : Format) (q : Nat) : ∃ L m, q = L * f.binade + m ∧ m < 2 * f.binade ∧ (L = 0 ∨ f.binade ≤ m) := by
  have hB := binade_pos f
  have h1 := Nat.div_add_mod q f.binade
  have h2 := Nat.mod_lt q hB
  generalize f.binade = B at *
  generalize hq : q / B = L at *
  generalize hr : q % B = r at *
  rcases L with _ | L
  · exact ⟨0, q, by omega, by omega, .inl rfl⟩
  · refine ⟨L, r + B, ?_, by omega, .inr (by omega)⟩
    rw [← h1, Nat.mul_comm B (L + 1), Nat.add_mul]
    omega

theorem units_lt (f : Format) {p q : Nat} (h : p < q) : units f p < units f q := by
  have hB := binade_pos f
  obtain ⟨L, m, rfl, hm, hL⟩ := rung_form f p
  obtain ⟨K, n, rfl, hn, hK⟩ := rung_form f q
  rw [units_at f L m (by omega) hL, units_at f K n (by omega) hK]
  generalize f.binade = B at *
  by_cases hLK : L = K
  · subst hLK
    exact Nat.mul_lt_mul_of_pos_right (by omega) (Nat.two_pow_pos _)
  · by_cases hlt : L < K
    · have hnB : B ≤ n := by omega
      have h1 : m * 2 ^ L < 2 * B * 2 ^ L := Nat.mul_lt_mul_of_pos_right hm (Nat.two_pow_pos _)
      have h2 : 2 * B * 2 ^ L = B * 2 ^ (L + 1) := by rw [Nat.pow_succ, Nat.mul_comm 2 B, Nat.mul_assoc, Nat.mul_comm 2]
      have h3 : B * 2 ^ (L + 1) ≤ n * 2 ^ K := Nat.mul_le_mul hnB (Nat.pow_le_pow_right (by omega) (by omega))
      omega
    · exfalso
      have hKL : K + 1 ≤ L := by omega
      have hmB : B ≤ m := by omega
      have : (K + 1) * B ≤ L * B := Nat.mul_le_mul_right _ hKL
      rw [Nat.add_mul] at this
      omega

theorem units_le (f : Format) {p q : Nat} (h : p ≤ q) : units f p ≤ units f q := by
  rcases Nat.lt_or_eq_of_le h with h | h
  · exact Nat.le_of_lt (units_lt f h)
  · rw [h]; exact Nat.le_refl _

theorem le_of_units (f : Format) {p q : Nat} (h : units f p ≤ units f q) : p ≤ q := by
  by_cases hc : p ≤ q
  · exact hc
  · have := units_lt f (p := q) (q := p) (by omega); omega

theorem units_inj (f : Format) {p q : Nat} (h : units f p = units f q) : p = q :=
  Nat.le_antisymm (le_of_units f (Nat.le_of_eq h)) (le_of_units f (Nat.le_of_eq h.symm))

/-- The rung to which a magnitude is rounded, infinity's bound apart. -/
def rawRung (f : Format) (mag : Nat) (place : Int) : Nat :=
  if mag = 0 then 0 else
  let last := max (place + mag.log2 - f.fractionBits) f.leastPlace
  (last - f.leastPlace).toNat * f.binade + Toward.even.cut false (mag <<< (place - last).toNat) (last - place).toNat

theorem cut_neg (s t : Bool) (n d : Nat) : Toward.even.cut s n d = Toward.even.cut t n d := rfl

theorem nearest_eq (f : Format) (s : Bool) (mag : Nat) (place : Int) : f.nearest s mag place = f.word s (min (rawRung f mag place) f.infRung) := by
  unfold Format.nearest rawRung
  dsimp only
  split
  · simp
  · rfl

theorem pow_split (a b : Nat) : 2 ^ (a + b) = 2 ^ a * 2 ^ b := Nat.pow_add 2 a b

/-- The units of the rung to which it is rounded lie on the same side of every rung's units as the magnitude. -/
theorem raw_le (f : Format) (mag : Nat) (place : Int) (q : Nat) (h : mag * 2 ^ (place - f.leastPlace).toNat ≤ units f q * 2 ^ (f.leastPlace - place).toNat) : rawRung f mag place ≤ q := by
  have hB := binade_pos f
  unfold rawRung
  split
  · exact Nat.zero_le _
  · rename_i hm0
    dsimp only
    have hlo : 2 ^ mag.log2 ≤ mag := Nat.log2_self_le hm0
    have hhi : mag < 2 ^ (mag.log2 + 1) := Nat.lt_log2_self
    generalize mag.log2 = lg at *
    have hbin : f.binade = 2 ^ f.fractionBits := rfl
    generalize hfb : f.fractionBits = fb at *
    generalize hlp : f.leastPlace = lp at *
    obtain ⟨K, n, rfl, hn, hK⟩ := rung_form f q
    rw [units_at f K n (by omega) hK] at h
    generalize f.binade = B at *
    -- the last place
    by_cases hc : place + lg - fb ≤ lp
    · rw [Int.max_eq_right hc, Int.sub_self, Int.toNat_zero, Nat.zero_mul, Nat.zero_add]
      have h1 : Toward.even.cut false (mag <<< (place - lp).toNat) (lp - place).toNat ≤ n * 2 ^ K := cut_le _ _ _ _ (by rw [Nat.shiftLeft_eq]; exact h)
      -- what is kept stays below the second binade
      have h2 : Toward.even.cut false (mag <<< (place - lp).toNat) (lp - place).toNat ≤ 2 * B := by
        refine cut_le _ _ _ _ ?_
        rw [Nat.shiftLeft_eq, hbin]
        by_cases hp : lp ≤ place
        · rw [show (lp - place).toNat = 0 from by omega, Nat.pow_zero, Nat.mul_one]
          have : mag * 2 ^ (place - lp).toNat ≤ 2 ^ (lg + 1) * 2 ^ (place - lp).toNat := Nat.mul_le_mul_right _ (Nat.le_of_lt hhi)
          rw [← pow_split] at this
          have h3 : 2 ^ (lg + 1 + (place - lp).toNat) ≤ 2 ^ (fb + 1) := Nat.pow_le_pow_right (by omega) (by omega)
          rw [Nat.pow_succ 2 fb] at h3
          omega
        · rw [show (place - lp).toNat = 0 from by omega, Nat.pow_zero, Nat.mul_one]
          have h3 : 2 ^ (lg + 1) ≤ 2 ^ (fb + 1) * 2 ^ (lp - place).toNat := by rw [← pow_split]; exact Nat.pow_le_pow_right (by omega) (by omega)
          rw [Nat.pow_succ 2 fb, Nat.mul_comm (2 ^ fb) 2] at h3
          omega
      generalize Toward.even.cut false (mag <<< (place - lp).toNat) (lp - place).toNat = c at *
      rcases K with _ | K
      · simp at h1 ⊢; omega
      · have : B ≤ n := by omega
        rw [Nat.add_mul, Nat.one_mul]
        have : 0 ≤ K * B := Nat.zero_le _
        omega
    · -- a normal number
      have hc' : lp ≤ place + lg - fb := by omega
      rw [Int.max_eq_left hc']
      obtain ⟨L, hL⟩ : ∃ L : Nat, place + lg - fb - lp = L := ⟨(place + lg - fb - lp).toNat, by omega⟩
      rw [hL, Int.toNat_natCast]
      have hcut : ∀ j, mag * 2 ^ (place - lp).toNat ≤ j * 2 ^ L * 2 ^ (lp - place).toNat → Toward.even.cut false (mag <<< (place - (place + lg - fb)).toNat) (place + lg - fb - place).toNat ≤ j := by
        intro j hj
        refine cut_le _ _ _ _ ?_
        rw [Nat.shiftLeft_eq]
        by_cases hp : lp ≤ place
        · rw [show (lp - place).toNat = 0 from by omega, Nat.pow_zero, Nat.mul_one] at hj
          by_cases hfl : fb ≤ lg
          · rw [show (place - (place + lg - fb)).toNat = 0 from by omega, Nat.pow_zero, Nat.mul_one]
            have e : L = (place + lg - fb - place).toNat + (place - lp).toNat := by omega
            rw [e, pow_split, ← Nat.mul_assoc] at hj
            exact Nat.le_of_mul_le_mul_right hj (Nat.two_pow_pos _)
          · rw [show (place + lg - fb - place).toNat = 0 from by omega, Nat.pow_zero, Nat.mul_one]
            have e : (place - lp).toNat = (place - (place + lg - fb)).toNat + L := by omega
            rw [e, pow_split, ← Nat.mul_assoc] at hj
            exact Nat.le_of_mul_le_mul_right hj (Nat.two_pow_pos _)
        · rw [show (place - lp).toNat = 0 from by omega, Nat.pow_zero, Nat.mul_one] at hj
          rw [show (place - (place + lg - fb)).toNat = 0 from by omega, Nat.pow_zero, Nat.mul_one]
          have e : (place + lg - fb - place).toNat = L + (lp - place).toNat := by omega
          rw [e, pow_split, ← Nat.mul_assoc]; exact hj
      -- the magnitude is at least 2^fb units of this place
      have hlow : B * 2 ^ L * 2 ^ (lp - place).toNat ≤ mag * 2 ^ (place - lp).toNat := by
        rw [hbin, ← pow_split, ← pow_split]
        have : 2 ^ (fb + L + (lp - place).toNat) = 2 ^ lg * 2 ^ (place - lp).toNat := by rw [← pow_split]; congr 1; omega
        rw [this]
        exact Nat.mul_le_mul_right _ hlo
      have htop : mag * 2 ^ (place - lp).toNat ≤ 2 * B * 2 ^ L * 2 ^ (lp - place).toNat := by
        rw [hbin, show 2 * 2 ^ fb = 2 ^ (fb + 1) from by rw [Nat.pow_succ, Nat.mul_comm], ← pow_split, ← pow_split]
        have : 2 ^ (fb + 1 + L + (lp - place).toNat) = 2 ^ (lg + 1) * 2 ^ (place - lp).toNat := by rw [← pow_split]; congr 1; omega
        rw [this]
        exact Nat.mul_le_mul_right _ (Nat.le_of_lt hhi)
      have h2B := hcut (2 * B) htop
      by_cases hLK : L ≤ K
      · obtain ⟨d, rfl⟩ : ∃ d, K = L + d := ⟨K - L, by omega⟩
        have hj := hcut (n * 2 ^ d) (by rw [Nat.mul_assoc n, ← pow_split, Nat.add_comm d L]; exact h)
        generalize Toward.even.cut false (mag <<< (place - (place + lg - fb)).toNat) (place + lg - fb - place).toNat = c at *
        rcases d with _ | d
        · simp at hj ⊢; omega
        · have : B ≤ n := by omega
          have e : (L + (d + 1)) * B = L * B + d * B + B := by rw [Nat.add_mul, Nat.add_mul]; omega
          rw [e]
          have : 0 ≤ d * B := Nat.zero_le _
          omega
      · exfalso
        -- q lies in a lower binade
        have h3 : n * 2 ^ K * 2 ^ (lp - place).toNat < B * 2 ^ L * 2 ^ (lp - place).toNat := by
          refine Nat.mul_lt_mul_of_pos_right ?_ (Nat.two_pow_pos _)
          have e1 : n * 2 ^ K < 2 * B * 2 ^ K := Nat.mul_lt_mul_of_pos_right hn (Nat.two_pow_pos _)
          have e2 : 2 * B * 2 ^ K = B * 2 ^ (K + 1) := by rw [Nat.pow_succ, Nat.mul_comm 2 B, Nat.mul_assoc, Nat.mul_comm 2]
          have e3 : B * 2 ^ (K + 1) ≤ B * 2 ^ L := Nat.mul_le_mul_left _ (Nat.pow_le_pow_right (by omega) (by omega))
          omega
        omega

theorem le_raw (f : Format) (mag : Nat) (place : Int) (q : Nat) (h : units f q * 2 ^ (f.leastPlace - place).toNat ≤ mag * 2 ^ (place - f.leastPlace).toNat) : q ≤ rawRung f mag place := by
  have hB := binade_pos f
  by_cases hm0 : mag = 0
  · subst hm0
    rw [Nat.zero_mul] at h
    have h0 : units f q = 0 := by
      rcases Nat.eq_zero_or_pos (units f q) with h1 | h1
      · exact h1
      · have := Nat.mul_pos h1 (Nat.two_pow_pos (f.leastPlace - place).toNat); omega
    have h00 : units f 0 = 0 := by unfold units; rw [if_pos hB]
    rw [units_inj f (h0.trans h00.symm)]; exact Nat.zero_le _
  · unfold rawRung
    rw [if_neg hm0]
    dsimp only
    have hlo : 2 ^ mag.log2 ≤ mag := Nat.log2_self_le hm0
    have hhi : mag < 2 ^ (mag.log2 + 1) := Nat.lt_log2_self
    generalize mag.log2 = lg at *
    have hbin : f.binade = 2 ^ f.fractionBits := rfl
    generalize hfb : f.fractionBits = fb at *
    generalize hlp : f.leastPlace = lp at *
    obtain ⟨K, n, rfl, hn, hK⟩ := rung_form f q
    rw [units_at f K n (by omega) hK] at h
    generalize f.binade = B at *
    by_cases hc : place + lg - fb ≤ lp
    · rw [Int.max_eq_right hc, Int.sub_self, Int.toNat_zero, Nat.zero_mul, Nat.zero_add]
      have h1 : n * 2 ^ K ≤ Toward.even.cut false (mag <<< (place - lp).toNat) (lp - place).toNat := le_cut _ _ _ _ (by rw [Nat.shiftLeft_eq]; exact h)
      refine Nat.le_trans ?_ h1
      rcases K with _ | K
      · simp
      · have hnB : B ≤ n := by omega
        -- K + 1 ≤ 2^(K+1) - 1, and n is a binade at least
        have h2 : K + 2 ≤ 2 ^ (K + 1) := by
          clear h1 h hK hc
          induction K with
          | zero => decide
          | succ K ih => rw [Nat.pow_succ]; omega
        have h3 : n * (K + 2) ≤ n * 2 ^ (K + 1) := Nat.mul_le_mul_left _ h2
        have h4 : (K + 1) * B ≤ (K + 1) * n := Nat.mul_le_mul_left _ hnB
        have h5 : n * (K + 2) = (K + 1) * n + n := by rw [Nat.mul_add, Nat.mul_comm n K, Nat.add_mul]; omega
        omega
    · have hc' : lp ≤ place + lg - fb := by omega
      rw [Int.max_eq_left hc']
      obtain ⟨L, hL⟩ : ∃ L : Nat, place + lg - fb - lp = L := ⟨(place + lg - fb - lp).toNat, by omega⟩
      rw [hL, Int.toNat_natCast]
      have hcut : ∀ j, j * 2 ^ L * 2 ^ (lp - place).toNat ≤ mag * 2 ^ (place - lp).toNat → j ≤ Toward.even.cut false (mag <<< (place - (place + lg - fb)).toNat) (place + lg - fb - place).toNat := by
        intro j hj
        refine le_cut _ _ _ _ ?_
        rw [Nat.shiftLeft_eq]
        by_cases hp : lp ≤ place
        · rw [show (lp - place).toNat = 0 from by omega, Nat.pow_zero, Nat.mul_one] at hj
          by_cases hfl : fb ≤ lg
          · rw [show (place - (place + lg - fb)).toNat = 0 from by omega, Nat.pow_zero, Nat.mul_one]
            have e : L = (place + lg - fb - place).toNat + (place - lp).toNat := by omega
            rw [e, pow_split, ← Nat.mul_assoc] at hj
            exact Nat.le_of_mul_le_mul_right hj (Nat.two_pow_pos _)
          · rw [show (place + lg - fb - place).toNat = 0 from by omega, Nat.pow_zero, Nat.mul_one]
            have e : (place - lp).toNat = (place - (place + lg - fb)).toNat + L := by omega
            rw [e, pow_split, ← Nat.mul_assoc] at hj
            exact Nat.le_of_mul_le_mul_right hj (Nat.two_pow_pos _)
        · rw [show (place - lp).toNat = 0 from by omega, Nat.pow_zero, Nat.mul_one] at hj
          rw [show (place - (place + lg - fb)).toNat = 0 from by omega, Nat.pow_zero, Nat.mul_one]
          have e : (place + lg - fb - place).toNat = L + (lp - place).toNat := by omega
          rw [e, pow_split, ← Nat.mul_assoc]; exact hj
      have hlow : B * 2 ^ L * 2 ^ (lp - place).toNat ≤ mag * 2 ^ (place - lp).toNat := by
        rw [hbin, ← pow_split, ← pow_split]
        have : 2 ^ (fb + L + (lp - place).toNat) = 2 ^ lg * 2 ^ (place - lp).toNat := by rw [← pow_split]; congr 1; omega
        rw [this]
        exact Nat.mul_le_mul_right _ hlo
      have htop : mag * 2 ^ (place - lp).toNat < 2 * B * 2 ^ L * 2 ^ (lp - place).toNat := by
        rw [hbin, show 2 * 2 ^ fb = 2 ^ (fb + 1) from by rw [Nat.pow_succ, Nat.mul_comm], ← pow_split, ← pow_split]
        have : 2 ^ (fb + 1 + L + (lp - place).toNat) = 2 ^ (lg + 1) * 2 ^ (place - lp).toNat := by rw [← pow_split]; congr 1; omega
        rw [this]
        exact Nat.mul_lt_mul_of_pos_right hhi (Nat.two_pow_pos _)
      have hB1 := hcut B hlow
      by_cases hKL : K ≤ L
      · by_cases hKL' : K = L
        · subst hKL'
          have := hcut n h
          omega
        · -- q lies in a lower binade
          have : (K + 1) * B ≤ L * B := Nat.mul_le_mul_right _ (by omega)
          rw [Nat.add_mul] at this
          omega
      · exfalso
        have hnB : B ≤ n := by omega
        have h3 : 2 * B * 2 ^ L * 2 ^ (lp - place).toNat ≤ n * 2 ^ K * 2 ^ (lp - place).toNat := by
          refine Nat.mul_le_mul_right _ ?_
          have e2 : 2 * B * 2 ^ L = B * 2 ^ (L + 1) := by rw [Nat.pow_succ, Nat.mul_comm 2 B, Nat.mul_assoc, Nat.mul_comm 2]
          rw [e2]
          exact Nat.mul_le_mul hnB (Nat.pow_le_pow_right (by omega) (by omega))
        omega

/-- A magnitude that is some rung's is kept. -/
theorem raw_exact (f : Format) (mag : Nat) (place : Int) (q : Nat) (h : mag * 2 ^ (place - f.leastPlace).toNat = units f q * 2 ^ (f.leastPlace - place).toNat) : rawRung f mag place = q :=
  Nat.le_antisymm (raw_le f mag place q (Nat.le_of_eq h)) (le_raw f mag place q (Nat.le_of_eq h.symm))

theorem nearest_exact (f : Format) (s : Bool) (mag : Nat) (place : Int) (q : Nat) (hq : q ≤ f.infRung) (h : mag * 2 ^ (place - f.leastPlace).toNat = units f q * 2 ^ (f.leastPlace - place).toNat) : f.nearest s mag place = f.word s q := by
  rw [nearest_eq, raw_exact f mag place q h, Nat.min_eq_left hq]
end Go.Proofs.Ytecncnkbgfjdcaa.near
set_option linter.unusedVariables false
set_option linter.unusedSimpArgs false
namespace Go.Proofs.Ytecncnkbgfjdcaa.near
open Ieee

def sgn (f : Format) (x : Nat) : Bool := x / f.signWeight % 2 == 1
def rg (f : Format) (x : Nat) : Nat := x % f.signWeight
/-- The exact value of a word that is no NaN, in units of the last place; an infinity counts as the number behind the greatest. -/
def Z (f : Format) (x : Nat) : Int := if sgn f x then -(units f (rg f x) : Int) else (units f (rg f x) : Int)

theorem inf_form (k : FloatKind) : ∃ n, k.format.infRung = (n + 1) * k.format.binade ∧ 1 ≤ n := by
  cases k
  · exact ⟨254, rfl, by decide⟩
  · exact ⟨2046, rfl, by decide⟩

theorem read_cases (k : FloatKind) (x : Nat) :
    (rg k.format x < k.format.infRung ∧ ∃ m e, k.decode x = .number (sgn k.format x) m e ∧ k.format.leastPlace ≤ e ∧ m * 2 ^ (e - k.format.leastPlace).toNat = units k.format (rg k.format x) ∧ m < 2 * k.format.binade)
    ∨ (rg k.format x = k.format.infRung ∧ k.decode x = .infinity (sgn k.format x))
    ∨ (k.format.infRung < rg k.format x ∧ (k.decode x).isNaN = true) := by
  have hB := binade_pos k.format
  obtain ⟨n, hn, hn1⟩ := inf_form k
  unfold FloatKind.decode Format.read rg sgn
  dsimp only
  generalize hq : x % k.format.signWeight = q
  generalize (x / k.format.signWeight % 2 == 1) = s
  by_cases h1 : q < k.format.binade
  · left
    rw [if_pos h1]
    refine ⟨?_, q, _, rfl, Int.le_refl _, ?_, by omega⟩
    · rw [hn]
      have : 1 * k.format.binade ≤ (n + 1) * k.format.binade := Nat.mul_le_mul_right _ (by omega)
      omega
    · rw [Int.sub_self, Int.toNat_zero, Nat.pow_zero, Nat.mul_one]; unfold units; rw [if_pos h1]
  · rw [if_neg h1]
    by_cases h2 : q < k.format.infRung
    · left
      rw [if_pos h2]
      refine ⟨h2, _, _, rfl, by omega, ?_, by have := Nat.mod_lt q hB; omega⟩
      unfold units
      rw [if_neg h1]
      congr 2
      have : 1 ≤ q / k.format.binade := (Nat.le_div_iff_mul_le hB).2 (by omega)
      omega
    · rw [if_neg h2]
      right
      by_cases h3 : q = k.format.infRung
      · left; rw [if_pos h3]; exact ⟨h3, rfl⟩
      · right; rw [if_neg h3]; exact ⟨by omega, rfl⟩

theorem sgn_word (k : FloatKind) (s : Bool) (q : Nat) (h : q < k.format.signWeight) : sgn k.format (k.format.word s q) = s := by
  have hw : 0 < k.format.signWeight := Nat.two_pow_pos _
  unfold sgn Format.word
  cases s
  · rw [if_neg (by decide), Nat.div_eq_of_lt h]; rfl
  · rw [if_pos rfl, Nat.add_div_left _ hw, Nat.div_eq_of_lt h]; rfl

theorem rg_word (k : FloatKind) (s : Bool) (q : Nat) (h : q < k.format.signWeight) : rg k.format (k.format.word s q) = q := word_mod k s q h

theorem word_of (k : FloatKind) (x : Nat) (hx : x < 2 ^ k.format.width) : k.format.word (sgn k.format x) (rg k.format x) = x := by
  have hw : 0 < k.format.signWeight := Nat.two_pow_pos _
  have h2 : 2 ^ k.format.width = 2 * k.format.signWeight := by cases k <;> rfl
  have h3 := Nat.div_add_mod x k.format.signWeight
  have h4 : x / k.format.signWeight < 2 := (Nat.div_lt_iff_lt_mul hw).2 (by omega)
  unfold Format.word sgn rg
  generalize x / k.format.signWeight = d at *
  have : d = 0 ∨ d = 1 := by omega
  rcases this with rfl | rfl
  · simp at h3 ⊢; omega
  · simp at h3 ⊢; omega

/-- A number with few digits, not below the last place, is some rung's. -/
theorem represents (f : Format) (m : Nat) (e : Int) (hm : m < 2 * f.binade) (_he : f.leastPlace ≤ e) : ∃ q, units f q = m * 2 ^ (e - f.leastPlace).toNat := by
  generalize (e - f.leastPlace).toNat = L
  clear _he
  have hB : f.binade = 2 ^ f.fractionBits := rfl
  by_cases h0 : m = 0
  · exact ⟨0, by subst h0; unfold units; rw [if_pos (binade_pos f)]; simp⟩
  induction L generalizing m with
  | zero => exact ⟨0 * f.binade + m, units_at f 0 m (by omega) (.inl rfl)⟩
  | succ L ih =>
    by_cases h1 : f.binade ≤ m
    · exact ⟨(L + 1) * f.binade + m, units_at f (L + 1) m (by omega) (.inr h1)⟩
    · obtain ⟨q, hq⟩ := ih (2 * m) (by omega) (by omega)
      exact ⟨q, by rw [hq, Nat.pow_succ, Nat.mul_comm 2 m, Nat.mul_assoc, Nat.mul_comm (2 ^ L)]⟩

theorem cmp_lt {a b : Int} (h : a < b) : compare a b = .lt := by simp only [compare, compareOfLessAndEq]; rw [if_pos h]
theorem cmp_gt {a b : Int} (h : b < a) : compare a b = .gt := by simp only [compare, compareOfLessAndEq]; rw [if_neg (by omega), if_neg (by omega)]
theorem cmp_eq {a b : Int} (h : a = b) : compare a b = .eq := by simp only [compare, compareOfLessAndEq]; rw [if_neg (by omega), if_pos h]

theorem order_Z (k : FloatKind) (x y : Nat) (hx : rg k.format x ≤ k.format.infRung) (hy : rg k.format y ≤ k.format.infRung) : k.format.order x y = some (compare (Z k.format x) (Z k.format y)) := by
  have key : ∀ (s t : Bool) (m n : Nat) (i j : Int) (a b : Nat), k.format.leastPlace ≤ i → k.format.leastPlace ≤ j → m * 2 ^ (i - k.format.leastPlace).toNat = a → n * 2 ^ (j - k.format.leastPlace).toNat = b →
      compare (signed s m (i - min i j).toNat) (signed t n (j - min i j).toNat) = compare (if s then -(a : Int) else a) (if t then -(b : Int) else b) := by
    intro s t m n i j a b hi hj ha hb
    -- both sides are one power of two apart
    obtain ⟨d, hd⟩ : ∃ d : Nat, min i j - k.format.leastPlace = d := ⟨(min i j - k.format.leastPlace).toNat, by omega⟩
    have ea : a = (m <<< (i - min i j).toNat) * 2 ^ d := by
      rw [← ha, Nat.shiftLeft_eq, Nat.mul_assoc, ← Nat.pow_add]; congr 2; omega
    have eb : b = (n <<< (j - min i j).toNat) * 2 ^ d := by
      rw [← hb, Nat.shiftLeft_eq, Nat.mul_assoc, ← Nat.pow_add]; congr 2; omega
    unfold signed
    rw [ea, eb]
    generalize m <<< (i - min i j).toNat = u
    generalize n <<< (j - min i j).toNat = v
    have hp : (0 : Int) < ((2 ^ d : Nat) : Int) := by exact_mod_cast Nat.two_pow_pos d
    generalize hP : ((2 ^ d : Nat) : Int) = P at hp
    have scale : ∀ p q : Int, compare p q = compare (p * P) (q * P) := by
      intro p q
      rcases Int.lt_trichotomy p q with h | h | h
      · have : p * P < q * P := Int.mul_lt_mul_of_pos_right h hp
        simp only [compare, compareOfLessAndEq]; rw [if_pos h, if_pos this]
      · subst h; simp [compare, compareOfLessAndEq]
      · have : q * P < p * P := Int.mul_lt_mul_of_pos_right h hp
        simp only [compare, compareOfLessAndEq]; rw [if_neg (by omega), if_neg (by omega), if_neg (by omega), if_neg (by omega)]
    rw [scale]
    congr 1
    · cases s <;> simp [← hP, Int.neg_mul]
    · cases t <;> simp [← hP, Int.neg_mul]
  have fin : ∀ z, rg k.format z < k.format.infRung → units k.format (rg k.format z) < units k.format k.format.infRung := fun z h => units_lt _ h
  unfold Format.order
  rcases read_cases k x with ⟨h1, m, i, e1, hi, hm, -⟩ | ⟨h1, e1⟩ | ⟨h1, _⟩
  · rcases read_cases k y with ⟨h2, n, j, e2, hj, hn, -⟩ | ⟨h2, e2⟩ | ⟨h2, _⟩
    · rw [show k.format.read x = k.decode x from rfl, show k.format.read y = k.decode y from rfl, e1, e2]
      unfold Datum.order
      dsimp only
      rw [key _ _ m n i j _ _ hi hj hm hn]; rfl
    · rw [show k.format.read x = k.decode x from rfl, show k.format.read y = k.decode y from rfl, e1, e2]
      unfold Datum.order Z
      dsimp only
      have hf := fin x h1
      rw [h2]
      generalize units k.format (rg k.format x) = a at *
      generalize units k.format k.format.infRung = b at *
      cases sgn k.format y <;> cases sgn k.format x <;> simp only [Bool.false_eq_true, if_false, if_true] <;> first | (rw [cmp_lt (by omega)] <;> rfl) | (rw [cmp_gt (by omega)] <;> rfl) | (rw [cmp_eq (by omega)] <;> rfl)
    · omega
  · rcases read_cases k y with ⟨h2, n, j, e2, hj, hn, -⟩ | ⟨h2, e2⟩ | ⟨h2, _⟩
    · rw [show k.format.read x = k.decode x from rfl, show k.format.read y = k.decode y from rfl, e1, e2]
      unfold Datum.order Z
      dsimp only
      have hf := fin y h2
      rw [h1]
      generalize units k.format (rg k.format y) = a at *
      generalize units k.format k.format.infRung = b at *
      cases sgn k.format y <;> cases sgn k.format x <;> simp only [Bool.false_eq_true, if_false, if_true] <;> first | (rw [cmp_lt (by omega)] <;> rfl) | (rw [cmp_gt (by omega)] <;> rfl) | (rw [cmp_eq (by omega)] <;> rfl)
    · rw [show k.format.read x = k.decode x from rfl, show k.format.read y = k.decode y from rfl, e1, e2]
      unfold Datum.order Z
      dsimp only
      rw [h1, h2]
      have hpos : 0 < units k.format k.format.infRung := by
        have h0 : units k.format 0 < units k.format k.format.infRung := units_lt _ (by cases k <;> decide)
        omega
      generalize units k.format k.format.infRung = b at *
      cases sgn k.format y <;> cases sgn k.format x <;> simp only [Bool.false_eq_true, if_false, if_true] <;> first | (rw [cmp_lt (by omega)] <;> rfl) | (rw [cmp_gt (by omega)] <;> rfl) | (rw [cmp_eq (by omega)] <;> rfl)
    · omega
  · omega

end Go.Proofs.Ytecncnkbgfjdcaa.near
set_option linter.unusedVariables false
set_option linter.unusedSimpArgs false
namespace Go.Proofs.Ytecncnkbgfjdcaa
open Ieee near

theorem lp32 : FloatKind.f32.format.leastPlace = -149 := rfl
theorem lp64 : FloatKind.f64.format.leastPlace = -1074 := rfl
theorem bin32 : FloatKind.f32.format.binade = 8388608 := rfl
theorem bin64 : FloatKind.f64.format.binade = 4503599627370496 := rfl
theorem inf32 : FloatKind.f32.format.infRung = 2139095040 := rfl
theorem inf64 : FloatKind.f64.format.infRung = 9218868437227405312 := rfl

theorem pow_scale (A B C D E M N : Nat) (hM : M = 2 ^ C) (hN : N = 2 ^ D) (h : C + A + B = D + E) : M * 2 ^ A * 2 ^ B = N * 2 ^ E := by
  subst hM; subst hN
  rw [← Nat.pow_add, ← Nat.pow_add, ← Nat.pow_add, h]

theorem pow_join (m a b c d : Nat) (h : a = c + d) (hb : b = m * 2 ^ c) : m * 2 ^ a = b * 2 ^ d := by
  subst h; subst hb
  rw [Nat.pow_add, Nat.mul_assoc]

theorem units_inf32 : units FloatKind.f32.format 2139095040 = 8388608 * 2 ^ 254 := by
  have := units_at FloatKind.f32.format 254 8388608 (by rw [bin32]; omega) (.inr (by rw [bin32]; omega))
  rw [bin32] at this
  exact this

/-- The rung of float64 that holds 2^128. -/
theorem units_top : units FloatKind.f64.format 5183643171103440896 = 4503599627370496 * 2 ^ 1150 := by
  have := units_at FloatKind.f64.format 1150 4503599627370496 (by rw [bin64]; omega) (.inr (by rw [bin64]; omega))
  rw [bin64] at this
  exact this

/-- A finite float32, widened: the rung of float64 with the same value. -/
theorem wide_number {b : Nat} (hb : rg FloatKind.f32.format b < 2139095040) :
    ∃ q, FloatKind.f64.encode (FloatKind.f32.decode b) = FloatKind.f64.format.word (sgn FloatKind.f32.format b) q ∧ q < 5183643171103440896 ∧ units FloatKind.f64.format q = units FloatKind.f32.format (rg FloatKind.f32.format b) * 2 ^ 925 := by
  rcases read_cases .f32 b with ⟨h1, m, e, e1, hi, hm, hlt⟩ | ⟨h1, e1⟩ | ⟨h1, _⟩
  · rw [e1]
    rw [lp32] at hi hm
    rw [bin32] at hlt
    obtain ⟨q, hq⟩ := represents FloatKind.f64.format m e (by rw [bin64]; omega) (by rw [lp64]; omega)
    rw [lp64] at hq
    have hu : units FloatKind.f64.format q = units FloatKind.f32.format (rg FloatKind.f32.format b) * 2 ^ 925 := by
      rw [hq]
      exact pow_join m _ _ _ 925 (by omega) hm.symm
    have hlt2 : q < 5183643171103440896 := by
      have h2 : units FloatKind.f64.format q < units FloatKind.f64.format 5183643171103440896 := by
        rw [units_top, hu]
        have h3 := units_lt FloatKind.f32.format hb
        rw [units_inf32] at h3
        have h4 := Nat.mul_lt_mul_of_pos_right h3 (Nat.two_pow_pos 925)
        rw [pow_scale 254 925 23 52 1150 8388608 4503599627370496 (by decide) (by decide) rfl] at h4
        exact h4
      by_cases hc : q < 5183643171103440896
      · exact hc
      · have := units_le FloatKind.f64.format (p := 5183643171103440896) (q := q) (by omega)
        omega
    refine ⟨q, ?_, hlt2, hu⟩
    show FloatKind.f64.format.nearest _ m e = _
    refine nearest_exact _ _ m e q (by rw [inf64]; omega) ?_
    rw [lp64, hq, show (-1074 - e).toNat = 0 from by omega, Nat.pow_zero, Nat.mul_one]
  · rw [inf32] at h1; omega
  · rw [inf32] at h1; omega

theorem wide_inf {b : Nat} (hb : rg FloatKind.f32.format b = 2139095040) : FloatKind.f64.encode (FloatKind.f32.decode b) = FloatKind.f64.format.word (sgn FloatKind.f32.format b) 9218868437227405312 := by
  rcases read_cases .f32 b with ⟨h1, _⟩ | ⟨h1, e1⟩ | ⟨h1, _⟩
  · rw [inf32] at h1; omega
  · rw [e1]; rfl
  · rw [inf32] at h1; omega

theorem not_nan_rg {k : FloatKind} {b : Nat} (hn : (k.decode b).isNaN = false) : rg k.format b ≤ k.format.infRung := by
  rw [decode_isNaN, decide_eq_false_iff_not] at hn
  unfold rg
  omega

theorem inf_iff {k : FloatKind} {b : Nat} : (k.decode b).isInfinity = decide (rg k.format b = k.format.infRung) := read_isInf k b

theorem wide_bits {b : Nat} (hn : (FloatKind.f32.decode b).isNaN = false) : floatToFloatBits .f32 b .f64 = some (FloatKind.f64.encode (FloatKind.f32.decode b)) := by
  have hr := not_nan_rg hn
  unfold floatToFloatBits
  rw [if_neg (by decide)]
  rcases read_cases .f32 b with ⟨h1, m, e, e1, hi, hm, hlt⟩ | ⟨h1, e1⟩ | ⟨h1, _⟩
  · rw [inf32] at h1
    obtain ⟨q, hq, hql, _⟩ := wide_number h1
    rw [e1] at hq ⊢
    dsimp only
    have hsw : FloatKind.f64.format.signWeight = 9223372036854775808 := rfl
    rw [hq, if_neg]
    rw [inf_iff, rg_word .f64 _ q (by rw [hsw]; omega), inf64, decide_eq_true_eq]
    omega
  · rw [e1]
  · omega

theorem narrow_bits {b : Nat} (hn : (FloatKind.f64.decode b).isNaN = false) (hfit : fitsNarrow (some b)) : floatToFloatBits .f64 b .f32 = some (FloatKind.f32.encode (FloatKind.f64.decode b)) := by
  unfold floatToFloatBits
  rw [if_neg (by decide)]
  have hf := hfit b rfl hn
  revert hf
  cases hd : FloatKind.f64.decode b with
  | number s m e =>
    intro hf
    dsimp only
    rw [if_neg (by rw [hf rfl]; decide)]
  | infinity s => intro _; rfl
  | nan s f => rw [hd] at hn; cases hn

/-- Narrowed behind widening: the word itself. -/
theorem narrow_of_wide {b : Nat} (hb : b < 4294967296) (hn : (FloatKind.f32.decode b).isNaN = false) :
    FloatKind.f32.encode (FloatKind.f64.decode (FloatKind.f64.encode (FloatKind.f32.decode b))) = b := by
  have hr := not_nan_rg hn
  rw [inf32] at hr
  have hw : FloatKind.f32.format.word (sgn FloatKind.f32.format b) (rg FloatKind.f32.format b) = b := word_of .f32 b hb
  have hsw : FloatKind.f64.format.signWeight = 9223372036854775808 := rfl
  by_cases hi : rg FloatKind.f32.format b = 2139095040
  · rw [wide_inf hi]
    rcases read_cases .f64 (FloatKind.f64.format.word (sgn FloatKind.f32.format b) 9218868437227405312) with ⟨h1, _⟩ | ⟨h1, e1⟩ | ⟨h1, _⟩
    · rw [rg_word .f64 _ _ (by rw [hsw]; omega), inf64] at h1; omega
    · rw [e1, sgn_word .f64 _ _ (by rw [hsw]; omega)]
      conv => rhs; rw [← hw, hi]
      rfl
    · rw [rg_word .f64 _ _ (by rw [hsw]; omega), inf64] at h1; omega
  · obtain ⟨q, hq, hql, hu⟩ := wide_number (b := b) (by omega)
    rw [hq]
    rcases read_cases .f64 (FloatKind.f64.format.word (sgn FloatKind.f32.format b) q) with ⟨h1, m, e, e1, he, hm, hlt⟩ | ⟨h1, e1⟩ | ⟨h1, _⟩
    · rw [e1, sgn_word .f64 _ _ (by rw [hsw]; omega)]
      rw [rg_word .f64 _ _ (by rw [hsw]; omega), hu, lp64] at hm
      rw [lp64] at he
      conv => rhs; rw [← hw]
      show FloatKind.f32.format.nearest _ m e = _
      refine nearest_exact _ _ m e _ (by rw [inf32]; omega) ?_
      rw [lp32]
      -- m * 2^(e+149) = U * 2^(-149-e), from m * 2^(e+1074) = U * 2^925
      by_cases h5 : -149 ≤ e
      · rw [show (-149 - e).toNat = 0 from by omega, Nat.pow_zero, Nat.mul_one]
        refine Nat.eq_of_mul_eq_mul_right (Nat.two_pow_pos 925) ?_
        rw [← hm]
        exact (pow_join m _ _ _ 925 (by omega) rfl).symm
      · rw [show (e - -149).toNat = 0 from by omega, Nat.pow_zero, Nat.mul_one]
        refine Nat.eq_of_mul_eq_mul_right (Nat.two_pow_pos (e - -1074).toNat) ?_
        rw [hm]
        exact pow_join _ 925 _ _ _ (by omega) rfl
    · rw [rg_word .f64 _ _ (by rw [hsw]; omega), inf64] at h1; omega
    · rw [rg_word .f64 _ _ (by rw [hsw]; omega), inf64] at h1; omega

theorem fnarrow_fwide {b : Nat} (hb : b < 4294967296) : fnarrow (fwide (val .f32 b)) = val .f32 b := by
  cases hn : (FloatKind.f32.decode b).isNaN with
  | true => rw [val_none hn]; rfl
  | false =>
    rw [val_some hn]
    exact congrArg some (narrow_of_wide hb hn)

theorem fits_wide {b : Nat} (hb : b < 4294967296) : fitsNarrow (fwide (val .f32 b)) := by
  intro c hc _ hi
  cases hn : (FloatKind.f32.decode b).isNaN with
  | true => rw [val_none hn] at hc; cases hc
  | false =>
    rw [val_some hn] at hc
    obtain rfl : FloatKind.f64.encode (FloatKind.f32.decode b) = c := Option.some.inj hc
    rw [narrow_of_wide hb hn]
    have hr := not_nan_rg hn
    rw [inf_iff, inf32, decide_eq_false_iff_not]
    intro h
    rw [wide_inf h, inf_iff, rg_word .f64 _ _ (by decide), inf64] at hi
    simp at hi
end Go.Proofs.Ytecncnkbgfjdcaa
