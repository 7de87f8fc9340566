/- What the float operations of the model give, as functions of values in which all NaNs are one. -/
import Derived.Laws.FloatArith
set_option linter.unusedVariables false
set_option linter.unusedSimpArgs false
namespace Go.Proofs.YtdbcajiagjeplaaDoor

/-- A word's value: none is 'a NaN'. -/
def val (k : FloatKind) (b : Nat) : Option Nat := if (k.decode b).isNaN then none else some b

/-- + - * / on values. -/
def fop (op : BinOp) (k : FloatKind) (a b : Option Nat) : Option Nat := a.bind fun x => b.bind fun y => floatBits op k x y

/-- How two values stand to each other. -/
def fcmp (k : FloatKind) (a b : Option Nat) : Option Ordering := a.bind fun x => b.bind fun y => k.format.order x y

/-- The float with the word r has the value v; the word fits its kind. -/
def FIs (k : FloatKind) (r : Nat) (v : Option Nat) : Prop := val k r = v ∧ r < 2 ^ k.format.width

theorem FIs.out {k : FloatKind} {r : Nat} {v : Option Nat} (h : FIs k r v) : val k r = v := h.1
theorem FIs.lt32 {r : Nat} {v : Option Nat} (h : FIs .f32 r v) : r < 4294967296 := h.2
theorem FIs.lt64 {r : Nat} {v : Option Nat} (h : FIs .f64 r v) : r < 18446744073709551616 := h.2
theorem FIs.mk {k : FloatKind} {r : Nat} {v : Option Nat} (h : val k r = v) (h2 : r < 2 ^ k.format.width) : FIs k r v := ⟨h, h2⟩

theorem binade_le_inf (k : FloatKind) : k.format.binade ≤ k.format.infRung := by cases k <;> decide

theorem read_isNaN (k : FloatKind) (w : Nat) : (k.format.read w).isNaN = decide (k.format.infRung < w % k.format.signWeight) := by
  have hb := binade_le_inf k
  unfold Ieee.Format.read
  dsimp only
  split
  · rename_i h; simp only [Ieee.Datum.isNaN]; symm; rw [decide_eq_false_iff_not]; omega
  · split
    · rename_i h; simp only [Ieee.Datum.isNaN]; symm; rw [decide_eq_false_iff_not]; omega
    · split
      · rename_i h; simp only [Ieee.Datum.isNaN]; symm; rw [decide_eq_false_iff_not]; omega
      · simp only [Ieee.Datum.isNaN]; symm; rw [decide_eq_true_eq]; omega

theorem decode_isNaN (k : FloatKind) (w : Nat) : (k.decode w).isNaN = decide (k.format.infRung < w % k.format.signWeight) := read_isNaN k w

theorem word_mod (k : FloatKind) (s : Bool) (r : Nat) (h : r < k.format.signWeight) : k.format.word s r % k.format.signWeight = r := by
  unfold Ieee.Format.word
  split
  · rw [Nat.add_mod_left]; exact Nat.mod_eq_of_lt h
  · exact Nat.mod_eq_of_lt h

theorem nearest_word (k : FloatKind) (s : Bool) (m : Nat) (e : Int) : ∃ r, r ≤ k.format.infRung ∧ k.format.nearest s m e = k.format.word s r := by
  unfold Ieee.Format.nearest
  dsimp only
  split
  · exact ⟨0, Nat.zero_le _, rfl⟩
  · exact ⟨_, Nat.min_le_right _ _, rfl⟩

theorem not_nan_word (k : FloatKind) (s : Bool) (r : Nat) (h : r ≤ k.format.infRung) : (k.decode (k.format.word s r)).isNaN = false := by
  rw [decode_isNaN, word_mod k s r (Nat.lt_of_le_of_lt h k.format.infRung_lt), decide_eq_false_iff_not]
  omega

theorem write_not_nan (k : FloatKind) (d : Ieee.Datum) (h : d.isNaN = false) : (k.decode (k.format.write d)).isNaN = false := by
  cases d with
  | number s m e =>
    obtain ⟨r, hr, he⟩ := nearest_word k s m e
    show (k.decode (k.format.nearest s m e)).isNaN = false
    rw [he]; exact not_nan_word k s r hr
  | infinity s => exact not_nan_word k s _ (Nat.le_refl _)
  | nan s t => cases h

theorem val_some {k : FloatKind} {b : Nat} (h : (k.decode b).isNaN = false) : val k b = some b := by simp [val, h]
theorem val_none {k : FloatKind} {b : Nat} (h : (k.decode b).isNaN = true) : val k b = none := by simp [val, h]
theorem val_eq_some {k : FloatKind} {b x : Nat} (h : val k b = some x) : x = b ∧ (k.decode b).isNaN = false := by
  unfold val at h
  split at h
  · cases h
  · rename_i hn; cases h; exact ⟨rfl, by simpa using hn⟩
theorem val_eq_none {k : FloatKind} {b : Nat} (h : val k b = none) : (k.decode b).isNaN = true := by
  unfold val at h
  split at h
  · assumption
  · cases h
theorem val_val {k : FloatKind} {b x : Nat} (h : val k b = some x) : val k x = some x := by
  obtain ⟨rfl, h2⟩ := val_eq_some h; exact h

section
variable {f : Ieee.Format}
theorem sum_nan_l {a b : Ieee.Datum} (h : a.isNaN = true) : a.sum b = none := by cases a <;> simp_all [Ieee.Datum.isNaN, Ieee.Datum.sum]
theorem sum_nan_r {a b : Ieee.Datum} (h : b.isNaN = true) : a.sum b = none := by cases b <;> cases a <;> simp_all [Ieee.Datum.isNaN, Ieee.Datum.sum]
theorem product_nan_l {a b : Ieee.Datum} (h : a.isNaN = true) : a.product b = none := by cases a <;> simp_all [Ieee.Datum.isNaN, Ieee.Datum.product]
theorem product_nan_r {a b : Ieee.Datum} (h : b.isNaN = true) : a.product b = none := by cases b <;> cases a <;> simp_all [Ieee.Datum.isNaN, Ieee.Datum.product]
theorem quotient_nan_l {n : Nat} {a b : Ieee.Datum} (h : a.isNaN = true) : a.quotient n b = none := by cases a <;> simp_all [Ieee.Datum.isNaN, Ieee.Datum.quotient]
theorem quotient_nan_r {n : Nat} {a b : Ieee.Datum} (h : b.isNaN = true) : a.quotient n b = none := by cases b <;> cases a <;> simp_all [Ieee.Datum.isNaN, Ieee.Datum.quotient]
theorem order_nan_l {a b : Ieee.Datum} (h : a.isNaN = true) : a.order b = none := by cases a <;> simp_all [Ieee.Datum.isNaN, Ieee.Datum.order]
theorem order_nan_r {a b : Ieee.Datum} (h : b.isNaN = true) : a.order b = none := by cases b <;> cases a <;> simp_all [Ieee.Datum.isNaN, Ieee.Datum.order]
theorem opposite_nan {a : Ieee.Datum} : a.opposite.isNaN = a.isNaN := by cases a <;> rfl

theorem sum_not_nan {a b d : Ieee.Datum} (h : a.sum b = some d) : d.isNaN = false := by
  cases a <;> cases b <;> simp [Ieee.Datum.sum] at h <;> first | (subst h; rfl) | (obtain ⟨_, rfl⟩ := h; rfl) | skip
theorem product_not_nan {a b d : Ieee.Datum} (h : a.product b = some d) : d.isNaN = false := by
  cases a <;> cases b <;> simp [Ieee.Datum.product] at h <;> first | (subst h; rfl) | (obtain ⟨_, rfl⟩ := h; rfl) | skip
theorem quotient_not_nan {n : Nat} {a b d : Ieee.Datum} (h : a.quotient n b = some d) : d.isNaN = false := by
  cases a <;> cases b <;> simp only [Ieee.Datum.quotient] at h <;> (repeat' split at h) <;> first | (cases h; done) | (cases h; rfl)
end

theorem floatBits_nan_l {op : BinOp} {k : FloatKind} {x y : Nat} (h : (k.decode x).isNaN = true) : floatBits op k x y = none := by
  unfold floatBits
  have h' : (k.format.read x).isNaN = true := h
  split <;> first | rfl | skip
  · simp [Ieee.Format.add, sum_nan_l h']
  · simp [Ieee.Format.sub, sum_nan_l h']
  · simp [Ieee.Format.mul, product_nan_l h']
  · simp [Ieee.Format.div, quotient_nan_l h']

theorem floatBits_nan_r {op : BinOp} {k : FloatKind} {x y : Nat} (h : (k.decode y).isNaN = true) : floatBits op k x y = none := by
  unfold floatBits
  have h' : (k.format.read y).isNaN = true := h
  split <;> first | rfl | skip
  · simp [Ieee.Format.add, sum_nan_r h']
  · simp [Ieee.Format.sub, sum_nan_r (opposite_nan.trans h')]
  · simp [Ieee.Format.mul, product_nan_r h']
  · simp [Ieee.Format.div, quotient_nan_r h']

theorem floatBits_not_nan {op : BinOp} {k : FloatKind} {x y r : Nat} (h : floatBits op k x y = some r) : (k.decode r).isNaN = false := by
  unfold floatBits at h
  split at h <;> first | (cases h; done) | skip
  all_goals
    simp only [Ieee.Format.add, Ieee.Format.sub, Ieee.Format.mul, Ieee.Format.div, Option.map_eq_some_iff] at h
    obtain ⟨d, hd, rfl⟩ := h
  · exact write_not_nan k d (sum_not_nan hd)
  · exact write_not_nan k d (sum_not_nan hd)
  · exact write_not_nan k d (product_not_nan hd)
  · exact write_not_nan k d (quotient_not_nan hd)

/-- An operation looks at its operands' values alone. -/
theorem floatBits_val (op : BinOp) (k : FloatKind) (x y : Nat) : floatBits op k x y = fop op k (val k x) (val k y) := by
  unfold fop
  cases hx : (k.decode x).isNaN
  · cases hy : (k.decode y).isNaN
    · rw [val_some hx, val_some hy]; rfl
    · rw [val_none hy, floatBits_nan_r hy]; cases val k x <;> rfl
  · rw [val_none hx, floatBits_nan_l hx]; rfl

theorem order_val (k : FloatKind) (x y : Nat) : k.format.order x y = fcmp k (val k x) (val k y) := by
  unfold fcmp
  cases hx : (k.decode x).isNaN
  · cases hy : (k.decode y).isNaN
    · rw [val_some hx, val_some hy]; rfl
    · rw [val_none hy]; have : k.format.order x y = none := order_nan_r (a := k.format.read x) (b := k.format.read y) hy
      rw [this]; cases val k x <;> rfl
  · rw [val_none hx]; exact order_nan_l (a := k.format.read x) (b := k.format.read y) hx

/-- Where the language leaves a NaN's bits open, a NaN it is. -/
theorem val_nanCut (k : FloatKind) (x y t : Nat) : val k ((Question.nanBits k x y).cut t) = none := by
  refine val_none ?_
  rw [decode_isNaN, decide_eq_true_eq]
  cases k
  · show 2139095040 < ((t % 2) * 2 ^ 31 + 0x7f800000 + 1 + (t / 2) % (2 ^ 23 - 1)) % 2147483648
    rcases Nat.mod_two_eq_zero_or_one t with h | h <;> rw [h] <;> omega
  · show 9218868437227405312 < ((t % 2) * 2 ^ 63 + 0x7ff0000000000000 + 1 + (t / 2) % (2 ^ 52 - 1)) % 9223372036854775808
    rcases Nat.mod_two_eq_zero_or_one t with h | h <;> rw [h] <;> omega
theorem val_nanConvCut (k : FloatKind) (x t : Nat) : val k ((Question.nanConv k x).cut t) = none := by
  refine val_none ?_
  rw [decode_isNaN, decide_eq_true_eq]
  cases k
  · show 2139095040 < ((t % 2) * 2 ^ 31 + 0x7f800000 + 1 + (t / 2) % (2 ^ 23 - 1)) % 2147483648
    rcases Nat.mod_two_eq_zero_or_one t with h | h <;> rw [h] <;> omega
  · show 9218868437227405312 < ((t % 2) * 2 ^ 63 + 0x7ff0000000000000 + 1 + (t / 2) % (2 ^ 52 - 1)) % 9223372036854775808
    rcases Nat.mod_two_eq_zero_or_one t with h | h <;> rw [h] <;> omega

theorem nanCut_lt (k : FloatKind) (x y t : Nat) : (Question.nanBits k x y).cut t < 2 ^ k.format.width := by
  cases k
  · show ((t % 2) * 2 ^ 31 + 0x7f800000 + 1 + (t / 2) % (2 ^ 23 - 1)) < 4294967296
    rcases Nat.mod_two_eq_zero_or_one t with h | h <;> rw [h] <;> omega
  · show ((t % 2) * 2 ^ 63 + 0x7ff0000000000000 + 1 + (t / 2) % (2 ^ 52 - 1)) < 18446744073709551616
    rcases Nat.mod_two_eq_zero_or_one t with h | h <;> rw [h] <;> omega
theorem nanConvCut_lt (k : FloatKind) (x t : Nat) : (Question.nanConv k x).cut t < 2 ^ k.format.width := by
  cases k
  · exact nanCut_lt .f32 x x t
  · exact nanCut_lt .f64 x x t

theorem floatBits_lt {op : BinOp} {k : FloatKind} {x y r : Nat} (h : floatBits op k x y = some r) : r < 2 ^ k.format.width := by
  unfold floatBits at h
  split at h
  · exact k.format.add_lt h
  · exact k.format.sub_lt h
  · exact k.format.mul_lt h
  · exact k.format.div_lt h
  · cases h

/-- float64(x) on float32 values, float32(x) on float64 values that fit. -/
def fwide (a : Option Nat) : Option Nat := a.map fun b => FloatKind.f64.encode (FloatKind.f32.decode b)
def fnarrow (a : Option Nat) : Option Nat := a.map fun b => FloatKind.f32.encode (FloatKind.f64.decode b)
/-- Narrowed, the number stays finite (or it was none: an infinity, a NaN). -/
def fitsNarrow (a : Option Nat) : Prop := ∀ b, a = some b → (FloatKind.f64.decode b).isNaN = false → (FloatKind.f64.decode b).isInfinity = false → (FloatKind.f32.decode (FloatKind.f32.encode (FloatKind.f64.decode b))).isInfinity = false

theorem read_isInf (k : FloatKind) (w : Nat) : (k.format.read w).isInfinity = decide (w % k.format.signWeight = k.format.infRung) := by
  have hb := binade_le_inf k
  unfold Ieee.Format.read
  dsimp only
  split
  · rename_i h
    have : k.format.binade < k.format.infRung ∨ k.format.binade = k.format.infRung := by omega
    simp only [Ieee.Datum.isInfinity]; symm; rw [decide_eq_false_iff_not]; omega
  · split
    · rename_i h; simp only [Ieee.Datum.isInfinity]; symm; rw [decide_eq_false_iff_not]; omega
    · split
      · rename_i h; simp only [Ieee.Datum.isInfinity]; symm; rw [decide_eq_true_eq]; omega
      · rename_i h; simp only [Ieee.Datum.isInfinity]; symm; rw [decide_eq_false_iff_not]; omega

/-- The numbers that float32 holds, read as (sign, magnitude, place): the magnitude has at most 24 digits, the place lies from -149 to 104. -/
theorem read32_number {b : Nat} {s : Bool} {m : Nat} {e : Int} (h : FloatKind.f32.decode b = .number s m e) : m < 16777216 ∧ -149 ≤ e ∧ e ≤ 104 := by
  have hb : FloatKind.f32.format.binade = 8388608 := rfl
  have hi : FloatKind.f32.format.infRung = 2139095040 := rfl
  have hp : FloatKind.f32.format.leastPlace = -149 := rfl
  unfold FloatKind.decode Ieee.Format.read at h
  dsimp only at h
  rw [hb, hi, hp] at h
  generalize b % FloatKind.f32.format.signWeight = q at h
  split at h
  · injection h with h1 h2 h3; omega
  · split at h
    · rename_i h4 h5
      injection h with h1 h2 h3
      have h6 : q / 8388608 ≤ 254 := by omega
      have h7 : q % 8388608 < 8388608 := Nat.mod_lt _ (by omega)
      omega
    · split at h <;> cases h

end Go.Proofs.YtdbcajiagjeplaaDoor
