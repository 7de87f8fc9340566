/- The words of n / 64, and their parts. -/
import Derived.Test.YtecncnkbgfjdcaaZFCirC
set_option linter.unusedVariables false
set_option linter.unusedSimpArgs false
namespace Go.Proofs.Ytecncnkbgfjdcaa
open Ieee near

/-- The word of n / 64. -/
def wd (n : Nat) : Nat := (1016 + n.log2) * 4503599627370496 + n * 2 ^ (52 - n.log2)
theorem wd_two {n : Nat} (h0 : n ≠ 0) (h1 : n < 1048576) : wd (2 * n) = wd n + 4503599627370496 := by
  have hl : (2 * n).log2 = n.log2 + 1 := Nat.log2_two_mul h0
  have hb : n.log2 < 20 := (Nat.log2_lt h0).2 h1
  unfold wd
  rw [hl]
  obtain ⟨k, hk⟩ : ∃ k, k = 52 - (n.log2 + 1) := ⟨_, rfl⟩
  rw [← hk, show 52 - n.log2 = k + 1 by omega, Nat.pow_succ]
  generalize 2 ^ k = Q
  have e1 : 2 * n * Q = n * (Q * 2) := by grind
  rw [e1]
  omega
theorem logZ_up (y : Nat) : logZ (y + 4503599627370496) = logZ y := by
  have h1 : logE (y + 4503599627370496) = logE y + 1 := by unfold logE; omega
  have h2 : ((y + 4503599627370496 : Nat) : Int) - logE (y + 4503599627370496) * 4503599627370496 = (y : Int) - logE y * 4503599627370496 := by rw [h1]; omega
  exact congrArg Int.toNat h2
theorem logE_up (y : Nat) : logE (y + 4503599627370496) = logE y + 1 := by unfold logE; omega
theorem LV_up (y : Nat) : LV (y + 4503599627370496) = LV y + 1560828692041339 := by
  unfold LV
  rw [logZ_up, logE_up]
  unfold LNe
  omega
theorem wd_pow {m : Nat} (h0 : m ≠ 0) : ∀ p : Nat, 2 ^ p * m < 1048576 → logZ (wd (2 ^ p * m)) = logZ (wd m) ∧ LV (wd (2 ^ p * m)) = LV (wd m) + (p : Int) * 1560828692041339
  | 0, _ => by rw [Nat.pow_zero, Nat.one_mul]; exact ⟨rfl, by omega⟩
  | p + 1, h => by
    have e : 2 ^ (p + 1) * m = 2 * (2 ^ p * m) := by rw [Nat.pow_succ]; grind
    rw [e] at h ⊢
    have h2 : 2 ^ p * m ≠ 0 := Nat.mul_ne_zero (Nat.ne_of_gt (Nat.two_pow_pos p)) h0
    obtain ⟨i1, i2⟩ := wd_pow h0 p (by omega)
    rw [wd_two h2 (by omega), logZ_up, LV_up, i1, i2]
    exact ⟨rfl, by omega⟩
theorem odd_split : ∀ (b i : Nat), i ≤ b → i ≠ 0 → ∃ p a, i = 2 ^ p * (2 * a + 1)
  | 0, i, h, h0 => by omega
  | b + 1, i, h, h0 => by
    rcases Nat.mod_two_eq_zero_or_one i with h2 | h2
    · obtain ⟨p, a, e⟩ := odd_split b (i / 2) (by omega) (by omega)
      refine ⟨p + 1, a, ?_⟩
      rw [Nat.pow_succ, Nat.mul_right_comm, ← e]
      omega
    · exact ⟨0, i / 2, by omega⟩
/-- The check of a pair of odd numbers. -/
def oChk (a b : Nat) : Bool :=
  let z := wd ((2 * a + 1) * (2 * b + 1))
  let d := LV (wd (2 * a + 1)) + LV (wd (2 * b + 1)) + 9364972152248034 - LV z
  sChk (logZ z) && decide (-8796093022208 ≤ d) && decide (d ≤ 8796093022208)
def rowChk (a : Nat) : Bool := (List.range (a + 1)).all fun b => oChk a b
theorem wd_e {n : Nat} (h0 : n ≠ 0) (h1 : n < 65536) : -10 ≤ logE (wd n) ∧ logE (wd n) ≤ 10 ∧ 870 * 4503599627370496 ≤ wd n ∧ wd n < 1160 * 4503599627370496 := by
  have hb : n.log2 < 16 := (Nat.log2_lt h0).2 h1
  have l1 := Nat.log2_self_le h0
  have l2 : n < 2 ^ (n.log2 + 1) := Nat.lt_log2_self
  have e1 : 2 ^ n.log2 * 2 ^ (52 - n.log2) = 4503599627370496 := by rw [← Nat.pow_add, show n.log2 + (52 - n.log2) = 52 by omega]
  have e2 := Nat.mul_le_mul_right (2 ^ (52 - n.log2)) l1
  have e3 := Nat.mul_lt_mul_of_pos_right l2 (Nat.two_pow_pos (52 - n.log2))
  rw [Nat.pow_succ, Nat.mul_right_comm, e1] at e3
  rw [e1] at e2
  unfold logE wd
  generalize n * 2 ^ (52 - n.log2) = Q at *
  omega
structure Pair (i j : Nat) : Prop where
  chk : sChk (logZ (wd (i * j))) = true
  lo : -8796093022208 ≤ LV (wd (i * 8)) + LV (wd (j * 8)) - LV (wd (i * j))
  hi : LV (wd (i * 8)) + LV (wd (j * 8)) - LV (wd (i * j)) ≤ 8796093022208
theorem Pair.swap {i j : Nat} (h : Pair i j) : Pair j i := ⟨by rw [Nat.mul_comm]; exact h.chk, by rw [Nat.mul_comm j i, Int.add_comm]; exact h.lo, by rw [Nat.mul_comm j i, Int.add_comm]; exact h.hi⟩
theorem pair_of {p q a b : Nat} (h : oChk a b = true) (h1 : 2 ^ p * (2 * a + 1) ≤ 200) (h2 : 2 ^ q * (2 * b + 1) ≤ 200) : Pair (2 ^ p * (2 * a + 1)) (2 ^ q * (2 * b + 1)) := by
  unfold oChk at h
  simp only [Bool.and_eq_true, decide_eq_true_eq] at h
  obtain ⟨⟨c1, c2⟩, c3⟩ := h
  have hij := Nat.mul_le_mul h1 h2
  have e : 2 ^ p * (2 * a + 1) * (2 ^ q * (2 * b + 1)) = 2 ^ (p + q) * ((2 * a + 1) * (2 * b + 1)) := by rw [Nat.pow_add]; grind
  have e8 : ∀ p a : Nat, 2 ^ p * (2 * a + 1) * 8 = 2 ^ (p + 3) * (2 * a + 1) := by intro p a; rw [Nat.pow_add]; grind
  rw [e] at hij
  obtain ⟨z1, z2⟩ := wd_pow (m := (2 * a + 1) * (2 * b + 1)) (Nat.mul_ne_zero (by omega) (by omega)) (p + q) (by omega)
  obtain ⟨_, y2⟩ := wd_pow (m := 2 * a + 1) (by omega) (p + 3) (by rw [← e8]; omega)
  obtain ⟨_, x2⟩ := wd_pow (m := 2 * b + 1) (by omega) (q + 3) (by rw [← e8]; omega)
  have hd : LV (wd (2 ^ p * (2 * a + 1) * 8)) + LV (wd (2 ^ q * (2 * b + 1) * 8)) - LV (wd (2 ^ p * (2 * a + 1) * (2 ^ q * (2 * b + 1)))) = LV (wd (2 * a + 1)) + LV (wd (2 * b + 1)) + 9364972152248034 - LV (wd ((2 * a + 1) * (2 * b + 1))) := by
    rw [e8, e8, e, z2, y2, x2]
    generalize LV (wd (2 * a + 1)) = A
    generalize LV (wd (2 * b + 1)) = B
    generalize LV (wd ((2 * a + 1) * (2 * b + 1))) = C
    omega
  exact ⟨by rw [e, z1]; exact c1, by rw [hd]; exact c2, by rw [hd]; exact c3⟩
theorem pair_all (hc : ∀ a, a < 100 → rowChk a = true) {i j : Nat} (hi : i ≠ 0) (hj : j ≠ 0) (hi2 : i ≤ 200) (hj2 : j ≤ 200) : Pair i j := by
  obtain ⟨p, a, ea⟩ := odd_split i i (Nat.le_refl _) hi
  obtain ⟨q, b, eb⟩ := odd_split j j (Nat.le_refl _) hj
  have ha : 2 * a + 1 ≤ i := by rw [ea]; exact Nat.le_mul_of_pos_left _ (Nat.two_pow_pos p)
  have hb : 2 * b + 1 ≤ j := by rw [eb]; exact Nat.le_mul_of_pos_left _ (Nat.two_pow_pos q)
  have key : ∀ a b, a < 100 → b ≤ a → oChk a b = true := by
    intro a b h1 h2
    have := hc a h1
    unfold rowChk at this
    rw [List.all_eq_true] at this
    exact this b (List.mem_range.2 (by omega))
  rcases Nat.le_total b a with h | h
  · have := pair_of (p := p) (q := q) (key a b (by omega) h) (by omega) (by omega)
    rw [← ea, ← eb] at this
    exact this
  · have := pair_of (p := q) (q := p) (key b a (by omega) h) (by omega) (by omega)
    rw [← ea, ← eb] at this
    exact this.swap
/-- Three tenths of a pair: m + n - o lies within 1. -/
theorem ten_pair (hc : ∀ a, a < 100 → rowChk a = true) {i j : Nat} (hi : i ≠ 0) (hj : j ≠ 0) (hi2 : i ≤ 200) (hj2 : j ≤ 200) {t1 F1 t2 F2 t3 F3 : Nat} {m n o : Int}
    (h1 : Ten (wd (i * 8)) t1 F1 m) (h2 : Ten (wd (j * 8)) t2 F2 n) (h3 : Ten (wd (i * j)) t3 F3 o) : m + n - o ≤ 1 ∧ o - m - n ≤ 1 := by
  have hp := pair_all hc hi hj hi2 hj2
  have c1 := (pair_all hc hi (j := 8) (by omega) hi2 (by omega)).chk
  have c2 := (pair_all hc hj (j := 8) (by omega) hj2 (by omega)).chk
  have hij : i * j ≤ 200 * 200 := Nat.mul_le_mul hi2 hj2
  obtain ⟨a1, a2, _⟩ := wd_e (n := i * 8) (by omega) (by omega)
  obtain ⟨b1, b2, _⟩ := wd_e (n := j * 8) (by omega) (by omega)
  obtain ⟨d1, d2, _⟩ := wd_e (n := i * j) (Nat.mul_ne_zero hi hj) (by omega)
  obtain ⟨r1, r2⟩ := ten_rel h1 c1 a1 a2
  obtain ⟨s1, s2⟩ := ten_rel h2 c2 b1 b2
  obtain ⟨u1, u2⟩ := ten_rel h3 hp.chk d1 d2
  have lo := hp.lo
  have hi := hp.hi
  unfold TI at *
  generalize LV (wd (i * 8)) = A at *
  generalize LV (wd (j * 8)) = B at *
  generalize LV (wd (i * j)) = C at *
  omega
end Go.Proofs.Ytecncnkbgfjdcaa
