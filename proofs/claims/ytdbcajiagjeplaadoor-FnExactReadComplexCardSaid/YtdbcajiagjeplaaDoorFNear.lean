/- How the model rounds: the rung of a number, bounded from both sides; so numbers that a format holds are kept. -/
import Derived.Test.YtdbcajiagjeplaaDoorFloat
set_option linter.unusedVariables false
set_option linter.unusedSimpArgs false
namespace Go.Proofs.YtdbcajiagjeplaaDoor.near
open Ieee

/-- The cut of n / 2^drop to a whole number lies on the same side of every whole number as the quotient. -/
theorem cut_le (neg : Bool) (n drop j : Nat) (h : n ≤ j * 2 ^ drop) : Toward.even.cut neg n drop ≤ j := by
  unfold Toward.cut
  dsimp only
  rw [Nat.one_shiftLeft]
  by_cases hd : drop ≤ n.log2 + 2
  · rw [Nat.min_eq_left hd]
    have hg : 0 < 2 ^ drop := Nat.two_pow_pos _
    generalize 2 ^ drop = g at *
    have h1 := Nat.div_add_mod n g
    have h2 := Nat.mod_lt n hg
    generalize hq : n / g = q at *
    generalize hr : n % g = r at *
    by_cases hqj : q < j
    · have : ∀ b : Bool, b.toNat ≤ 1 := fun b => by cases b <;> decide
      have := this (decide (g < 2 * r) || (g == 2 * r) && (q % 2 == 1))
      omega
    · have hqj2 : q ≤ j := by
        by_cases hc : q ≤ j
        · exact hc
        · exfalso
          have : (j + 1) * g ≤ q * g := Nat.mul_le_mul_right g (by omega)
          rw [Nat.add_mul, Nat.one_mul] at this
          rw [Nat.mul_comm g q] at h1
          omega
      have hq2 : q = j := by omega
      subst hq2
      have hr0 : r = 0 := by rw [Nat.mul_comm g q] at h1; omega
      subst hr0
      have e1 : decide (g < 2 * 0) = false := by simp
      have e2 : (g == 2 * 0) = false := by simp; omega
      rw [e1, e2]; simp
  · rw [Nat.min_eq_right (by omega)]
    by_cases hn : n = 0
    · subst hn
      simp
    · have h1 : n < 2 ^ (n.log2 + 1) := Nat.lt_log2_self
      have h2 : 2 ^ (n.log2 + 2) = 2 * 2 ^ (n.log2 + 1) := by rw [Nat.pow_succ 2 (n.log2 + 1), Nat.mul_comm]
      generalize 2 ^ (n.log2 + 2) = g at *
      have e0 : n / g = 0 := Nat.div_eq_of_lt (by omega)
      have e3 : n % g = n := Nat.mod_eq_of_lt (by omega)
      rw [e0, e3]
      have e1 : decide (g < 2 * n) = false := by simp; omega
      have e2 : (g == 2 * n) = false := by simp; omega
      rw [e1, e2]; simp

theorem le_cut (neg : Bool) (n drop j : Nat) (h : j * 2 ^ drop ≤ n) : j ≤ Toward.even.cut neg n drop := by
  unfold Toward.cut
  dsimp only
  rw [Nat.one_shiftLeft]
  by_cases hd : drop ≤ n.log2 + 2
  · rw [Nat.min_eq_left hd]
    have : j ≤ n / 2 ^ drop := (Nat.le_div_iff_mul_le (Nat.two_pow_pos _)).2 h
    omega
  · have h1 : n < 2 ^ (n.log2 + 1) := Nat.lt_log2_self
    have h2 : 2 ^ (n.log2 + 1) ≤ 2 ^ drop := Nat.pow_le_pow_right (by omega) (by omega)
    have : j = 0 := by
      by_cases hj : j = 0
      · exact hj
      · exfalso
        have : 1 * 2 ^ drop ≤ j * 2 ^ drop := Nat.mul_le_mul_right _ (by omega)
        omega
    rw [this]
    exact Nat.zero_le _

/-- The magnitude of a rung, in units of the format's last place. -/
def units (f : Format) (q : Nat) : Nat := if q < f.binade then q else (f.binade + q % f.binade) * 2 ^ (q / f.binade - 1)

theorem binade_pos (f : Format) : 0 < f.binade := Nat.two_pow_pos _

/-- Units of the rung 'a whole binades and m more', m within the two binades above. -/
theorem units_at (f : Format) (L m : Nat) (hm : m ≤ 2 * f.binade) (hL : L = 0 ∨ f.binade ≤ m) : units f (L * f.binade + m) = m * 2 ^ L := by
  have hB := binade_pos f
  unfold units
  generalize hBB : f.binade = B at *
  by_cases h1 : m < B
  · have hL0 : L = 0 := by omega
    subst hL0
    simp [h1]
  · rw [if_neg (by have := Nat.le_mul_of_pos_right L hB; have : 0 ≤ L * B := Nat.zero_le _; omega)]
    by_cases h2 : m < 2 * B
    · have e1 : (L * B + m) % B = m - B := by
        rw [show L * B + m = (m - B) + (L + 1) * B from by rw [Nat.add_mul]; omega, Nat.add_mul_mod_self_right]
        exact Nat.mod_eq_of_lt (by omega)
      have e2 : (L * B + m) / B = L + 1 := by
        rw [show L * B + m = (m - B) + (L + 1) * B from by rw [Nat.add_mul]; omega, Nat.add_mul_div_right _ _ hB, Nat.div_eq_of_lt (by omega), Nat.zero_add]
      rw [e1, e2, show B + (m - B) = m from by omega, Nat.add_sub_cancel]
    · have h3 : m = 2 * B := by omega
      subst h3
      have e1 : (L * B + 2 * B) % B = 0 := by rw [← Nat.add_mul]; exact Nat.mul_mod_left _ _
      have e2 : (L * B + 2 * B) / B = L + 2 := by rw [← Nat.add_mul]; exact Nat.mul_div_cancel _ hB
      rw [e1, e2, Nat.add_zero, show L + 2 - 1 = L + 1 from rfl, Nat.pow_succ, Nat.mul_comm (2 ^ L) 2, ← Nat.mul_assoc, Nat.mul_comm B 2]

/-- Every rung is of that form. -/
theorem rung_form (f : Format) (q : Nat) : ∃ L m, q = L * f.binade + m ∧ m < 2 * f.binade ∧ (L = 0 ∨ f.binade ≤ m) := by
  have hB := binade_pos f
  have h1 := Nat.div_add_mod q f.binade
  have h2 := Nat.mod_lt q hB
  generalize f.binade = B at *
  generalize hq : q / B = L at *
  generalize hr : q % B = r at *
  rcases L with _ | L
  · exact ⟨0, q, by omega, by omega, .inl rfl⟩
  · refine ⟨L, r + B, ?_, by omega, .inr (by omega)⟩
    rw [← h1, Nat.mul_comm B (L + 1), Nat.add_mul]
    omega

theorem units_lt (f : Format) {p q : Nat} (h : p < q) : units f p < units f q := by
  have hB := binade_pos f
  obtain ⟨L, m, rfl, hm, hL⟩ := rung_form f p
  obtain ⟨K, n, rfl, hn, hK⟩ := rung_form f q
  rw [units_at f L m (by omega) hL, units_at f K n (by omega) hK]
  generalize f.binade = B at *
  by_cases hLK : L = K
  · subst hLK
    exact Nat.mul_lt_mul_of_pos_right (by omega) (Nat.two_pow_pos _)
  · by_cases hlt : L < K
    · have hnB : B ≤ n := by omega
      have h1 : m * 2 ^ L < 2 * B * 2 ^ L := Nat.mul_lt_mul_of_pos_right hm (Nat.two_pow_pos _)
      have h2 : 2 * B * 2 ^ L = B * 2 ^ (L + 1) := by rw [Nat.pow_succ, Nat.mul_comm 2 B, Nat.mul_assoc, Nat.mul_comm 2]
      have h3 : B * 2 ^ (L + 1) ≤ n * 2 ^ K := Nat.mul_le_mul hnB (Nat.pow_le_pow_right (by omega) (by omega))
      omega
    · exfalso
      have hKL : K + 1 ≤ L := by omega
      have hmB : B ≤ m := by omega
      have : (K + 1) * B ≤ L * B := Nat.mul_le_mul_right _ hKL
      rw [Nat.add_mul] at this
      omega

theorem units_le (f : Format) {p q : Nat} (h : p ≤ q) : units f p ≤ units f q := by
  rcases Nat.lt_or_eq_of_le h with h | h
  · exact Nat.le_of_lt (units_lt f h)
  · rw [h]; exact Nat.le_refl _

theorem le_of_units (f : Format) {p q : Nat} (h : units f p ≤ units f q) : p ≤ q := by
  by_cases hc : p ≤ q
  · exact hc
  · have := units_lt f (p := q) (q := p) (by omega); omega

theorem units_inj (f : Format) {p q : Nat} (h : units f p = units f q) : p = q :=
  Nat.le_antisymm (le_of_units f (Nat.le_of_eq h)) (le_of_units f (Nat.le_of_eq h.symm))

/-- The rung to which a magnitude is rounded, infinity's bound apart. -/
def rawRung (f : Format) (mag : Nat) (place : Int) : Nat :=
  if mag = 0 then 0 else
  let last := max (place + mag.log2 - f.fractionBits) f.leastPlace
  (last - f.leastPlace).toNat * f.binade + Toward.even.cut false (mag <<< (place - last).toNat) (last - place).toNat

theorem cut_neg (s t : Bool) (n d : Nat) : Toward.even.cut s n d = Toward.even.cut t n d := rfl

theorem nearest_eq (f : Format) (s : Bool) (mag : Nat) (place : Int) : f.nearest s mag place = f.word s (min (rawRung f mag place) f.infRung) := by
  unfold Format.nearest rawRung
  dsimp only
  split
  · simp
  · rfl

theorem pow_split (a b : Nat) : 2 ^ (a + b) = 2 ^ a * 2 ^ b := Nat.pow_add 2 a b

/-- The units of the rung to which it is rounded lie on the same side of every rung's units as the magnitude. -/
theorem raw_le (f : Format) (mag : Nat) (place : Int) (q : Nat) (h : mag * 2 ^ (place - f.leastPlace).toNat ≤ units f q * 2 ^ (f.leastPlace - place).toNat) : rawRung f mag place ≤ q := by
  have hB := binade_pos f
  unfold rawRung
  split
  · exact Nat.zero_le _
  · rename_i hm0
    dsimp only
    have hlo : 2 ^ mag.log2 ≤ mag := Nat.log2_self_le hm0
    have hhi : mag < 2 ^ (mag.log2 + 1) := Nat.lt_log2_self
    generalize mag.log2 = lg at *
    have hbin : f.binade = 2 ^ f.fractionBits := rfl
    generalize hfb : f.fractionBits = fb at *
    generalize hlp : f.leastPlace = lp at *
    obtain ⟨K, n, rfl, hn, hK⟩ := rung_form f q
    rw [units_at f K n (by omega) hK] at h
    generalize f.binade = B at *
    -- the last place
    by_cases hc : place + lg - fb ≤ lp
    · rw [Int.max_eq_right hc, Int.sub_self, Int.toNat_zero, Nat.zero_mul, Nat.zero_add]
      have h1 : Toward.even.cut false (mag <<< (place - lp).toNat) (lp - place).toNat ≤ n * 2 ^ K := cut_le _ _ _ _ (by rw [Nat.shiftLeft_eq]; exact h)
      -- what is kept stays below the second binade
      have h2 : Toward.even.cut false (mag <<< (place - lp).toNat) (lp - place).toNat ≤ 2 * B := by
        refine cut_le _ _ _ _ ?_
        rw [Nat.shiftLeft_eq, hbin]
        by_cases hp : lp ≤ place
        · rw [show (lp - place).toNat = 0 from by omega, Nat.pow_zero, Nat.mul_one]
          have : mag * 2 ^ (place - lp).toNat ≤ 2 ^ (lg + 1) * 2 ^ (place - lp).toNat := Nat.mul_le_mul_right _ (Nat.le_of_lt hhi)
          rw [← pow_split] at this
          have h3 : 2 ^ (lg + 1 + (place - lp).toNat) ≤ 2 ^ (fb + 1) := Nat.pow_le_pow_right (by omega) (by omega)
          rw [Nat.pow_succ 2 fb] at h3
          omega
        · rw [show (place - lp).toNat = 0 from by omega, Nat.pow_zero, Nat.mul_one]
          have h3 : 2 ^ (lg + 1) ≤ 2 ^ (fb + 1) * 2 ^ (lp - place).toNat := by rw [← pow_split]; exact Nat.pow_le_pow_right (by omega) (by omega)
          rw [Nat.pow_succ 2 fb, Nat.mul_comm (2 ^ fb) 2] at h3
          omega
      generalize Toward.even.cut false (mag <<< (place - lp).toNat) (lp - place).toNat = c at *
      rcases K with _ | K
      · simp at h1 ⊢; omega
      · have : B ≤ n := by omega
        rw [Nat.add_mul, Nat.one_mul]
        have : 0 ≤ K * B := Nat.zero_le _
        omega
    · -- a normal number
      have hc' : lp ≤ place + lg - fb := by omega
      rw [Int.max_eq_left hc']
      obtain ⟨L, hL⟩ : ∃ L : Nat, place + lg - fb - lp = L := ⟨(place + lg - fb - lp).toNat, by omega⟩
      rw [hL, Int.toNat_natCast]
      have hcut : ∀ j, mag * 2 ^ (place - lp).toNat ≤ j * 2 ^ L * 2 ^ (lp - place).toNat → Toward.even.cut false (mag <<< (place - (place + lg - fb)).toNat) (place + lg - fb - place).toNat ≤ j := by
        intro j hj
        refine cut_le _ _ _ _ ?_
        rw [Nat.shiftLeft_eq]
        by_cases hp : lp ≤ place
        · rw [show (lp - place).toNat = 0 from by omega, Nat.pow_zero, Nat.mul_one] at hj
          by_cases hfl : fb ≤ lg
          · rw [show (place - (place + lg - fb)).toNat = 0 from by omega, Nat.pow_zero, Nat.mul_one]
            have e : L = (place + lg - fb - place).toNat + (place - lp).toNat := by omega
            rw [e, pow_split, ← Nat.mul_assoc] at hj
            exact Nat.le_of_mul_le_mul_right hj (Nat.two_pow_pos _)
          · rw [show (place + lg - fb - place).toNat = 0 from by omega, Nat.pow_zero, Nat.mul_one]
            have e : (place - lp).toNat = (place - (place + lg - fb)).toNat + L := by omega
            rw [e, pow_split, ← Nat.mul_assoc] at hj
            exact Nat.le_of_mul_le_mul_right hj (Nat.two_pow_pos _)
        · rw [show (place - lp).toNat = 0 from by omega, Nat.pow_zero, Nat.mul_one] at hj
          rw [show (place - (place + lg - fb)).toNat = 0 from by omega, Nat.pow_zero, Nat.mul_one]
          have e : (place + lg - fb - place).toNat = L + (lp - place).toNat := by omega
          rw [e, pow_split, ← Nat.mul_assoc]; exact hj
      -- the magnitude is at least 2^fb units of this place
      have hlow : B * 2 ^ L * 2 ^ (lp - place).toNat ≤ mag * 2 ^ (place - lp).toNat := by
        rw [hbin, ← pow_split, ← pow_split]
        have : 2 ^ (fb + L + (lp - place).toNat) = 2 ^ lg * 2 ^ (place - lp).toNat := by rw [← pow_split]; congr 1; omega
        rw [this]
        exact Nat.mul_le_mul_right _ hlo
      have htop : mag * 2 ^ (place - lp).toNat ≤ 2 * B * 2 ^ L * 2 ^ (lp - place).toNat := by
        rw [hbin, show 2 * 2 ^ fb = 2 ^ (fb + 1) from by rw [Nat.pow_succ, Nat.mul_comm], ← pow_split, ← pow_split]
        have : 2 ^ (fb + 1 + L + (lp - place).toNat) = 2 ^ (lg + 1) * 2 ^ (place - lp).toNat := by rw [← pow_split]; congr 1; omega
        rw [this]
        exact Nat.mul_le_mul_right _ (Nat.le_of_lt hhi)
      have h2B := hcut (2 * B) htop
      by_cases hLK : L ≤ K
      · obtain ⟨d, rfl⟩ : ∃ d, K = L + d := ⟨K - L, by omega⟩
        have hj := hcut (n * 2 ^ d) (by rw [Nat.mul_assoc n, ← pow_split, Nat.add_comm d L]; exact h)
        generalize Toward.even.cut false (mag <<< (place - (place + lg - fb)).toNat) (place + lg - fb - place).toNat = c at *
        rcases d with _ | d
        · simp at hj ⊢; omega
        · have : B ≤ n := by omega
          have e : (L + (d + 1)) * B = L * B + d * B + B := by rw [Nat.add_mul, Nat.add_mul]; omega
          rw [e]
          have : 0 ≤ d * B := Nat.zero_le _
          omega
      · exfalso
        -- q lies in a lower binade
        have h3 : n * 2 ^ K * 2 ^ (lp - place).toNat < B * 2 ^ L * 2 ^ (lp - place).toNat := by
          refine Nat.mul_lt_mul_of_pos_right ?_ (Nat.two_pow_pos _)
          have e1 : n * 2 ^ K < 2 * B * 2 ^ K := Nat.mul_lt_mul_of_pos_right hn (Nat.two_pow_pos _)
          have e2 : 2 * B * 2 ^ K = B * 2 ^ (K + 1) := by rw [Nat.pow_succ, Nat.mul_comm 2 B, Nat.mul_assoc, Nat.mul_comm 2]
          have e3 : B * 2 ^ (K + 1) ≤ B * 2 ^ L := Nat.mul_le_mul_left _ (Nat.pow_le_pow_right (by omega) (by omega))
          omega
        omega

theorem le_raw (f : Format) (mag : Nat) (place : Int) (q : Nat) (h : units f q * 2 ^ (f.leastPlace - place).toNat ≤ mag * 2 ^ (place - f.leastPlace).toNat) : q ≤ rawRung f mag place := by
  have hB := binade_pos f
  by_cases hm0 : mag = 0
  · subst hm0
    rw [Nat.zero_mul] at h
    have h0 : units f q = 0 := by
      rcases Nat.eq_zero_or_pos (units f q) with h1 | h1
      · exact h1
      · have := Nat.mul_pos h1 (Nat.two_pow_pos (f.leastPlace - place).toNat); omega
    have h00 : units f 0 = 0 := by unfold units; rw [if_pos hB]
    rw [units_inj f (h0.trans h00.symm)]; exact Nat.zero_le _
  · unfold rawRung
    rw [if_neg hm0]
    dsimp only
    have hlo : 2 ^ mag.log2 ≤ mag := Nat.log2_self_le hm0
    have hhi : mag < 2 ^ (mag.log2 + 1) := Nat.lt_log2_self
    generalize mag.log2 = lg at *
    have hbin : f.binade = 2 ^ f.fractionBits := rfl
    generalize hfb : f.fractionBits = fb at *
    generalize hlp : f.leastPlace = lp at *
    obtain ⟨K, n, rfl, hn, hK⟩ := rung_form f q
    rw [units_at f K n (by omega) hK] at h
    generalize f.binade = B at *
    by_cases hc : place + lg - fb ≤ lp
    · rw [Int.max_eq_right hc, Int.sub_self, Int.toNat_zero, Nat.zero_mul, Nat.zero_add]
      have h1 : n * 2 ^ K ≤ Toward.even.cut false (mag <<< (place - lp).toNat) (lp - place).toNat := le_cut _ _ _ _ (by rw [Nat.shiftLeft_eq]; exact h)
      refine Nat.le_trans ?_ h1
      rcases K with _ | K
      · simp
      · have hnB : B ≤ n := by omega
        -- K + 1 ≤ 2^(K+1) - 1, and n is a binade at least
        have h2 : K + 2 ≤ 2 ^ (K + 1) := by
          clear h1 h hK hc
          induction K with
          | zero => decide
          | succ K ih => rw [Nat.pow_succ]; omega
        have h3 : n * (K + 2) ≤ n * 2 ^ (K + 1) := Nat.mul_le_mul_left _ h2
        have h4 : (K + 1) * B ≤ (K + 1) * n := Nat.mul_le_mul_left _ hnB
        have h5 : n * (K + 2) = (K + 1) * n + n := by rw [Nat.mul_add, Nat.mul_comm n K, Nat.add_mul]; omega
        omega
    · have hc' : lp ≤ place + lg - fb := by omega
      rw [Int.max_eq_left hc']
      obtain ⟨L, hL⟩ : ∃ L : Nat, place + lg - fb - lp = L := ⟨(place + lg - fb - lp).toNat, by omega⟩
      rw [hL, Int.toNat_natCast]
      have hcut : ∀ j, j * 2 ^ L * 2 ^ (lp - place).toNat ≤ mag * 2 ^ (place - lp).toNat → j ≤ Toward.even.cut false (mag <<< (place - (place + lg - fb)).toNat) (place + lg - fb - place).toNat := by
        intro j hj
        refine le_cut _ _ _ _ ?_
        rw [Nat.shiftLeft_eq]
        by_cases hp : lp ≤ place
        · rw [show (lp - place).toNat = 0 from by omega, Nat.pow_zero, Nat.mul_one] at hj
          by_cases hfl : fb ≤ lg
          · rw [show (place - (place + lg - fb)).toNat = 0 from by omega, Nat.pow_zero, Nat.mul_one]
            have e : L = (place + lg - fb - place).toNat + (place - lp).toNat := by omega
            rw [e, pow_split, ← Nat.mul_assoc] at hj
            exact Nat.le_of_mul_le_mul_right hj (Nat.two_pow_pos _)
          · rw [show (place + lg - fb - place).toNat = 0 from by omega, Nat.pow_zero, Nat.mul_one]
            have e : (place - lp).toNat = (place - (place + lg - fb)).toNat + L := by omega
            rw [e, pow_split, ← Nat.mul_assoc] at hj
            exact Nat.le_of_mul_le_mul_right hj (Nat.two_pow_pos _)
        · rw [show (place - lp).toNat = 0 from by omega, Nat.pow_zero, Nat.mul_one] at hj
          rw [show (place - (place + lg - fb)).toNat = 0 from by omega, Nat.pow_zero, Nat.mul_one]
          have e : (place + lg - fb - place).toNat = L + (lp - place).toNat := by omega
          rw [e, pow_split, ← Nat.mul_assoc]; exact hj
      have hlow : B * 2 ^ L * 2 ^ (lp - place).toNat ≤ mag * 2 ^ (place - lp).toNat := by
        rw [hbin, ← pow_split, ← pow_split]
        have : 2 ^ (fb + L + (lp - place).toNat) = 2 ^ lg * 2 ^ (place - lp).toNat := by rw [← pow_split]; congr 1; omega
        rw [this]
        exact Nat.mul_le_mul_right _ hlo
      have htop : mag * 2 ^ (place - lp).toNat < 2 * B * 2 ^ L * 2 ^ (lp - place).toNat := by
        rw [hbin, show 2 * 2 ^ fb = 2 ^ (fb + 1) from by rw [Nat.pow_succ, Nat.mul_comm], ← pow_split, ← pow_split]
        have : 2 ^ (fb + 1 + L + (lp - place).toNat) = 2 ^ (lg + 1) * 2 ^ (place - lp).toNat := by rw [← pow_split]; congr 1; omega
        rw [this]
        exact Nat.mul_lt_mul_of_pos_right hhi (Nat.two_pow_pos _)
      have hB1 := hcut B hlow
      by_cases hKL : K ≤ L
      · by_cases hKL' : K = L
        · subst hKL'
          have := hcut n h
          omega
        · -- q lies in a lower binade
          have : (K + 1) * B ≤ L * B := Nat.mul_le_mul_right _ (by omega)
          rw [Nat.add_mul] at this
          omega
      · exfalso
        have hnB : B ≤ n := by omega
        have h3 : 2 * B * 2 ^ L * 2 ^ (lp - place).toNat ≤ n * 2 ^ K * 2 ^ (lp - place).toNat := by
          refine Nat.mul_le_mul_right _ ?_
          have e2 : 2 * B * 2 ^ L = B * 2 ^ (L + 1) := by rw [Nat.pow_succ, Nat.mul_comm 2 B, Nat.mul_assoc, Nat.mul_comm 2]
          rw [e2]
          exact Nat.mul_le_mul hnB (Nat.pow_le_pow_right (by omega) (by omega))
        omega

/-- A magnitude that is some rung's is kept. -/
theorem raw_exact (f : Format) (mag : Nat) (place : Int) (q : Nat) (h : mag * 2 ^ (place - f.leastPlace).toNat = units f q * 2 ^ (f.leastPlace - place).toNat) : rawRung f mag place = q :=
  Nat.le_antisymm (raw_le f mag place q (Nat.le_of_eq h)) (le_raw f mag place q (Nat.le_of_eq h.symm))

theorem nearest_exact (f : Format) (s : Bool) (mag : Nat) (place : Int) (q : Nat) (hq : q ≤ f.infRung) (h : mag * 2 ^ (place - f.leastPlace).toNat = units f q * 2 ^ (f.leastPlace - place).toNat) : f.nearest s mag place = f.word s q := by
  rw [nearest_eq, raw_exact f mag place q h, Nat.min_eq_left hq]
end Go.Proofs.YtdbcajiagjeplaaDoor.near
