/- Decimal texts are read back. -/
import Derived.Test.YtdbcajiagjeplaaDoorWDec
import Derived.Lib.ParseIntB
set_option linter.unusedVariables false
set_option linter.unusedSimpArgs false
namespace Go.Proofs.YtdbcajiagjeplaaDoor
open Go.RowKit Go.Lib

theorem dig_toNat (d : Nat) (h : d < 10) : (UInt8.ofNat (48 + d)).toNat = 48 + d := by simp [UInt8.toNat_ofNat']; omega
theorem dec_all : ∀ (u : Nat), ∀ c ∈ decDigits u, 48 ≤ c.toNat ∧ c.toNat ≤ 57 := by
  intro u
  induction u using Nat.strongRecOn with
  | ind u ih =>
    intro c hc
    rw [decDigits] at hc
    split at hc
    · rename_i h
      simp only [List.mem_singleton] at hc
      subst hc
      rw [dig_toNat _ h]; omega
    · rename_i h
      rcases List.mem_append.1 hc with h1 | h1
      · exact ih (u / 10) (by omega) c h1
      · simp only [List.mem_singleton] at h1
        subst h1
        rw [dig_toNat _ (Nat.mod_lt _ (by decide))]; omega
theorem dec_parse (M : Nat) (hM : M ≤ 18446744073709551615) : ∀ (u : Nat), u ≤ M → ∀ r, parseUintM M 0 (decDigits u ++ r) = parseUintM M u r := by
  intro u
  induction u using Nat.strongRecOn with
  | ind u ih =>
    intro hu r
    rw [decDigits]
    split
    · rename_i h
      show parseUintM M 0 (UInt8.ofNat (48 + u) :: r) = _
      conv => lhs; unfold parseUintM
      rw [dig_toNat _ h, if_pos (by omega), if_neg (by omega), if_neg (by omega)]
      congr 1; omega
    · rename_i h
      rw [List.append_assoc, ih (u / 10) (by omega) (by omega)]
      show parseUintM M (u / 10) (UInt8.ofNat (48 + u % 10) :: r) = _
      conv => lhs; unfold parseUintM
      rw [dig_toNat _ (Nat.mod_lt _ (by decide)), if_pos (by omega), if_neg (by omega), if_neg (by omega)]
      congr 1; omega
/-- What the reference's loop makes of a byte. -/
def digF (acc : Nat) (c : UInt8) : Nat := if 48 ≤ c.toNat ∧ c.toNat ≤ 57 then 10 * acc + (c.toNat - 48) else acc
theorem dec_fold : ∀ (u : Nat), (decDigits u).foldl digF 0 = u := by
  intro u
  induction u using Nat.strongRecOn with
  | ind u ih =>
    rw [decDigits]
    split
    · rename_i h
      show digF 0 (UInt8.ofNat (48 + u)) = u
      unfold digF
      rw [dig_toNat _ h, if_pos (by omega)]; omega
    · rename_i h
      rw [List.foldl_append, ih (u / 10) (by omega)]
      show digF (u / 10) (UInt8.ofNat (48 + u % 10)) = u
      unfold digF
      rw [dig_toNat _ (Nat.mod_lt _ (by decide)), if_pos (by omega)]; omega
theorem dec_head (u : Nat) : ∃ c r, decDigits u = c :: r ∧ 48 ≤ c.toNat ∧ c.toNat ≤ 57 := by
  cases h : decDigits u with
  | nil =>
    have := congrArg List.length h
    rw [decDigits_length] at this
    rw [Lib.nDigits] at this
    split at this <;> simp at this
  | cons c r =>
    have := dec_all u c (by rw [h]; simp)
    exact ⟨c, r, rfl, this.1, this.2⟩
theorem p63 : 2 ^ (64 - 1) = 9223372036854775808 := by decide
theorem parse_itoa (n : Int) (h0 : -9223372036854775808 ≤ n) (h1 : n ≤ 9223372036854775807) : parseIntB 64 (itoa n) = .ok n := by
  unfold itoa
  by_cases hn : n < 0
  · rw [if_pos hn]
    obtain ⟨c, r, hc, _, _⟩ := dec_head n.natAbs
    have hp := dec_parse 18446744073709551615 (Nat.le_refl _) n.natAbs (by omega) []
    rw [List.append_nil] at hp
    have hu : parseUintB 64 (decDigits n.natAbs) = .ok n.natAbs := by
      unfold parseUintB
      rw [if_neg (by rw [hc]; simp)]
      exact hp
    unfold parseIntB
    have e : (if ((45 : UInt8).toNat = 43 ∨ (45 : UInt8).toNat = 45) then decDigits n.natAbs else 45 :: decDigits n.natAbs) = decDigits n.natAbs := by rw [if_pos (by decide)]
    simp only [e, hu]
    rw [p63, if_neg (fun h => h.1 (by decide)), if_neg (fun h => by have := h.2; omega), if_pos (by decide)]
    congr 1; omega
  · rw [if_neg hn]
    obtain ⟨c, r, hc, hc1, hc2⟩ := dec_head n.toNat
    have hp := dec_parse 18446744073709551615 (Nat.le_refl _) n.toNat (by omega) []
    rw [List.append_nil] at hp
    have hu : parseUintB 64 (decDigits n.toNat) = .ok n.toNat := by
      unfold parseUintB
      rw [if_neg (by rw [hc]; simp)]
      exact hp
    rw [hc] at hu ⊢
    unfold parseIntB
    have e : (if (c.toNat = 43 ∨ c.toNat = 45) then r else c :: r) = c :: r := by rw [if_neg (by omega)]
    simp only [e, hu]
    rw [p63, if_neg (fun h => by have := h.2; omega), if_neg (fun h => by have := h.1; omega), if_neg (by omega)]
    congr 1; omega
theorem itoa_inj {n m : Int} (hn : -9223372036854775808 ≤ n ∧ n ≤ 9223372036854775807) (hm : -9223372036854775808 ≤ m ∧ m ≤ 9223372036854775807) (h : itoa n = itoa m) : n = m := by
  have h1 := parse_itoa n hn.1 hn.2
  rw [h, parse_itoa m hm.1 hm.2] at h1
  exact (NumEnd.ok.inj h1).symm
/-- What the reference reads, if it reads anything. -/
def readZ (l : List UInt8) : Int := if l.head? = some 45 then -((l.foldl digF 0 : Nat) : Int) else (l.foldl digF 0 : Nat)
theorem readZ_itoa (n : Int) : readZ (itoa n) = n := by
  unfold itoa readZ
  by_cases hn : n < 0
  · rw [if_pos hn, if_pos (by simp)]
    have : (45 :: decDigits n.natAbs).foldl digF 0 = (decDigits n.natAbs).foldl digF 0 := rfl
    rw [this, dec_fold]; omega
  · rw [if_neg hn]
    obtain ⟨c, r, hc, h1, h2⟩ := dec_head n.toNat
    rw [if_neg (by rw [hc]; intro h; simp at h; rw [h] at h1; revert h1; decide), dec_fold]; omega
theorem itoa_len (n : Int) (h0 : -1000000000000000 ≤ n) (h1 : n ≤ 1000000000000000) : 1 ≤ (itoa n).length ∧ (itoa n).length ≤ 17 := by
  have hl : ∀ u : Nat, u ≤ 1000000000000000 → 1 ≤ (decDigits u).length ∧ (decDigits u).length ≤ 16 := by
    intro u hu
    rw [decDigits_length]
    have := nDigits_le u 16 (by omega) (by omega)
    refine ⟨?_, this⟩
    rw [Lib.nDigits]; split <;> omega
  unfold itoa
  by_cases hn : n < 0
  · rw [if_pos hn, List.length_cons]
    have := hl n.natAbs (by omega)
    omega
  · rw [if_neg hn]
    have := hl n.toNat (by omega)
    omega
theorem fold_bound : ∀ (l : List UInt8) (a k : Nat), a < 10 ^ k → l.foldl digF a < 10 ^ (k + l.length)
  | [], a, k, h => h
  | c :: r, a, k, h => by
    have h1 : digF a c < 10 ^ (k + 1) := by
      unfold digF
      rw [Nat.pow_succ]
      split <;> omega
    have := fold_bound r (digF a c) (k + 1) h1
    rw [List.length_cons, show k + (r.length + 1) = k + 1 + r.length from by omega]
    exact this
end Go.Proofs.YtdbcajiagjeplaaDoor
