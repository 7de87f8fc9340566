/- Hexadecimal numerals. -/
import Derived.Test.YtdbcajiagjeplaaGreatDoorZBase
import Derived.Lib.Repeat
set_option linter.unusedVariables false
set_option linter.unusedSimpArgs false
namespace Go.Proofs.YtdbcajiagjeplaaGreatDoor

/-- A hexadecimal digit. -/
def hdig (d : Nat) : UInt8 := ([48, 49, 50, 51, 52, 53, 54, 55, 56, 57, 97, 98, 99, 100, 101, 102] : List UInt8).getD d 0
/-- A number's hexadecimal numeral. -/
def hexU (n : Nat) : List UInt8 := if _h : n < 16 then [hdig n] else hexU (n / 16) ++ [hdig (n % 16)]
termination_by n
decreasing_by omega
/-- The last k hexadecimal digits of a number. -/
def hexN : Nat → Nat → List UInt8
  | 0, _ => []
  | k + 1, n => hexN k (n / 16) ++ [hdig (n % 16)]
theorem hexN_len : ∀ k n, (hexN k n).length = k
  | 0, _ => rfl
  | k + 1, n => by simp [hexN, hexN_len k]
theorem hexN_zero : ∀ k, hexN k 0 = List.replicate k 48
  | 0 => rfl
  | k + 1 => by
    show hexN k (0 / 16) ++ [hdig (0 % 16)] = _
    rw [Nat.zero_div, hexN_zero k, List.replicate_succ']
    rfl
theorem hexU_small {n : Nat} (h : n < 16) : hexU n = [hdig n] := by rw [hexU, dif_pos h]
theorem hexU_big {n : Nat} (h : ¬ n < 16) : hexU n = hexU (n / 16) ++ [hdig (n % 16)] := by rw [hexU, dif_neg h]
theorem hexU_pad : ∀ (k n : Nat), n < 16 ^ (k + 1) → 1 ≤ (hexU n).length ∧ (hexU n).length ≤ k + 1 ∧ List.replicate (k + 1 - (hexU n).length) 48 ++ hexU n = hexN (k + 1) n := by
  intro k
  induction k with
  | zero =>
    intro n h
    have h16 : n < 16 := by simpa using h
    rw [hexU_small h16]
    refine ⟨by simp, by simp, ?_⟩
    simp [hexN, Nat.mod_eq_of_lt h16]
  | succ k ih =>
    intro n h
    by_cases h16 : n < 16
    · rw [hexU_small h16]
      refine ⟨by simp, by simp, ?_⟩
      show List.replicate (k + 1 + 1 - 1) 48 ++ [hdig n] = hexN (k + 1) (n / 16) ++ [hdig (n % 16)]
      rw [Nat.div_eq_of_lt h16, Nat.mod_eq_of_lt h16, hexN_zero]
      rfl
    · obtain ⟨h1, h2, h3⟩ := ih (n / 16) (by rw [Nat.pow_succ] at h; omega)
      rw [hexU_big h16]
      refine ⟨by simp, by simp; omega, ?_⟩
      show _ = hexN (k + 1) (n / 16) ++ [hdig (n % 16)]
      rw [← h3, ← List.append_assoc]
      congr 3
      simp
theorem hexN_step (j n : Nat) (h : j < 8) : hexN (j + 1) (n / 16 ^ (7 - j)) = hexN j (n / 16 ^ (8 - j)) ++ [hdig (n / 16 ^ (7 - j) % 16)] := by
  show hexN j (n / 16 ^ (7 - j) / 16) ++ _ = _
  rw [Nat.div_div_eq_div_mul, show 16 ^ (7 - j) * 16 = 16 ^ (8 - j) by rw [← Nat.pow_succ]; congr 1; omega]
end Go.Proofs.YtdbcajiagjeplaaGreatDoor
