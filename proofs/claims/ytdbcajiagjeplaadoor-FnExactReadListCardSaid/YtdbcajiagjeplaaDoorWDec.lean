/- The reference's decimal text. -/
import Derived.Test.YtdbcajiagjeplaaDoorWin
import Derived.Test.YtdbcajiagjeplaaDoorToInts
import Derived.Lib.ItoaNum
import Derived.Laws.IdiomStrings
set_option linter.unusedVariables false
set_option linter.unusedSimpArgs false
namespace Go.Proofs.YtdbcajiagjeplaaDoor
open Go.RowKit

def bytev (b : UInt8) : Value := .int .u8 (b.toNat : Int)
def bytesV (l : List UInt8) : List Value := l.map bytev
theorem bytesV_len (l : List UInt8) : (bytesV l).length = l.length := by simp [bytesV]
theorem bytesV_cell (l : List UInt8) : ∀ u ∈ bytesV l, u.oneCell' = true := by
  intro u hu
  obtain ⟨b, _, rfl⟩ := List.mem_map.1 hu
  rfl
theorem info_byte : (Tryd.prog.info? 5).map (fun i => (i.zero, i.size, i.bytes)) = some (some (.int .u8 0), 1, 1) := by kernel_rfl

theorem digit_byte : ∀ d : Nat, d < 10 → IntKind.u8.wrap (48 + (d : Int)) = ((UInt8.ofNat (48 + d)).toNat : Int) := by decide +kernel
theorem tdiv_cases (rest : Int) : (0 ≤ rest ∧ 0 ≤ rest.tdiv 10 ∧ rest.tdiv 10 = ((rest.natAbs / 10 : Nat) : Int) ∧ rest.tmod 10 = ((rest.natAbs % 10 : Nat) : Int)) ∨
    (rest < 0 ∧ rest.tdiv 10 ≤ 0 ∧ rest.tdiv 10 = -((rest.natAbs / 10 : Nat) : Int) ∧ rest.tmod 10 = -((rest.natAbs % 10 : Nat) : Int)) := by
  rcases Int.lt_or_le rest 0 with h | h
  · right
    obtain ⟨m, rfl⟩ : ∃ m : Nat, rest = -(m : Int) := ⟨rest.natAbs, by omega⟩
    have e1 : (-(m : Int)).tdiv 10 = -((m / 10 : Nat) : Int) := by rw [Int.neg_tdiv]; rfl
    have e2 : (-(m : Int)).tmod 10 = -((m % 10 : Nat) : Int) := by rw [Int.neg_tmod]; rfl
    have e3 : (-(m : Int)).natAbs = m := by omega
    rw [e1, e2, e3]
    exact ⟨h, by omega, rfl, rfl⟩
  · left
    obtain ⟨m, rfl⟩ := Int.eq_ofNat_of_zero_le h
    have e1 : ((m : Int)).tdiv 10 = ((m / 10 : Nat) : Int) := rfl
    have e2 : ((m : Int)).tmod 10 = ((m % 10 : Nat) : Int) := rfl
    have e3 : ((m : Int)).natAbs = m := by omega
    rw [e1, e2, e3]
    exact ⟨h, by omega, rfl, rfl⟩
theorem nDigits_le : ∀ (u k : Nat), 0 < k → u < 10 ^ k → Lib.nDigits u ≤ k
  | u, 0, h, _ => by omega
  | u, 1, _, h => by rw [Lib.nDigits_small (by omega)]; omega
  | u, k + 2, _, h => by
    rw [Lib.nDigits]
    split
    · omega
    · have : u < 10 ^ (k + 1) * 10 := by rw [← Nat.pow_succ]; exact h
      have := nDigits_le (u / 10) (k + 1) (by omega) (by omega)
      omega
/-- What is still to be written ahead of l. -/
structure Dec (n : Int) (rest : Int) (l : List UInt8) : Prop where
  sign : rest ≤ 0 ∧ n ≤ 0 ∨ 0 ≤ rest ∧ 0 ≤ n
  le : rest.natAbs ≤ n.natAbs
  out : (if l ≠ [] ∧ rest = 0 then [] else Lib.decDigits rest.natAbs) ++ l = Lib.decDigits n.natAbs
theorem Dec.start (n : Int) : Dec n n [] := ⟨by omega, Nat.le_refl _, by simp⟩
theorem Dec.step {n rest : Int} {l : List UInt8} (h : Dec n rest l) (hne : l = [] ∨ rest ≠ 0) : Dec n (rest.tdiv 10) (UInt8.ofNat (48 + rest.natAbs % 10) :: l) := by
  have hq : (rest.tdiv 10).natAbs = rest.natAbs / 10 ∧ (rest.tdiv 10 = 0 ↔ rest.natAbs < 10) := by
    rcases tdiv_cases rest with ⟨_, _, h1, _⟩ | ⟨_, _, h1, _⟩ <;> rw [h1] <;> omega
  refine ⟨?_, by rw [hq.1]; have := h.le; omega, ?_⟩
  · have hs := h.sign
    rcases tdiv_cases rest with ⟨h0, h1, h2, _⟩ | ⟨h0, h1, h2, _⟩
    · rcases hs with ⟨h3, h4⟩ | ⟨h3, h4⟩
      · left; have : rest = 0 := by omega
        subst this; exact ⟨by decide, h4⟩
      · exact .inr ⟨h1, h4⟩
    · rcases hs with ⟨h3, h4⟩ | ⟨h3, h4⟩
      · exact .inl ⟨h1, h4⟩
      · omega
  · have hno : ¬ (l ≠ [] ∧ rest = 0) := by
      rintro ⟨h1, h2⟩
      rcases hne with h3 | h3
      · exact h1 h3
      · exact h3 h2
    have ho := h.out
    rw [if_neg hno] at ho
    rw [← ho, hq.1]
    by_cases h10 : rest.natAbs < 10
    · rw [if_pos ⟨by simp, hq.2.2 h10⟩, Lib.decDigits_one h10, Nat.mod_eq_of_lt h10]; rfl
    · rw [if_neg (fun h => h10 (hq.2.1 h.2))]
      conv => rhs; rw [Lib.decDigits, dif_neg h10]
      simp
/-- No more than twenty digits. -/
theorem Dec.len {n rest : Int} {l : List UInt8} (h : Dec n rest l) (hn : n.natAbs < 10000000000000000000) : l.length ≤ 19 := by
  have h1 := congrArg List.length h.out
  rw [List.length_append, Lib.decDigits_length] at h1
  have := nDigits_le n.natAbs 19 (by omega) (by simpa using hn)
  omega
end Go.Proofs.YtdbcajiagjeplaaDoor
