/- IsName: both sides, and the law. -/
import Derived.Test.YtdbcajiagjeplaaDoorWIn
import Derived.Test.YtdbcajiagjeplaaDoorShelfT
set_option linter.unusedVariables false
set_option linter.unusedSimpArgs false
namespace Go.Proofs.YtdbcajiagjeplaaDoor
open Go.RowKit

def letters : List UInt8 := [97, 98, 99, 100, 101, 102, 103, 104, 105, 106, 107, 108, 109, 110, 111, 112, 113, 114, 115, 116, 117, 118, 119, 120, 121, 122]
theorem in_letters : ∀ n : Nat, n < 256 → letters.contains (UInt8.ofNat n) = decide (97 ≤ n ∧ n ≤ 122) := by decide +kernel
theorem letter_iff (c : UInt8) : letters.contains c = decide (97 ≤ c.toNat ∧ c.toNat ≤ 122) := by
  have := in_letters c.toNat c.toNat_lt
  rwa [UInt8.ofNat_toNat] at this
def isName (l : List UInt8) : Bool := decide (1 ≤ l.length) && decide (l.length ≤ 8) && l.all fun c => letters.contains c
theorem all_of_drop (p : UInt8 → Bool) : ∀ l : List UInt8, (l.dropWhile p).all p = true → l.all p = true
  | [], _ => rfl
  | a :: l, h => by
    rw [List.dropWhile_cons] at h
    split at h
    · rename_i ha
      rw [List.all_cons, ha, Bool.true_and]
      exact all_of_drop p l h
    · exact h
theorem drop_of_all (p : UInt8 → Bool) : ∀ l : List UInt8, l.all p = true → l.dropWhile p = []
  | [], _ => rfl
  | a :: l, h => by
    rw [List.all_cons, Bool.and_eq_true] at h
    rw [List.dropWhile_cons, if_pos h.1]
    exact drop_of_all p l h.2
theorem trim_nil (l : List UInt8) : (Lib.trimS l letters = []) ↔ (l.all fun c => letters.contains c) = true := by
  unfold Lib.trimS Lib.trimLeftS Lib.trimRightS
  constructor
  · intro h
    have h1 := all_of_drop (fun c => letters.contains c) _ (show ((((l.reverse.dropWhile (letters.contains ·)).reverse).dropWhile (letters.contains ·)).all fun c => letters.contains c) = true from by rw [h]; rfl)
    rw [List.all_reverse] at h1
    have h2 := all_of_drop (fun c => letters.contains c) _ h1
    rwa [List.all_reverse] at h2
  · intro h
    rw [drop_of_all (fun c => letters.contains c) l.reverse (by rw [List.all_reverse]; exact h)]
    rfl
end Go.Proofs.YtdbcajiagjeplaaDoor
