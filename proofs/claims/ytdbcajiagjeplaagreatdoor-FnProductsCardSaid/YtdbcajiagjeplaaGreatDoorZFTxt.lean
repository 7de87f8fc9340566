/- Texts joined by commas. -/
import Derived.Test.YtdbcajiagjeplaaGreatDoorZFCut
import Derived.Lib.Join
set_option linter.unusedVariables false
set_option linter.unusedSimpArgs false
namespace Go.Proofs.YtdbcajiagjeplaaGreatDoor
open Go.Lib

/-- The texts g 0 .. g k with commas between them. -/
def txG (g : Nat → List UInt8) : Nat → List UInt8
  | 0 => g 0
  | k + 1 => txG g k ++ 44 :: g (k + 1)
def txGL (g : Nat → List UInt8) (n : Nat) : List UInt8 := match n with | 0 => [110, 111, 110, 101] | k + 1 => txG g k
theorem txG_len {g : Nat → List UInt8} {m : Nat} : ∀ {k : Nat}, (∀ j, j ≤ k → (g j).length ≤ m) → (txG g k).length ≤ (m + 1) * (k + 1)
  | 0, h => by
    have := h 0 (Nat.le_refl _)
    show (g 0).length ≤ _
    omega
  | k + 1, h => by
    have ih := txG_len (k := k) (fun j hj => h j (by omega))
    have := h (k + 1) (Nat.le_refl _)
    show (txG g k ++ 44 :: g (k + 1)).length ≤ _
    rw [List.length_append, List.length_cons, Nat.mul_succ (m + 1) (k + 1)]
    omega
theorem joinTail_on (sep : List UInt8) (r : List (List UInt8)) (x : List UInt8) : joinTail sep (r ++ [x]) = joinTail sep r ++ (sep ++ x) := by simp [joinTail]
theorem join_txG (g : Nat → List UInt8) : ∀ k : Nat, join ((List.range (k + 1)).map g) [44] = txG g k := by
  have key : ∀ k : Nat, joinTail [44] ((List.range k).map fun j => g (j + 1)) = (txG g k).drop (g 0).length ∧ txG g k = g 0 ++ (txG g k).drop (g 0).length := by
    intro k
    induction k with
    | zero => simp [joinTail, txG]
    | succ k ih =>
      have e : txG g (k + 1) = g 0 ++ ((txG g k).drop (g 0).length ++ 44 :: g (k + 1)) := by
        show txG g k ++ 44 :: g (k + 1) = _
        rw [← List.append_assoc, ← ih.2]
      have e2 : (txG g (k + 1)).drop (g 0).length = (txG g k).drop (g 0).length ++ 44 :: g (k + 1) := by
        rw [e, List.drop_left]
      refine ⟨?_, by rw [e2]; exact e⟩
      rw [List.range_succ, List.map_append, List.map_cons, List.map_nil, joinTail_on, ih.1, e2]
      rfl
  intro k
  rw [List.range_succ_eq_map, List.map_cons, join_cons, List.map_map, (key k).2, ← (key k).1]
  rfl
/-- Texts without commas, joined by commas and cut at them. -/
theorem cuts_app : ∀ (a b : List UInt8), (∀ c ∈ a, c ≠ 44) → cuts (a ++ 44 :: b) = a :: cuts b
  | [], b, _ => by simp [cuts]
  | c :: a, b, h => by
    have hc : c ≠ 44 := h c (by simp)
    have ih := cuts_app a b (fun x hx => h x (by simp [hx]))
    rw [List.cons_append, cuts, if_neg hc, ih]
theorem cuts_txG_aux (g : Nat → List UInt8) (hg : ∀ j, ∀ c ∈ g j, c ≠ 44) : ∀ (k : Nat) (b : List UInt8), cuts (txG g k ++ 44 :: b) = (List.range (k + 1)).map g ++ cuts b
  | 0, b => by rw [show txG g 0 = g 0 from rfl, cuts_app _ _ (hg 0)]; rfl
  | k + 1, b => by
    rw [show txG g (k + 1) = txG g k ++ 44 :: g (k + 1) from rfl, List.append_assoc, List.cons_append, cuts_txG_aux g hg k, cuts_app _ _ (hg (k + 1)), List.range_succ (n := k + 1), List.map_append]
    simp
theorem cuts_txG (g : Nat → List UInt8) (hg : ∀ j, ∀ c ∈ g j, c ≠ 44) : ∀ k, cuts (txG g k) = (List.range (k + 1)).map g
  | 0 => cuts_miss _ (fun j h => hg 0 44 (List.mem_of_getElem? h) rfl)
  | k + 1 => by
    rw [show txG g (k + 1) = txG g k ++ 44 :: g (k + 1) from rfl, cuts_txG_aux g hg k, cuts_miss _ (fun j h => hg (k + 1) 44 (List.mem_of_getElem? h) rfl), List.range_succ (n := k + 1), List.map_append]
    rfl
end Go.Proofs.YtdbcajiagjeplaaGreatDoor
