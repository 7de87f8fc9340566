/- A list read of a text's pieces. -/
import Derived.Test.YtdbcajiagjeplaaGreatDoorZFCut
set_option linter.unusedVariables false
set_option linter.unusedSimpArgs false
namespace Go.Proofs.YtdbcajiagjeplaaGreatDoor

/-- The list of a text, by what a piece is. -/
def listG {α : Type} (dec : List UInt8 → Option α) (most : Nat) (l : List UInt8) : Option (List α) :=
  if l = [110, 111, 110, 101] then some [] else if (cuts l).length ≤ most ∧ (cuts l).all (fun p => (dec p).isSome) = true then some ((cuts l).filterMap dec) else none
/-- The pieces up to i have been read. -/
def RdTo {α : Type} (dec : List UInt8 → Option α) (ps : List (List UInt8)) (i : Nat) (done : List α) : Prop := i ≤ ps.length ∧ (ps.take i).map dec = done.map some
section
variable {α : Type} {dec : List UInt8 → Option α} {ps : List (List UInt8)} {i : Nat} {done : List α}
theorem RdTo.start : RdTo dec ps 0 [] := ⟨by omega, by simp⟩
theorem RdTo.len (h : RdTo dec ps i done) : done.length = i := by
  have h1 := congrArg List.length h.2
  have h2 := h.1
  simp at h1
  omega
theorem RdTo.on (h : RdTo dec ps i done) (hi : i < ps.length) {n : α} (hn : dec ps[i] = some n) : RdTo dec ps (i + 1) (done ++ [n]) := by
  refine ⟨by omega, ?_⟩
  rw [List.take_add_one, List.map_append, h.2, List.getElem?_eq_getElem hi, List.map_append]
  simp [hn]
theorem all_no (hi : i < ps.length) (hn : dec ps[i] = none) : ps.all (fun p => (dec p).isSome) = false := by
  rw [List.all_eq_false]
  exact ⟨ps[i], List.getElem_mem hi, by rw [hn]; simp⟩
theorem filterMap_of : ∀ {ps : List (List UInt8)} {done : List α}, ps.map dec = done.map some → ps.filterMap dec = done
  | [], [], _ => rfl
  | [], a :: d, h => by simp at h
  | p :: ps, [], h => by simp at h
  | p :: ps, a :: d, h => by
    simp only [List.map_cons, List.cons.injEq] at h
    rw [List.filterMap_cons, h.1, filterMap_of h.2]
theorem RdTo.fin (h : RdTo dec ps i done) (hi : ¬ i < ps.length) : ps.all (fun p => (dec p).isSome) = true ∧ ps.filterMap dec = done := by
  have h1 := h.2
  rw [List.take_of_length_le (by omega)] at h1
  refine ⟨?_, filterMap_of h1⟩
  rw [List.all_eq_true]
  intro p hp
  have : dec p ∈ done.map some := by rw [← h1]; exact List.mem_map_of_mem hp
  obtain ⟨a, _, ha⟩ := List.mem_map.1 this
  rw [← ha]; rfl
theorem listG_none {most : Nat} {l : List UInt8} (h : l = [110, 111, 110, 101]) : listG dec most l = some [] := by unfold listG; rw [if_pos h]
theorem listG_no {most : Nat} {l : List UInt8} (h : ¬ l = [110, 111, 110, 101]) (h2 : ¬ (cuts l).length ≤ most ∨ (cuts l).all (fun p => (dec p).isSome) = false) : listG dec most l = none := by
  unfold listG; rw [if_neg h, if_neg (by rintro ⟨h3, h4⟩; rcases h2 with h2 | h2; exact h2 h3; rw [h2] at h4; cases h4)]
theorem listG_yes {most : Nat} {l : List UInt8} (h : ¬ l = [110, 111, 110, 101]) (h1 : (cuts l).length ≤ most) (hr : RdTo dec (cuts l) i done) (hi : ¬ i < (cuts l).length) : listG dec most l = some done := by
  obtain ⟨h3, h4⟩ := hr.fin hi
  unfold listG; rw [if_neg h, if_pos ⟨h1, h3⟩, h4]
theorem listG_len {most : Nat} (l : List UInt8) : ((listG dec most l).getD []).length ≤ most := by
  unfold listG
  split
  · simp
  · split
    · rename_i h
      have := List.length_filterMap_le dec (cuts l)
      simp
      omega
    · simp
end
end Go.Proofs.YtdbcajiagjeplaaGreatDoor
