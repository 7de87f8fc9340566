/- A text cut at its commas: both sides. -/
import Derived.Test.YtdbcajiagjeplaaGreatDoorZFCut
import Derived.Test.YtdbcajiagjeplaaGreatDoorZApp
import Derived.Test.YtdbcajiagjeplaaGreatDoorZWIn
import Derived.Test.YtdbcajiagjeplaaGreatDoorZShelfS
import Derived.OwnWalk
import Derived.Deep.DeepMust
set_option linter.unusedVariables false
set_option linter.unusedSimpArgs false
namespace Go.Proofs.YtdbcajiagjeplaaGreatDoor
open Go.RowKit Go.Lib

def sv (l : List UInt8) : Value := .string ⟨l.toArray⟩
theorem sv_of (s : ByteArray) : Value.string s = sv s.data.toList := rfl
theorem sv_one (x : ByteArray) : ∀ u ∈ [Value.string x], u.oneCell' = true := by intro u hu; simp only [List.mem_singleton] at hu; subst hu; rfl
theorem info_s : (Tryz.prog.info? 9).map (fun i => (i.zero, i.size, i.bytes)) = some (some (.string ⟨#[]⟩), 1, 16) := by kernel_rfl
/-- The round's relation: the pieces up to 'fr' are laid, and no comma stands from there to 'i'. -/
def CutRel (l : List UInt8) (i fr : Nat) (done : List (List UInt8)) : Prop :=
  done.length ≤ i ∧ ((i ≤ l.length ∧ fr ≤ i ∧ (∀ j, j < i - fr → (l.drop fr)[j]? ≠ some 44) ∧ done ++ cuts (l.drop fr) = cuts l) ∨ (i = l.length + 1 ∧ done = cuts l))
theorem CutRel.start (l : List UInt8) : CutRel l 0 0 [] := ⟨by simp, .inl ⟨by omega, by omega, fun j hj => by omega, rfl⟩⟩
theorem CutRel.on {l : List UInt8} {i fr : Nat} {done : List (List UInt8)} (h : CutRel l i fr done) (hi : i < l.length) (hc : l[i]? ≠ some 44) : CutRel l (i + 1) fr done := by
  obtain ⟨h0, ⟨h1, h2, h3, h4⟩ | ⟨h1, _⟩⟩ := h
  · refine ⟨by omega, .inl ⟨by omega, by omega, fun j hj => ?_, h4⟩⟩
    rcases Nat.lt_or_ge j (i - fr) with h5 | h5
    · exact h3 j h5
    · obtain rfl : j = i - fr := by omega
      rw [List.getElem?_drop, show fr + (i - fr) = i by omega]
      exact hc
  · omega
theorem CutRel.le {l : List UInt8} {i fr : Nat} {done : List (List UInt8)} (h : CutRel l i fr done) (hi : i ≤ l.length) : fr ≤ i := by
  obtain ⟨h0, ⟨h1, h2, h3, h4⟩ | ⟨h1, _⟩⟩ := h <;> omega
theorem CutRel.hit {l : List UInt8} {i fr : Nat} {done : List (List UInt8)} (h : CutRel l i fr done) (hi : i < l.length) (hc : l[i]? = some 44) : CutRel l (i + 1) (i + 1) (done ++ [(l.drop fr).take (i - fr)]) := by
  obtain ⟨h0, ⟨h1, h2, h3, h4⟩ | ⟨h1, _⟩⟩ := h
  · refine ⟨by simp; omega, .inl ⟨by omega, by omega, fun j hj => by omega, ?_⟩⟩
    have := cuts_hit (i - fr) (l.drop fr) h3 (by rw [List.getElem?_drop, show fr + (i - fr) = i by omega]; exact hc)
    rw [← h4, this, List.drop_drop, show fr + (i - fr + 1) = i + 1 by omega, List.append_assoc]
    rfl
  · omega
theorem CutRel.last {l : List UInt8} {i fr : Nat} {done : List (List UInt8)} (h : CutRel l i fr done) (hi : i = l.length) : CutRel l (i + 1) (i + 1) (done ++ [(l.drop fr).take (i - fr)]) := by
  obtain ⟨h0, ⟨h1, h2, h3, h4⟩ | ⟨h1, _⟩⟩ := h
  · refine ⟨by simp; omega, .inr ⟨by omega, ?_⟩⟩
    have := cuts_miss (l.drop fr) (fun j => by
      rcases Nat.lt_or_ge j (i - fr) with h5 | h5
      · exact h3 j h5
      · rw [List.getElem?_eq_none (by rw [List.length_drop]; omega)]; simp)
    rw [← h4, this, List.take_of_length_le (by rw [List.length_drop]; omega)]
  · omega
theorem CutRel.fin {l : List UInt8} {i fr : Nat} {done : List (List UInt8)} (h : CutRel l i fr done) (hi : ¬ i ≤ l.length) : done = cuts l := by
  obtain ⟨h0, ⟨h1, h2, h3, h4⟩ | ⟨h1, h2⟩⟩ := h
  · omega
  · exact h2
theorem CutRel.top {l : List UInt8} {i fr : Nat} {done : List (List UInt8)} (h : CutRel l i fr done) : i ≤ l.length + 1 := by
  obtain ⟨h0, ⟨h1, h2, h3, h4⟩ | ⟨h1, h2⟩⟩ := h <;> omega
theorem sv_extract (s : ByteArray) (a b : Nat) : Value.string (s.extract a b) = sv ((s.data.toList.drop a).take (b - a)) := by rw [sv_of, extract_data]
/-- What is cut. -/
def RetCut (l : List UInt8) (w : World) (e : Ending) (w' : World) : Prop := ∃ v, e = .returned v ∧ w'.ownsRow w.heap.size 9 1 v (cuts l).length ((cuts l).map sv) ∧ Below w.heap.size w w'
end Go.Proofs.YtdbcajiagjeplaaGreatDoor
