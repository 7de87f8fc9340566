/- A text cut at its commas; the numbers of a text. -/
import Derived.Test.YtdbcajiagjeplaaGreatDoorZBase
import Derived.Lib.SplitLaws
set_option linter.unusedVariables false
set_option linter.unusedSimpArgs false
namespace Go.Proofs.YtdbcajiagjeplaaGreatDoor
open Go.Lib

/-- The pieces of a text between its commas. -/
def cuts : List UInt8 → List (List UInt8)
  | [] => [[]]
  | b :: l => if b = 44 then [] :: cuts l else match cuts l with | [] => [[b]] | h :: t => (b :: h) :: t

theorem cuts_ne : ∀ l, cuts l ≠ []
  | [] => by simp [cuts]
  | b :: l => by
    unfold cuts
    split
    · simp
    · cases cuts l <;> simp

theorem cuts_len : ∀ l, (cuts l).length ≤ l.length + 1
  | [] => by simp [cuts]
  | b :: l => by
    have ih := cuts_len l
    unfold cuts
    split
    · simp; omega
    · cases h : cuts l with
      | nil => simp
      | cons a t => rw [h] at ih; simp at ih ⊢; omega

theorem cuts_cons_ne {b : UInt8} (h : b ≠ 44) (l : List UInt8) : ∃ a t, cuts l = a :: t ∧ cuts (b :: l) = (b :: a) :: t := by
  cases hc : cuts l with
  | nil => exact absurd hc (cuts_ne l)
  | cons a t => exact ⟨a, t, rfl, by rw [cuts, if_neg h, hc]⟩

theorem cuts_piece : ∀ (l : List UInt8) (x : List UInt8), x ∈ cuts l → x.length ≤ l.length
  | [], x, h => by simp [cuts] at h; subst h; simp
  | b :: l, x, h => by
    by_cases hb : b = 44
    · rw [cuts, if_pos hb, List.mem_cons] at h
      rcases h with rfl | h
      · simp
      · have := cuts_piece l x h; simp; omega
    · obtain ⟨a, t, h1, h2⟩ := cuts_cons_ne hb l
      rw [h2, List.mem_cons] at h
      rcases h with rfl | h
      · have := cuts_piece l a (by rw [h1]; simp); simp; omega
      · have := cuts_piece l x (by rw [h1]; simp [h]); simp; omega

theorem cuts_miss : ∀ l : List UInt8, (∀ j : Nat, l[j]? ≠ some 44) → cuts l = [l]
  | [], _ => rfl
  | b :: l, h => by
    have hb : b ≠ 44 := fun e => h 0 (by simp [e])
    have ih := cuts_miss l (fun j => by have := h (j + 1); simpa using this)
    rw [cuts, if_neg hb, ih]

theorem cuts_hit : ∀ (k : Nat) (l : List UInt8), (∀ j : Nat, j < k → l[j]? ≠ some 44) → l[k]? = some 44 → cuts l = l.take k :: cuts (l.drop (k + 1))
  | 0, [], _, h => by simp at h
  | 0, b :: l, _, h => by
    simp at h
    rw [cuts, if_pos h]
    simp
  | k + 1, [], _, h => by simp at h
  | k + 1, b :: l, hn, h => by
    have hb : b ≠ 44 := fun e => hn 0 (by omega) (by simp [e])
    have ih := cuts_hit k l (fun j hj => by have := hn (j + 1) (by omega); simpa using this) (by simpa using h)
    rw [cuts, if_neg hb, ih]
    simp

theorem split_cuts : ∀ l : List UInt8, splitK [44] 0 (count l [44]) l = cuts l
  | [] => by rw [count_miss (by simp [index])]; rfl
  | b :: l => by
    by_cases hb : b = 44
    · subst hb
      have hix : index (44 :: l) [44] = 0 := by rw [index]; simp [List.isPrefixOf]
      rw [count_cons_eq, Nat.add_comm 1, splitK, hix, cuts, if_pos rfl, ← split_cuts l]
      rfl
    · rw [count_cons_ne b 44 l hb]
      have hp : ([44] : List UInt8).isPrefixOf (b :: l) = false := by simp [List.isPrefixOf]; exact fun e => hb e.symm
      have hix : index (b :: l) [44] = if index l [44] == -1 then -1 else index l [44] + 1 := by rw [index, hp]; simp
      obtain ⟨a, t, h1, h2⟩ := cuts_cons_ne hb l
      rw [h2]
      rw [← split_cuts l] at h1
      by_cases hm : index l [44] = -1
      · rw [count_miss hm] at h1 ⊢
        injection h1 with h3 h4
        subst h3; subst h4
        rfl
      · have hge := index_ge l [44]
        obtain ⟨j, hj⟩ : ∃ j : Nat, index l [44] = j := ⟨(index l [44]).toNat, by omega⟩
        have hix' : index (b :: l) [44] = ((j + 1 : Nat) : Int) := by rw [hix, if_neg (fun e => hm (beq_iff_eq.1 e)), hj]; omega
        have hc := count_hit (s := l) (sub := [44]) (by simp) hj
        rw [hc, Nat.add_comm 1, splitK, hj, if_neg (by intro e; have := beq_iff_eq.1 e; omega)] at h1
        rw [hc, Nat.add_comm 1, splitK, hix', if_neg (by intro e; have := beq_iff_eq.1 e; omega)]
        injection h1 with h3 h4
        subst h3; subst h4
        have e1 : ((j + 1 : Nat) : Int).toNat + 0 = j + 1 := by omega
        have e2 : ((j : Nat) : Int).toNat + 0 = j := by omega
        have e3 : ((j + 1 : Nat) : Int).toNat + [(44 : UInt8)].length = j + 1 + 1 := by simp
        have e4 : ((j : Nat) : Int).toNat + [(44 : UInt8)].length = j + 1 := by simp
        rw [e1, e2, e3, e4]
        rfl
theorem splitB_cuts (s : ByteArray) : (splitB ⟨#[44]⟩ 0 (countB s ⟨#[44]⟩) s).map (·.data.toList) = cuts s.data.toList := by
  rw [splitB_data]
  exact split_cuts _
theorem countB_cuts (s : ByteArray) : countB s ⟨#[44]⟩ + 1 = (cuts s.data.toList).length := by
  rw [← splitB_cuts, List.length_map, splitB_all _ (by decide) 0 _ s rfl]
end Go.Proofs.YtdbcajiagjeplaaGreatDoor
