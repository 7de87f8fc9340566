/- IsName of the program, and the law. -/
import Derived.Test.YtdbcajiagjeplaaDoorWName2
set_option linter.unusedVariables false
set_option linter.unusedSimpArgs false
namespace Go.Proofs.YtdbcajiagjeplaaDoor
open Go.RowKit

def lettersB : ByteArray := ⟨#[97, 98, 99, 100, 101, 102, 103, 104, 105, 106, 107, 108, 109, 110, 111, 112, 113, 114, 115, 116, 117, 118, 119, 120, 121, 122]⟩
theorem ascii_letters : ∀ (j : Nat) b, lettersB.data.toList[j]? = some b → b.toNat < 128 := by
  intro j b h
  have hm : b ∈ letters := List.mem_of_getElem? h
  have := letter_iff b
  rw [List.contains_iff_mem.2 hm] at this
  have := of_decide_eq_true this.symm
  omega
theorem strTrim_any (s : ByteArray) (hs : s.size ≤ 1048576) (w : World) : Calls Tryd.prog 40 #[.string s, .string lettersB] w fun e w' => e = .returned (.string ⟨(Lib.trimS s.data.toList letters).toArray⟩) ∧ Below w.heap.size w w' :=
  Any.strings_Trim_laid Tryd.lays160 (by kernel_rfl) s lettersB w (by omega) (by decide) ascii_letters
set_option maxRecDepth 20000 in
theorem implName_any (s : ByteArray) (hs : s.size ≤ 1048576) (w : World) : Calls Tryd.prog 14 #[.string s] w fun e w' => e = .returned (.bool (isName s.data.toList)) ∧ Below w.heap.size w w' := by
  have hsl : s.data.toList.length = s.size := by rw [Array.length_toList]; rfl
  have HT := Lib.hid (trim_nil s.data.toList)
  have HK : Hid (isName s.data.toList = (decide (1 ≤ s.size) && decide (s.size ≤ 8) && s.data.toList.all fun c => letters.contains c)) := Lib.hid (by unfold isName; rw [hsl])
  by_cases h1 : 1 ≤ s.size
  · have g1 : (1 : Int) ≤ (s.size : Int) := by omega
    by_cases h8 : s.size ≤ 8
    · have g2 : (s.size : Int) ≤ 8 := by omega
      go_enter Tryd.func14, Tryd.ntmps14
      go_wp2_with fail
      refine (strTrim_any s hs _).mono ?_
      rintro e w' ⟨rfl, hb⟩
      cases hx : (s.data.toList.all fun c => letters.contains c) with
      | true =>
        rw [HT.out.2 hx]
        go_wp2_with fail
        go_ret
        rw [HK.out, hx, decide_eq_true h1, decide_eq_true h8]
        exact ⟨rfl, hb⟩
      | false =>
        have hne : ¬ Lib.trimS s.data.toList letters = [] := fun h => by rw [HT.out.1 h] at hx; cases hx
        generalize Lib.trimS s.data.toList letters = T at *
        have hT : (T == []) = false := by cases T with | nil => exact absurd rfl hne | cons _ _ => rfl
        go_wp2_with fail
        go_ret
        rw [HK.out, hx, Bool.and_false]
        exact ⟨rfl, hb⟩
    · have g2 : ¬ (s.size : Int) ≤ 8 := by omega
      go_enter Tryd.func14, Tryd.ntmps14
      go_wp2_with fail
      go_ret
      rw [HK.out, decide_eq_false h8, Bool.and_false, Bool.false_and]
      exact ⟨rfl, Below.refl _ _⟩
  · have g1 : ¬ (1 : Int) ≤ (s.size : Int) := by omega
    go_enter Tryd.func14, Tryd.ntmps14
    go_wp2_with fail
    go_ret
    rw [HK.out, decide_eq_false h1, Bool.false_and, Bool.false_and]
    exact ⟨rfl, Below.refl _ _⟩
theorem fnExactIsName_walk (s : ByteArray) (ws : s.size ≤ maxLen) (w : World) : Calls Tryd.prog 4 #[.string s] w fun e w' => e = .returned (.bool true) ∧ Below w.heap.size w w' := by
  by_cases hs : s.size ≤ 1048576
  · have g1 : ¬ (1048576 : Int) < (s.size : Int) := by omega
    go_enter Tryd.func4, Tryd.ntmps4
    go_wp2_with fail
    refine (specName_any s hs _).mono ?_
    rintro e w1 ⟨rfl, rfl⟩
    go_wp2_with fail
    refine (implName_any s hs _).mono ?_
    rintro e w2 ⟨rfl, hb⟩
    go_wp2_with fail
    go_ret
    exact ⟨rfl, hb⟩
  · have g1 : (1048576 : Int) < (s.size : Int) := by omega
    go_enter Tryd.func4, Tryd.ntmps4
    go_wp2_with fail
    go_ret
    exact ⟨rfl, Below.refl _ _⟩
end Go.Proofs.YtdbcajiagjeplaaDoor
