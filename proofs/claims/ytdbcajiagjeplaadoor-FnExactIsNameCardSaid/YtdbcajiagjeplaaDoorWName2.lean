/- IsName: the walks and the law. -/
import Derived.Test.YtdbcajiagjeplaaDoorWName
set_option linter.unusedVariables false
set_option linter.unusedSimpArgs false
namespace Go.Proofs.YtdbcajiagjeplaaDoor
open Go.RowKit

theorem all_take_succ {l : List UInt8} {i : Nat} (h : i < l.length) (p : UInt8 → Bool) : (l.take (i + 1)).all p = ((l.take i).all p && p l[i]) := by
  rw [List.take_add_one, List.all_append, List.getElem?_eq_getElem h]; simp
set_option maxRecDepth 20000 in
theorem specName_any (s : ByteArray) (hs : s.size ≤ 1048576) (w : World) : Calls Tryd.prog 13 #[.string s] w fun e w' => e = .returned (.bool (isName s.data.toList)) ∧ w = w' := by
  have hsl : s.data.toList.length = s.size := by rw [Array.length_toList]; rfl
  go_enter Tryd.func13, Tryd.ntmps13
  go_wp2_with fail
  go_loopw [3] (fun iv wr => ∃ i : Nat, i ≤ s.size ∧ iv = .int .i64 (i : Int) ∧ ((s.data.toList.take i).all fun c => letters.contains c) = true ∧ wr = w) (fun iv _ => s.size - (intOf iv).toNat)
  case atStart => exact ⟨0, by omega, rfl, rfl, rfl⟩
  case round =>
    obtain ⟨i, hi, rfl, hall, rfl⟩ := hrel
    by_cases hlt : i < s.size
    · have g3 : (i : Int) < (s.size : Int) := by omega
      have hli : i < s.data.toList.length := by omega
      have hget : s.data.toList[i]'hli = s[i]'hlt := rfl
      have hsucc := all_take_succ hli fun c => letters.contains c
      rw [hall, Bool.true_and, hget, letter_iff] at hsucc
      have hno : letters.contains (s[i]'hlt) = false → isName s.data.toList = false := by
        intro h
        unfold isName
        rw [Bool.and_eq_false_iff]
        right
        rw [List.all_eq_false]
        exact ⟨s[i]'hlt, by rw [← hget]; exact List.getElem_mem hli, by rw [h]; simp⟩
      rw [letter_iff] at hno
      have HS := Lib.hid (And.intro hsucc hno)
      clear hsucc hno
      by_cases h97 : (97 : Int) ≤ ((s[i]'hlt).toNat : Int)
      · by_cases h122 : ((s[i]'hlt).toNat : Int) ≤ 122
        · have hd : decide (97 ≤ (s[i]'hlt).toNat ∧ (s[i]'hlt).toNat ≤ 122) = true := decide_eq_true (by omega)
          have HD := Lib.hid (HS.out.1.trans hd)
          clear hd
          go_wp2_with fail
          go_roundw
          case rel => exact ⟨i + 1, by omega, rfl, HD.out, trivial⟩
          case measure => simp [intOf]; omega
        · have HD := Lib.hid (HS.out.2 (decide_eq_false (by omega)))
          go_wp2_with fail
          go_ret
          rw [HD.out]
          exact ⟨rfl, rfl⟩
      · have HD := Lib.hid (HS.out.2 (decide_eq_false (by omega)))
        go_wp2_with fail
        go_ret
        rw [HD.out]
        exact ⟨rfl, rfl⟩
    · obtain rfl : i = s.size := by omega
      rw [List.take_of_length_le (by omega)] at hall
      have hk : isName s.data.toList = (decide (1 ≤ s.size) && decide (s.size ≤ 8)) := by unfold isName; rw [hall, Bool.and_true, hsl]
      have HK := Lib.hid hk
      clear hk hall
      by_cases h1 : 1 ≤ s.size
      · have g1 : (1 : Int) ≤ (s.size : Int) := by omega
        by_cases h8 : s.size ≤ 8
        · have g2 : (s.size : Int) ≤ 8 := by omega
          go_wp2_with fail
          go_ret
          rw [HK.out, decide_eq_true h1, decide_eq_true h8]
          exact ⟨rfl, rfl⟩
        · have g2 : ¬ (s.size : Int) ≤ 8 := by omega
          go_wp2_with fail
          go_ret
          rw [HK.out, decide_eq_true h1, decide_eq_false h8]
          exact ⟨rfl, rfl⟩
      · have g1 : ¬ (1 : Int) ≤ (s.size : Int) := by omega
        go_wp2_with fail
        go_ret
        rw [HK.out, decide_eq_false h1]
        exact ⟨rfl, rfl⟩
end Go.Proofs.YtdbcajiagjeplaaDoor
