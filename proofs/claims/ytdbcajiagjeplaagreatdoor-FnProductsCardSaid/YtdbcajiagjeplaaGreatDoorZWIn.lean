/- Contracts: within, l00In: is n from low to high? -/
import Derived.Test.YtdbcajiagjeplaaGreatDoorZBase
set_option linter.unusedVariables false
set_option linter.unusedSimpArgs false
namespace Go.Proofs.YtdbcajiagjeplaaGreatDoor
open Go.RowKit

def inB (n low high : Int) : Bool := decide (low ≤ n) && decide (n ≤ high)
theorem inB_true {n low high : Int} (h1 : low ≤ n) (h2 : n ≤ high) : inB n low high = true := by simp [inB, h1, h2]
theorem inB_low {n low high : Int} (h1 : n < low) : inB n low high = false := by simp [inB]; omega
theorem inB_high {n low high : Int} (h1 : high < n) : inB n low high = false := by simp [inB]; omega
theorem inB_cases (n low high : Int) : (inB n low high = true ∧ low ≤ n ∧ n ≤ high) ∨ (inB n low high = false ∧ (n < low ∨ high < n)) := by
  by_cases h1 : low ≤ n
  · by_cases h2 : n ≤ high
    · exact .inl ⟨inB_true h1 h2, h1, h2⟩
    · exact .inr ⟨inB_high (by omega), by omega⟩
  · exact .inr ⟨inB_low (by omega), by omega⟩

theorem within_any (n low high : Int) (w : World) : Calls Tryz.prog 43 #[.int .i64 n, .int .i64 low, .int .i64 high] w fun e w' => e = .returned (.bool (inB n low high)) ∧ w = w' := by
  rcases inB_cases n low high with ⟨h, h1, h2⟩ | ⟨h, h1⟩
  · rw [h]; clear h
    go_enter Tryz.func43, Tryz.ntmps43
    go_wp2_with fail
    go_ret
    exact ⟨rfl, rfl⟩
  · rw [h]; clear h
    by_cases h2 : low ≤ n
    · have h3 : high < n := by omega
      clear h1
      go_enter Tryz.func43, Tryz.ntmps43
      go_wp2_with fail
      go_ret
      exact ⟨ret_bool (decide_eq_false (by omega)), rfl⟩
    · have h3 : n < low := by omega
      clear h1 h2
      go_enter Tryz.func43, Tryz.ntmps43
      go_wp2_with fail
      go_ret
      exact ⟨rfl, rfl⟩
end Go.Proofs.YtdbcajiagjeplaaGreatDoor
