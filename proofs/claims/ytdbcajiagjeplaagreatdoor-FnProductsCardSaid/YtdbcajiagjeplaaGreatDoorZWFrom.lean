/- FromBits: contracts and the law. -/
import Derived.Test.YtdbcajiagjeplaaGreatDoorZWRoot
import Derived.Test.YtdbcajiagjeplaaGreatDoorZWIn
set_option linter.unusedVariables false
set_option linter.unusedSimpArgs false
namespace Go.Proofs.YtdbcajiagjeplaaGreatDoor
open Go.RowKit

/-- A float of the value v and a Bool are returned; nothing has turned but the count of draws. -/
def RetFB (v : Option Nat) (ok : Bool) (w : World) (e : Ending) (w' : World) : Prop := ∃ r n, e = .returned (.tuple #[.float .f32 r, .bool ok]) ∧ FIs .f32 r v ∧ w' = w.drewN n

theorem fis_zero : FIs .f32 0 (some 0) := FIs.mk val_zero32 (by decide)

theorem implFrom_yes (n : Nat) (hn : n < 4294967296) (w : World) : Calls Tryz.prog 7 #[.int .i64 n] w fun e w' => RetFB (val .f32 n) true w e w' := by
  have hin := inB_true (n := (n : Int)) (low := 0) (high := 4294967295) (by omega) (by omega)
  have HF := Lib.hid (FIs.mk (k := .f32) (r := n) rfl (show n < 4294967296 from hn))
  go_enter Tryz.func7, Tryz.ntmps7
  go_wp2_with (go_at_call 43; refine (within_any _ _ _ _).mono ?_; rw [hin]; rintro e w' ⟨rfl, rfl⟩)
  go_ret2
  exact ⟨_, 0, rfl, HF.out, rfl⟩
theorem implFrom_no (n : Int) (h : inB n 0 4294967295 = false) (w : World) : Calls Tryz.prog 7 #[.int .i64 n] w fun e w' => RetFB (some 0) false w e w' := by
  go_enter Tryz.func7, Tryz.ntmps7
  go_wp2_with (go_at_call 43; refine (within_any _ _ _ _).mono ?_; rw [h]; rintro e w' ⟨rfl, rfl⟩)
  go_ret2
  exact ⟨_, 0, rfl, fis_zero, rfl⟩
end Go.Proofs.YtdbcajiagjeplaaGreatDoor
