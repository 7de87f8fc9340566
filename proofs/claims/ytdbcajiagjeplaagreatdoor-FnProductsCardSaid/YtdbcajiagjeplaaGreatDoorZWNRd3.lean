/- areFinite, arePositive of the program: slices.ContainsFunc at a closure. -/
import Derived.Test.YtdbcajiagjeplaaGreatDoorZFAng
import Derived.Test.YtdbcajiagjeplaaGreatDoorZRow
import Derived.Test.YtdbcajiagjeplaaGreatDoorZWSrc4
import Derived.Test.YtdbcajiagjeplaaGreatDoorZWCRd
set_option linter.unusedVariables false
set_option linter.unusedSimpArgs false
namespace Go.Proofs.YtdbcajiagjeplaaGreatDoor
open Ieee Go.RowKit near

def anyB (p : Nat → Bool) (f : Nat → Nat) (n : Nat) : Bool := (List.range n).any fun k => p (f k)
theorem anyB_yes {p : Nat → Bool} {f : Nat → Nat} {n k : Nat} (hk : k < n) (h : p (f k) = true) : anyB p f n = true := by
  unfold anyB; rw [List.any_eq_true]; exact ⟨k, by simpa using hk, h⟩
theorem anyB_no {p : Nat → Bool} {f : Nat → Nat} {n : Nat} (h : ∀ k, k < n → p (f k) = false) : anyB p f n = false := by
  unfold anyB; rw [List.any_eq_false]; intro k hk; rw [h k (by simpa using hk)]; decide
/-- x is at most nought. -/
def leZ (x : Nat) : Bool := FloatKind.f32.format.order x 0 == some .lt || FloatKind.f32.format.order x 0 == some .eq
def notFin (x : Nat) : Bool := !finB (val .f32 x)
def notPos (x : Nat) : Bool := notFin x || leZ x
theorem clo_areFinite (x : Nat) (w : World) : Calls Tryz.prog 82 #[.float .f32 x] w fun e w' => e = .returned (.bool (notFin x)) ∧ ∃ q, w' = w.drewN q := by
  go_enter Tryz.func82, Tryz.ntmps82
  go_wp2_with (go_at_call 58; refine (implIsFinite_any x _).mono ?_; rintro e w' ⟨rfl, n, rfl⟩)
  go_ret
  exact ⟨rfl, _, rfl⟩
set_option maxHeartbeats 1000000 in
theorem idx_areFinite (A : Option Addr) (n c B : Nat) (f : Nat → Nat) (w : World) (hn : n ≤ 1048576) (h : Row w B A n (fun j => .float .f32 (f j))) :
    Calls Tryz.prog 98 #[.slice A n c, .func (.func 82) #[] #[]] w fun e w' => (∃ r : Int, e = .returned (.int .i64 r) ∧ decide (0 ≤ r) = anyB notFin f n) ∧ ∃ q, w' = w.drewN q := by
  go_enter Tryz.func98, Tryz.ntmps98
  go_wp2
  go_loopw [8] (fun i wr => ∃ k q : Nat, k ≤ n ∧ i = .int .i64 k ∧ wr = w.drewN q ∧ Hid (∀ j, j < k → notFin (f j) = false)) (fun i _ => n - (intOf i).toNat)
  case atStart => exact ⟨0, 0, Nat.zero_le _, rfl, rfl, Lib.hid fun j hj => absurd hj (by omega)⟩
  case round =>
    obtain ⟨k, q, hk, rfl, rfl, HA⟩ := hrel
    by_cases hlt : k < n
    · obtain ⟨b, off, rfl, _, hc⟩ := h (by omega)
      have h3 := hc k hlt
      clear hc h
      cases hp : notFin (f k) with
      | false =>
        have HA2 := Lib.hid (show ∀ j, j < k + 1 → notFin (f j) = false from fun j hj => by
          by_cases e : j = k
          · subst e; exact hp
          · exact HA.out j (by omega))
        have HP := Lib.hid hp
        clear hp
        go_wp2_with (go_at_call 82; refine (clo_areFinite _ _).mono ?_; rw [HP.out]; rintro e w' ⟨rfl, q', rfl⟩)
        go_roundw
        case rel => exact ⟨k + 1, _, by omega, by go_num, rfl, HA2⟩
        case measure => simp [intOf]; omega
      | true =>
        have hno := Lib.hid (anyB_yes hlt hp)
        have HP := Lib.hid hp
        clear hp
        go_wp2_with (go_at_call 82; refine (clo_areFinite _ _).mono ?_; rw [HP.out]; rintro e w' ⟨rfl, q', rfl⟩)
        go_ret
        exact ⟨⟨_, rfl, by rw [hno.out, decide_eq_true (by omega)]⟩, _, rfl⟩
    · have hke : k = n := by omega
      subst hke
      have hy := Lib.hid (anyB_no HA.out)
      clear hlt
      go_wp2
      go_ret
      exact ⟨⟨-1, rfl, by rw [hy.out]; rfl⟩, _, rfl⟩
theorem contains_areFinite (A : Option Addr) (n c B : Nat) (f : Nat → Nat) (w : World) (hn : n ≤ 1048576) (h : Row w B A n (fun j => .float .f32 (f j))) :
    Calls Tryz.prog 81 #[.slice A n c, .func (.func 82) #[] #[]] w fun e w' => e = .returned (.bool (anyB notFin f n)) ∧ ∃ q, w' = w.drewN q := by
  go_enter Tryz.func81, Tryz.ntmps81
  go_wp2_with fail
  refine (idx_areFinite A n c B f _ hn h).mono ?_
  rintro e w' ⟨⟨r, rfl, hr⟩, q, rfl⟩
  have HR := Lib.hid hr
  clear hr
  go_wp2_with fail
  all_goals
    go_ret
    exact ⟨ret_bool HR.out, _, rfl⟩
theorem all_areFinite (A : Option Addr) (n c B : Nat) (f : Nat → Nat) (w : World) (hn : n ≤ 1048576) (h : Row w B A n (fun j => .float .f32 (f j))) :
    Calls Tryz.prog 55 #[.slice A n c] w fun e w' => e = .returned (.bool (!anyB notFin f n)) ∧ ∃ q, w' = w.drewN q := by
  have HC := Lib.hid (fun W (hr : Row W B A n (fun j => .float .f32 (f j))) => contains_areFinite A n c B f W hn hr)
  have HH := Lib.hid h
  clear h
  generalize anyB notFin f n = t at *
  go_enter Tryz.func55, Tryz.ntmps55
  go_wp2_with fail
  refine (HC.out _ HH.out).mono ?_
  rintro e w' ⟨rfl, q, rfl⟩
  go_wp2_with fail
  go_ret
  exact ⟨rfl, _, rfl⟩
end Go.Proofs.YtdbcajiagjeplaaGreatDoor
set_option linter.unusedVariables false
set_option linter.unusedSimpArgs false
namespace Go.Proofs.YtdbcajiagjeplaaGreatDoor
open Go.RowKit Go.Lib
end Go.Proofs.YtdbcajiagjeplaaGreatDoor
set_option linter.unusedVariables false
set_option linter.unusedSimpArgs false
namespace Go.Proofs.YtdbcajiagjeplaaGreatDoor
open Go.RowKit
/-- What the library's functions ask of the world. -/
structure LibX (w : World) : Prop where
  tz : Tz w
  errs : Errs w
  mlen : ∃ m, w.cell? ⟨Tryz.laysM146_ren.g 1, 0, none⟩ = some (.int .i64 m)
theorem LibX.below {w w' : World} (h : LibX w) (hb : Below w.heap.size w w') : LibX w' := by
  obtain ⟨m, hm⟩ := h.mlen
  exact ⟨h.tz.below (Nat.le_refl _) hb, h.errs.below (Nat.le_refl _) hb, m, (hb.cell (p := ⟨Tryz.laysM146_ren.g 1, 0, none⟩) (World.block_lt_of_cell? w _ hm)).trans hm⟩

end Go.Proofs.YtdbcajiagjeplaaGreatDoor
