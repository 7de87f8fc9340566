/- SumNumbers: contracts and the law. -/
import Derived.Test.YtdbcajiagjeplaaGreatDoorZWFrom
import Derived.Test.YtdbcajiagjeplaaGreatDoorZFloats
set_option linter.unusedVariables false
set_option linter.unusedSimpArgs false
namespace Go.Proofs.YtdbcajiagjeplaaGreatDoor
open Go.RowKit

/-- Sums and sums of products, from left to right. -/
def sumV (f : Nat → Nat) : Nat → Option Nat
  | 0 => some 0
  | k + 1 => fop .add .f32 (sumV f k) (val .f32 (f k))
def dotV (f g : Nat → Nat) : Nat → Option Nat
  | 0 => some 0
  | k + 1 => fop .add .f32 (dotV f g k) (fop .mul .f32 (val .f32 (f k)) (val .f32 (g k)))

theorem sumV_step {f : Nat → Nat} {k r r2 : Nat} (h : FIs .f32 r (sumV f k)) (h2 : FIs .f32 r2 (fop .add .f32 (val .f32 r) (val .f32 (f k)))) : FIs .f32 r2 (sumV f (k + 1)) := by
  rw [h.out] at h2; exact h2

set_option maxHeartbeats 800000 in
theorem implSum_any (A : Option Addr) (n c B : Nat) (f : Nat → Nat) (w : World) (hn : n ≤ 1048576) (h : Row w B A n (fun j => .float .f32 (f j))) :
    Calls Tryz.prog 48 #[.slice A n c] w fun e w' => RetF .f32 (sumV f n) w e w' := by
  go_enter Tryz.func48, Tryz.ntmps48
  go_wp2
  go_loopw [3, 5, 8] (fun s _ i wr => ∃ k : Nat, k ≤ n ∧ i = .int .i64 k ∧ ∃ r q, s = .float .f32 r ∧ FIs .f32 r (sumV f k) ∧ wr = w.drewN q) (fun _ _ i _ => n - (intOf i).toNat)
  case atStart => exact ⟨0, Nat.zero_le _, rfl, _, 0, rfl, fis_zero, rfl⟩
  case round =>
    obtain ⟨k, hk, rfl, r, q, rfl, hr, rfl⟩ := hrel
    by_cases hlt : k < n
    · obtain ⟨b, off, rfl, _, hc⟩ := h (by omega)
      have h1 : w.cell? ⟨b, off + k, none⟩ = some (.float .f32 (f k)) := hc k hlt
      clear hc h
      go_wp2_with (refine wpList_fop rfl _ _ _ _ _ rfl rfl _ _ _ rfl rfl ?_; intro r2 n2 hr2)
      go_roundw
      case rel => exact ⟨k + 1, by omega, by go_num, _, _, rfl, sumV_step hr hr2, rfl⟩
      case measure => simp [intOf]; omega
    · have hke : k = n := by omega
      subst hke
      clear hlt
      go_wp2
      go_ret
      exact ⟨_, _, rfl, hr, rfl⟩
theorem implSum_yes (A : Option Addr) (n c B : Nat) (f : Nat → Nat) (w : World) (hn : n ≤ 256) (h : Row w B A n (fun j => .float .f32 (f j))) :
    Calls Tryz.prog 12 #[.slice A n c] w fun e w' => RetFB (sumV f n) true w e w' := by
  go_enter Tryz.func12, Tryz.ntmps12
  go_wp2_with (go_at_call 48; refine (implSum_any A n c B f _ (by omega) h).mono ?_; rintro e w' ⟨r, q, rfl, hr, rfl⟩)
  go_ret2
  exact ⟨_, _, rfl, hr, rfl⟩
theorem implSum_no (A : Option Addr) (n c : Nat) (w : World) (hn : 256 < n) : Calls Tryz.prog 12 #[.slice A n c] w fun e w' => RetFB (some 0) false w e w' := by
  go_enter Tryz.func12, Tryz.ntmps12
  go_wp2_with fail
  go_ret2
  exact ⟨_, 0, rfl, fis_zero, rfl⟩
end Go.Proofs.YtdbcajiagjeplaaGreatDoor
