/- areFinite, arePositive of the program: slices.ContainsFunc at a closure. -/
import Derived.Test.YtecncnkbgfjdcaaZFAng
import Derived.Test.YtecncnkbgfjdcaaZRow
set_option linter.unusedVariables false
set_option linter.unusedSimpArgs false
namespace Go.Proofs.Ytecncnkbgfjdcaa
open Ieee Go.RowKit near

def anyB (p : Nat → Bool) (f : Nat → Nat) (n : Nat) : Bool := (List.range n).any fun k => p (f k)
theorem anyB_yes {p : Nat → Bool} {f : Nat → Nat} {n k : Nat} (hk : k < n) (h : p (f k) = true) : anyB p f n = true := by
  unfold anyB; rw [List.any_eq_true]; exact ⟨k, by simpa using hk, h⟩
theorem anyB_no {p : Nat → Bool} {f : Nat → Nat} {n : Nat} (h : ∀ k, k < n → p (f k) = false) : anyB p f n = false := by
  unfold anyB; rw [List.any_eq_false]; intro k hk; rw [h k (by simpa using hk)]; decide
/-- x is at most nought. -/
def leZ (x : Nat) : Bool := FloatKind.f32.format.order x 0 == some .lt || FloatKind.f32.format.order x 0 == some .eq
def notFin (x : Nat) : Bool := !finB (val .f32 x)
def notPos (x : Nat) : Bool := notFin x || leZ x
theorem clo_areFinite (x : Nat) (w : World) : Calls Try.prog 66 #[.float .f32 x] w fun e w' => e = .returned (.bool (notFin x)) ∧ ∃ q, w' = w.drewN q := by
  go_enter Try.func66, Try.ntmps66
  go_wp2_with (go_at_call 57; refine (implIsFinite_any x _).mono ?_; rintro e w' ⟨rfl, n, rfl⟩)
  go_ret
  exact ⟨rfl, _, rfl⟩
set_option maxHeartbeats 1000000 in
theorem idx_areFinite (A : Option Addr) (n c B : Nat) (f : Nat → Nat) (w : World) (hn : n ≤ 1048576) (h : Row w B A n (fun j => .float .f32 (f j))) :
    Calls Try.prog 68 #[.slice A n c, .func (.func 66) #[] #[]] w fun e w' => (∃ r : Int, e = .returned (.int .i64 r) ∧ decide (0 ≤ r) = anyB notFin f n) ∧ ∃ q, w' = w.drewN q := by
  go_enter Try.func68, Try.ntmps68
  go_wp2
  go_loopw [8] (fun i wr => ∃ k q : Nat, k ≤ n ∧ i = .int .i64 k ∧ wr = w.drewN q ∧ Hid (∀ j, j < k → notFin (f j) = false)) (fun i _ => n - (intOf i).toNat)
  case atStart => exact ⟨0, 0, Nat.zero_le _, rfl, rfl, Lib.hid fun j hj => absurd hj (by omega)⟩
  case round =>
    obtain ⟨k, q, hk, rfl, rfl, HA⟩ := hrel
    by_cases hlt : k < n
    · obtain ⟨b, off, rfl, _, hc⟩ := h (by omega)
      have h3 := hc k hlt
      clear hc h
      cases hp : notFin (f k) with
      | false =>
        have HA2 := Lib.hid (show ∀ j, j < k + 1 → notFin (f j) = false from fun j hj => by
          by_cases e : j = k
          · subst e; exact hp
          · exact HA.out j (by omega))
        have HP := Lib.hid hp
        clear hp
        go_wp2_with (go_at_call 66; refine (clo_areFinite _ _).mono ?_; rw [HP.out]; rintro e w' ⟨rfl, q', rfl⟩)
        go_roundw
        case rel => exact ⟨k + 1, _, by omega, by go_num, rfl, HA2⟩
        case measure => simp [intOf]; omega
      | true =>
        have hno := Lib.hid (anyB_yes hlt hp)
        have HP := Lib.hid hp
        clear hp
        go_wp2_with (go_at_call 66; refine (clo_areFinite _ _).mono ?_; rw [HP.out]; rintro e w' ⟨rfl, q', rfl⟩)
        go_ret
        exact ⟨⟨_, rfl, by rw [hno.out, decide_eq_true (by omega)]⟩, _, rfl⟩
    · have hke : k = n := by omega
      subst hke
      have hy := Lib.hid (anyB_no HA.out)
      clear hlt
      go_wp2
      go_ret
      exact ⟨⟨-1, rfl, by rw [hy.out]; rfl⟩, _, rfl⟩
theorem contains_areFinite (A : Option Addr) (n c B : Nat) (f : Nat → Nat) (w : World) (hn : n ≤ 1048576) (h : Row w B A n (fun j => .float .f32 (f j))) :
    Calls Try.prog 55 #[.slice A n c, .func (.func 66) #[] #[]] w fun e w' => e = .returned (.bool (anyB notFin f n)) ∧ ∃ q, w' = w.drewN q := by
  go_enter Try.func55, Try.ntmps55
  go_wp2_with fail
  refine (idx_areFinite A n c B f _ hn h).mono ?_
  rintro e w' ⟨⟨r, rfl, hr⟩, q, rfl⟩
  have HR := Lib.hid hr
  clear hr
  go_wp2_with fail
  all_goals
    go_ret
    exact ⟨ret_bool HR.out, _, rfl⟩
theorem all_areFinite (A : Option Addr) (n c B : Nat) (f : Nat → Nat) (w : World) (hn : n ≤ 1048576) (h : Row w B A n (fun j => .float .f32 (f j))) :
    Calls Try.prog 53 #[.slice A n c] w fun e w' => e = .returned (.bool (!anyB notFin f n)) ∧ ∃ q, w' = w.drewN q := by
  have HC := Lib.hid (fun W (hr : Row W B A n (fun j => .float .f32 (f j))) => contains_areFinite A n c B f W hn hr)
  have HH := Lib.hid h
  clear h
  generalize anyB notFin f n = t at *
  go_enter Try.func53, Try.ntmps53
  go_wp2_with fail
  refine (HC.out _ HH.out).mono ?_
  rintro e w' ⟨rfl, q, rfl⟩
  go_wp2_with fail
  go_ret
  exact ⟨rfl, _, rfl⟩
theorem clo_arePositive (x : Nat) (w : World) : Calls Try.prog 56 #[.float .f32 x] w fun e w' => e = .returned (.bool (notPos x)) ∧ ∃ q, w' = w.drewN q := by
  unfold notPos notFin
  cases hf : finB (val .f32 x) with
  | false =>
    have HF := Lib.hid hf
    clear hf
    go_enter Try.func56, Try.ntmps56
    go_wp2_with (go_at_call 57; refine (implIsFinite_any x _).mono ?_; rw [HF.out]; rintro e w' ⟨rfl, n, rfl⟩)
    go_ret
    exact ⟨rfl, _, rfl⟩
  | true =>
    have HF := Lib.hid hf
    clear hf
    cases hl : leZ x with
    | false =>
      have hl2 := hl
      unfold leZ at hl2
      clear hl
      go_enter Try.func56, Try.ntmps56
      go_wp2_with (go_at_call 57; refine (implIsFinite_any x _).mono ?_; rw [HF.out]; rintro e w' ⟨rfl, n, rfl⟩)
      go_ret
      exact ⟨rfl, _, rfl⟩
    | true =>
      have hl2 := hl
      unfold leZ at hl2
      clear hl
      go_enter Try.func56, Try.ntmps56
      go_wp2_with (go_at_call 57; refine (implIsFinite_any x _).mono ?_; rw [HF.out]; rintro e w' ⟨rfl, n, rfl⟩)
      go_ret
      exact ⟨rfl, _, rfl⟩
set_option maxHeartbeats 1000000 in
theorem idx_arePositive (A : Option Addr) (n c B : Nat) (f : Nat → Nat) (w : World) (hn : n ≤ 1048576) (h : Row w B A n (fun j => .float .f32 (f j))) :
    Calls Try.prog 68 #[.slice A n c, .func (.func 56) #[] #[]] w fun e w' => (∃ r : Int, e = .returned (.int .i64 r) ∧ decide (0 ≤ r) = anyB notPos f n) ∧ ∃ q, w' = w.drewN q := by
  go_enter Try.func68, Try.ntmps68
  go_wp2
  go_loopw [8] (fun i wr => ∃ k q : Nat, k ≤ n ∧ i = .int .i64 k ∧ wr = w.drewN q ∧ Hid (∀ j, j < k → notPos (f j) = false)) (fun i _ => n - (intOf i).toNat)
  case atStart => exact ⟨0, 0, Nat.zero_le _, rfl, rfl, Lib.hid fun j hj => absurd hj (by omega)⟩
  case round =>
    obtain ⟨k, q, hk, rfl, rfl, HA⟩ := hrel
    by_cases hlt : k < n
    · obtain ⟨b, off, rfl, _, hc⟩ := h (by omega)
      have h3 := hc k hlt
      clear hc h
      cases hp : notPos (f k) with
      | false =>
        have HA2 := Lib.hid (show ∀ j, j < k + 1 → notPos (f j) = false from fun j hj => by
          by_cases e : j = k
          · subst e; exact hp
          · exact HA.out j (by omega))
        have HP := Lib.hid hp
        clear hp
        go_wp2_with (go_at_call 56; refine (clo_arePositive _ _).mono ?_; rw [HP.out]; rintro e w' ⟨rfl, q', rfl⟩)
        go_roundw
        case rel => exact ⟨k + 1, _, by omega, by go_num, rfl, HA2⟩
        case measure => simp [intOf]; omega
      | true =>
        have hno := Lib.hid (anyB_yes hlt hp)
        have HP := Lib.hid hp
        clear hp
        go_wp2_with (go_at_call 56; refine (clo_arePositive _ _).mono ?_; rw [HP.out]; rintro e w' ⟨rfl, q', rfl⟩)
        go_ret
        exact ⟨⟨_, rfl, by rw [hno.out, decide_eq_true (by omega)]⟩, _, rfl⟩
    · have hke : k = n := by omega
      subst hke
      have hy := Lib.hid (anyB_no HA.out)
      clear hlt
      go_wp2
      go_ret
      exact ⟨⟨-1, rfl, by rw [hy.out]; rfl⟩, _, rfl⟩
theorem contains_arePositive (A : Option Addr) (n c B : Nat) (f : Nat → Nat) (w : World) (hn : n ≤ 1048576) (h : Row w B A n (fun j => .float .f32 (f j))) :
    Calls Try.prog 55 #[.slice A n c, .func (.func 56) #[] #[]] w fun e w' => e = .returned (.bool (anyB notPos f n)) ∧ ∃ q, w' = w.drewN q := by
  go_enter Try.func55, Try.ntmps55
  go_wp2_with fail
  refine (idx_arePositive A n c B f _ hn h).mono ?_
  rintro e w' ⟨⟨r, rfl, hr⟩, q, rfl⟩
  have HR := Lib.hid hr
  clear hr
  go_wp2_with fail
  all_goals
    go_ret
    exact ⟨ret_bool HR.out, _, rfl⟩
theorem all_arePositive (A : Option Addr) (n c B : Nat) (f : Nat → Nat) (w : World) (hn : n ≤ 1048576) (h : Row w B A n (fun j => .float .f32 (f j))) :
    Calls Try.prog 39 #[.slice A n c] w fun e w' => e = .returned (.bool (!anyB notPos f n)) ∧ ∃ q, w' = w.drewN q := by
  have HC := Lib.hid (fun W (hr : Row W B A n (fun j => .float .f32 (f j))) => contains_arePositive A n c B f W hn hr)
  have HH := Lib.hid h
  clear h
  generalize anyB notPos f n = t at *
  go_enter Try.func39, Try.ntmps39
  go_wp2_with fail
  refine (HC.out _ HH.out).mono ?_
  rintro e w' ⟨rfl, q, rfl⟩
  go_wp2_with fail
  go_ret
  exact ⟨rfl, _, rfl⟩
end Go.Proofs.Ytecncnkbgfjdcaa
