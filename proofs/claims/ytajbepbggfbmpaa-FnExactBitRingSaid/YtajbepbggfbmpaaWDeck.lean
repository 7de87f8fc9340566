/- NewDeck: both sides return 0, .., n - 1. -/
import Derived.Test.YtajbepbggfbmpaaToInts
import Derived.Test.YtajbepbggfbmpaaWIn
set_option linter.unusedVariables false
set_option linter.unusedSimpArgs false
namespace Go.Proofs.Ytajbepbggfbmpaa
open Go.RowKit

def upto (n : Nat) : List Int := (List.range n).map fun (k : Nat) => (k : Int)
theorem upto_succ (n : Nat) : upto (n + 1) = upto n ++ [(n : Int)] := by simp [upto, List.range_succ]
theorem upto_len (n : Nat) : (upto n).length = n := by simp [upto]


set_option maxHeartbeats 800000 in
theorem l02New_any (n : Nat) (hn : n ≤ 64) (w : World) : Calls Try.prog 26 #[.int .i64 n] w fun e w' => GivesV 2 (ints (upto n)) w e w' := by
  obtain ⟨i0, hi, hz0, hz1, hz2⟩ := info_parts info_int
  go_enter Try.func26, Try.ntmps26
  go_wp2
  go_loopw [3, 4] (fun v i wr => ∃ k : Nat, k ≤ n ∧ i = .int .i64 k ∧ wr.ownsRow w.heap.size 2 1 v k (ints (upto k)) ∧ Below w.heap.size w wr) (fun _ i _ => n - (intOf i).toNat)
  case atStart => exact ⟨0, Nat.zero_le _, rfl, own_empty w _, (Below.refl _ _).alloc (Nat.le_refl _) _⟩
  case round =>
    obtain ⟨k, hk, rfl, hown, hb⟩ := hrel
    by_cases hlt : k < n
    · have hs := hb.size
      go_wp2_with (at_builtin; refine wpList_append_own _ rfl _ _ 22 rfl w.heap.size 2 i0 (.int .i64 0) 1 8 Try.underlying22 hi hz0 hz1 hz2 rfl (by decide) _ k (ints (upto k)) rfl (hown.alloc _) ⟨wr.heap.size, 0, none⟩ 1 1 [.int .i64 (k : Int)] rfl rfl (new_one _ _ _) (int_one _) (by unfold maxLen; omega) (by omega) (by simp; omega) ?_; intro v' w1 hown' hgrow _)
      go_roundw
      case rel => exact ⟨k + 1, by omega, by go_num, by rw [upto_succ, ints_snoc]; exact hown', step_below hb hown hgrow⟩
      case measure => simp [intOf]; omega
    · have hke : k = n := by omega
      subst hke
      clear hlt
      go_wp2
      go_ret
      exact ⟨_, rfl, by rw [ints_len, upto_len]; exact hown, hb⟩
theorem specNewDeck_yes (n : Nat) (h1 : 1 ≤ n) (hn : n ≤ 52) (w : World) : Calls Try.prog 9 #[.int .i64 n] w fun e w' => GivesL 2 (ints (upto n)) true w e w' := by
  have hin := inB_true (n := n) (low := 1) (high := 52) (by omega) (by omega)
  go_enter Try.func9, Try.ntmps9
  go_wp2_with (first | (go_at_call 25; refine (l00In_any _ _ _ _).mono ?_; rw [hin]; rintro e w' ⟨rfl, rfl⟩) | (go_at_call 26; refine (l02New_any n (by omega) _).mono ?_; rintro e w' ⟨v, rfl, hown, hb⟩))
  go_ret2
  exact ⟨_, rfl, hown, hb⟩
theorem specNewDeck_no (n : Int) (h : inB n 1 52 = false) (w : World) : Calls Try.prog 9 #[.int .i64 n] w fun e w' => GivesL 2 [] false w e w' := by
  go_enter Try.func9, Try.ntmps9
  go_wp2_with (go_at_call 25; refine (l00In_any _ _ _ _).mono ?_; rw [h]; rintro e w' ⟨rfl, rfl⟩)
  go_ret2
  exact givesL_nil _ _ 0
set_option maxHeartbeats 800000 in
theorem newDeck_any (n : Nat) (hn : n ≤ 64) (w : World) : Calls Try.prog 28 #[.int .i64 n] w fun e w' => GivesV 2 (ints (upto n)) w e w' := by
  obtain ⟨i0, hi, hz0, hz1, hz2⟩ := info_parts info_int
  go_enter Try.func28, Try.ntmps28
  go_wp2
  go_loopw [3, 4, 7] (fun v _ i wr => ∃ k : Nat, k ≤ n ∧ i = .int .i64 k ∧ wr.ownsRow w.heap.size 2 1 v k (ints (upto k)) ∧ Below w.heap.size w wr) (fun _ _ i _ => n - (intOf i).toNat)
  case atStart => exact ⟨0, Nat.zero_le _, rfl, own_empty w _, (Below.refl _ _).alloc (Nat.le_refl _) _⟩
  case round =>
    obtain ⟨k, hk, rfl, hown, hb⟩ := hrel
    by_cases hlt : k < n
    · have hs := hb.size
      go_wp2_with (at_builtin; refine wpList_append_own _ rfl _ _ 22 rfl w.heap.size 2 i0 (.int .i64 0) 1 8 Try.underlying22 hi hz0 hz1 hz2 rfl (by decide) _ k (ints (upto k)) rfl (hown.alloc _) ⟨wr.heap.size, 0, none⟩ 1 1 [.int .i64 (k : Int)] rfl rfl (new_one _ _ _) (int_one _) (by unfold maxLen; omega) (by omega) (by simp; omega) ?_; intro v' w1 hown' hgrow _)
      go_roundw
      case rel => exact ⟨k + 1, by omega, by go_num, by rw [upto_succ, ints_snoc]; exact hown', step_below hb hown hgrow⟩
      case measure => simp [intOf]; omega
    · have hke : k = n := by omega
      subst hke
      clear hlt
      go_wp2
      go_ret
      exact ⟨_, rfl, by rw [ints_len, upto_len]; exact hown, hb⟩
theorem implNewDeck_yes (n : Nat) (h1 : 1 ≤ n) (hn : n ≤ 52) (w : World) : Calls Try.prog 10 #[.int .i64 n] w fun e w' => GivesL 2 (ints (upto n)) true w e w' := by
  have hin := inB_true (n := n) (low := 1) (high := 52) (by omega) (by omega)
  go_enter Try.func10, Try.ntmps10
  go_wp2_with (first | (go_at_call 27; refine (within_any _ _ _ _).mono ?_; rw [hin]; rintro e w' ⟨rfl, rfl⟩) | (go_at_call 28; refine (newDeck_any n (by omega) _).mono ?_; rintro e w' ⟨v, rfl, hown, hb⟩))
  go_ret2
  exact ⟨_, rfl, hown, hb⟩
theorem implNewDeck_no (n : Int) (h : inB n 1 52 = false) (w : World) : Calls Try.prog 10 #[.int .i64 n] w fun e w' => GivesL 2 [] false w e w' := by
  go_enter Try.func10, Try.ntmps10
  go_wp2_with (go_at_call 27; refine (within_any _ _ _ _).mono ?_; rw [h]; rintro e w' ⟨rfl, rfl⟩)
  go_ret2
  exact givesL_nil _ _ 0
end Go.Proofs.Ytajbepbggfbmpaa
