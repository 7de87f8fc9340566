/- CheckOf: both sides fold the text's bytes into one number; the law FnExactCheckOf. -/
import Derived.Test.YtbgijclhnkbeiaaWIn
set_option linter.unusedVariables false
set_option linter.unusedSimpArgs false
namespace Go.Proofs.Ytbgijclhnkbeiaa
open Go.RowKit

def chkStep (n : Int) (c : UInt8) : Int := (983 * n + (c.toNat : Int) + 239) % 65003
def chk (n : Int) (l : List UInt8) : Int := l.foldl chkStep n
theorem chk_bound (n : Int) (l : List UInt8) (h0 : 0 ≤ n) (h1 : n ≤ 65002) : 0 ≤ chk n l ∧ chk n l ≤ 65002 := by
  induction l generalizing n with
  | nil => exact ⟨h0, h1⟩
  | cons c l ih =>
    refine ih (chkStep n c) ?_ ?_ <;> unfold chkStep <;> omega
theorem chk_snoc (n : Int) (l : List UInt8) (c : UInt8) : chk n (l ++ [c]) = chkStep (chk n l) c := by simp [chk]
theorem take_snoc (s : ByteArray) (k : Nat) (h : k < s.size) : s.data.toList.take (k + 1) = s.data.toList.take k ++ [s[k]] := by
  rw [List.take_succ_eq_append_getElem (by simpa using h)]; rfl
theorem take_all (s : ByteArray) : s.data.toList.take s.size = s.data.toList := List.take_of_length_le (by simp)

set_option maxHeartbeats 400000 in
theorem l01Check_any (n : Int) (s : ByteArray) (h0 : 0 ≤ n) (h1 : n ≤ 65002) (hs : s.size ≤ 1048576) (w : World) :
    Calls Try.prog 31 #[.int .i64 n, .string s] w fun e w' => e = .returned (.int .i64 (chk n s.data.toList)) ∧ w = w' := by
  go_enter Try.func31, Try.ntmps31
  go_wp2
  go_loop [0, 5] (fun m i => ∃ k : Nat, k ≤ s.size ∧ i = .int .i64 k ∧ m = .int .i64 (chk n (s.data.toList.take k))) (fun _ i => s.size - (intOf i).toNat)
  case atStart => exact ⟨0, Nat.zero_le _, rfl, rfl⟩
  case round =>
    obtain ⟨k, hk, rfl, rfl⟩ := hrel
    obtain ⟨hb0, hb1⟩ := chk_bound n (s.data.toList.take k) h0 h1
    by_cases hlt : k < s.size
    · have hstep : chk n (s.data.toList.take (k + 1)) = chkStep (chk n (s.data.toList.take k)) s[k] := by rw [take_snoc s k hlt, chk_snoc]
      have HS := Lib.hid hstep
      clear hstep
      have hcb : (s[k].toNat : Int) < 256 := by have := s[k].toNat_lt; omega
      generalize chk n (s.data.toList.take k) = m at *
      go_wp2
      go_round
      case rel => exact ⟨k + 1, by omega, by go_num, by rw [HS.out]; rfl⟩
      case measure => simp [intOf]; omega
    · have hke : k = s.size := by omega
      have hall : chk n (s.data.toList.take k) = chk n s.data.toList := by rw [hke, take_all]
      have HS := Lib.hid hall
      clear hall hke
      generalize chk n (s.data.toList.take k) = m at *
      go_wp2
      go_ret
      exact ⟨ret_int HS.out, rfl⟩
set_option maxHeartbeats 400000 in
theorem implCheck_yes (n : Int) (s : ByteArray) (h0 : 0 ≤ n) (h1 : n ≤ 65002) (hs : s.size ≤ 1048576) (w : World) :
    Calls Try.prog 22 #[.int .i64 n, .string s] w fun e w' => e = .returned (.tuple #[.int .i64 (chk n s.data.toList), .bool true]) ∧ w = w' := by
  have hin := inB_true h0 h1
  go_enter Try.func22, Try.ntmps22
  go_wp2_with (go_at_call 32; refine (within_any _ _ _ _).mono ?_; rw [hin]; rintro e w' ⟨rfl, rfl⟩)
  go_loop [0, 6, 12] (fun m j i => ∃ k : Nat, k ≤ s.size ∧ i = .int .i64 k ∧ m = .int .i64 (chk n (s.data.toList.take k))) (fun _ _ i => s.size - (intOf i).toNat)
  case atStart => exact ⟨0, Nat.zero_le _, rfl, rfl⟩
  case round =>
    obtain ⟨k, hk, rfl, rfl⟩ := hrel
    obtain ⟨hb0, hb1⟩ := chk_bound n (s.data.toList.take k) h0 h1
    by_cases hlt : k < s.size
    · have hstep : chk n (s.data.toList.take (k + 1)) = chkStep (chk n (s.data.toList.take k)) s[k] := by rw [take_snoc s k hlt, chk_snoc]
      have HS := Lib.hid hstep
      clear hstep
      have hcb : (s[k].toNat : Int) < 256 := by have := s[k].toNat_lt; omega
      generalize chk n (s.data.toList.take k) = m at *
      go_wp2
      go_round
      case rel => exact ⟨k + 1, by omega, by go_num, by rw [HS.out]; rfl⟩
      case measure => simp [intOf]; omega
    · have hke : k = s.size := by omega
      have hall : chk n (s.data.toList.take k) = chk n s.data.toList := by rw [hke, take_all]
      have HS := Lib.hid hall
      clear hall hke
      generalize chk n (s.data.toList.take k) = m at *
      go_wp2
      go_ret2
      exact ⟨ret_ib HS.out, rfl⟩
theorem implCheck_no (n : Int) (s : ByteArray) (h : inB n 0 65002 = false) (w : World) :
    Calls Try.prog 22 #[.int .i64 n, .string s] w fun e w' => e = .returned (.tuple #[.int .i64 0, .bool false]) ∧ w = w' := by
  go_enter Try.func22, Try.ntmps22
  go_wp2_with (go_at_call 32; refine (within_any _ _ _ _).mono ?_; rw [h]; rintro e w' ⟨rfl, rfl⟩)
  go_ret2
  exact ⟨rfl, rfl⟩
theorem specCheck_yes (n : Int) (s : ByteArray) (h0 : 0 ≤ n) (h1 : n ≤ 65002) (hs : s.size ≤ 1048576) (w : World) :
    Calls Try.prog 21 #[.int .i64 n, .string s] w fun e w' => e = .returned (.tuple #[.int .i64 (chk n s.data.toList), .bool true]) ∧ w = w' := by
  have hin := inB_true h0 h1
  go_enter Try.func21, Try.ntmps21
  go_wp2_with (first | (go_at_call 30; refine (l00In_any _ _ _ _).mono ?_; rw [hin]; rintro e w' ⟨rfl, rfl⟩) | (go_at_call 31; refine (l01Check_any n s h0 h1 hs _).mono ?_; rintro e w' ⟨rfl, rfl⟩))
  go_ret2
  exact ⟨rfl, rfl⟩
theorem specCheck_no (n : Int) (s : ByteArray) (h : inB n 0 65002 = false) (w : World) :
    Calls Try.prog 21 #[.int .i64 n, .string s] w fun e w' => e = .returned (.tuple #[.int .i64 0, .bool false]) ∧ w = w' := by
  go_enter Try.func21, Try.ntmps21
  go_wp2_with (go_at_call 30; refine (l00In_any _ _ _ _).mono ?_; rw [h]; rintro e w' ⟨rfl, rfl⟩)
  go_ret2
  exact ⟨rfl, rfl⟩
theorem fnExactCheckOf_walk (n : Int) (wf : (Lit.int .i64 n).wf = true) (s : ByteArray) (ws : s.size ≤ maxLen) (w : World) :
    Calls Try.prog 9 #[.int .i64 n, .string s] w fun e w' => e = .returned (.bool true) ∧ Below w.heap.size w w' := by
  unfold maxLen at ws
  clear wf
  by_cases hs : s.size ≤ 1048576
  · rcases inB_cases n 0 65002 with ⟨h, h0, h1⟩ | ⟨h, h1⟩
    · clear h
      go_enter Try.func9, Try.ntmps9
      go_wp2_with fail
      refine (specCheck_yes n s h0 h1 hs _).mono ?_
      generalize hc : chk n s.data.toList = c
      rintro e w' ⟨rfl, rfl⟩
      go_wp2_with fail
      refine (implCheck_yes n s h0 h1 hs _).mono ?_
      rw [hc]
      rintro e w' ⟨rfl, rfl⟩
      go_wp2_with fail
      go_ret
      exact ⟨rfl, Below.refl _ _⟩
    · clear h1
      go_enter Try.func9, Try.ntmps9
      go_wp2_with fail
      refine (specCheck_no n s h _).mono ?_
      rintro e w' ⟨rfl, rfl⟩
      go_wp2_with fail
      refine (implCheck_no n s h _).mono ?_
      rintro e w' ⟨rfl, rfl⟩
      go_wp2_with fail
      go_ret
      exact ⟨rfl, Below.refl _ _⟩
  · have hs' : 1048576 < s.size := by omega
    clear hs
    go_enter Try.func9, Try.ntmps9
    go_wp2_with fail
    go_ret
    exact ⟨rfl, Below.refl _ _⟩
end Go.Proofs.Ytbgijclhnkbeiaa
