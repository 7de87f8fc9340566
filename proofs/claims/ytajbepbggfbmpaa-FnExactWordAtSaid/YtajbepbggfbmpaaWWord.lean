/- WordAt: both sides return the first place of a word in a ring of bits. -/
import Derived.Test.YtajbepbggfbmpaaWIsDeck2
import Derived.IntWalk
set_option linter.unusedVariables false
set_option linter.unusedSimpArgs false
namespace Go.Proofs.Ytajbepbggfbmpaa
open Go.RowKit

/-- Are the n numbers of f all 0 or 1? -/
def allBits (f : Nat → Int) (n : Nat) : Bool := (List.range n).all fun k => inB (f k) 0 1
def bitsB (f : Nat → Int) (n most : Nat) : Bool := decide (1 ≤ n) && (decide (n ≤ most) && allBits f n)
theorem allBits_no {f : Nat → Int} {n k : Nat} (hk : k < n) (h : inB (f k) 0 1 = false) : allBits f n = false := by
  cases ho : allBits f n with
  | false => rfl
  | true =>
    unfold allBits at ho
    rw [List.all_eq_true] at ho
    have := ho k (by simp [hk])
    rw [h] at this; cases this
theorem allBits_yes {f : Nat → Int} {n : Nat} (h : ∀ k, k < n → inB (f k) 0 1 = true) : allBits f n = true := by
  unfold allBits; rw [List.all_eq_true]; intro k hk; exact h k (by simpa using hk)

/-- Do the first k of the word g stand in the ring f of n from i on? -/
def matchB (f : Nat → Int) (n : Nat) (g : Nat → Int) (i k : Nat) : Bool := (List.range k).all fun j => f ((i + j) % n) == g j
theorem matchB_succ (f : Nat → Int) (n : Nat) (g : Nat → Int) (i k : Nat) : matchB f n g i (k + 1) = (matchB f n g i k && (f ((i + k) % n) == g k)) := by simp [matchB, List.range_succ, List.all_append]
/-- The first place from which the word of m stands there. -/
def firstAt (f : Nat → Int) (n : Nat) (g : Nat → Int) (m : Nat) : Option Nat := (List.range n).find? fun i => matchB f n g i m
theorem firstAt_yes {f : Nat → Int} {n : Nat} {g : Nat → Int} {m k : Nat} (hk : k < n) (h : matchB f n g k m = true) (hno : ∀ j, j < k → matchB f n g j m = false) : firstAt f n g m = some k := by
  unfold firstAt
  rw [List.find?_range_eq_some]
  exact ⟨h, by simpa using hk, fun j hj => by simp [hno j hj]⟩
theorem firstAt_no {f : Nat → Int} {n : Nat} {g : Nat → Int} {m : Nat} (hno : ∀ j, j < n → matchB f n g j m = false) : firstAt f n g m = none := by
  unfold firstAt
  rw [List.find?_eq_none]
  intro j hj
  have : j < n := by simpa using hj
  simp [hno j this]

theorem l02Bits_any (A : Option Addr) (n c B : Nat) (f : Nat → Int) (most : Nat) (w : World) (hn : n ≤ 1048576) (hm : most ≤ 1000) (h : Row w B A n (fun j => .int .i64 (f j))) :
    Calls Try.prog 33 #[.slice A n c, .int .i64 most] w fun e w' => e = .returned (.bool (bitsB f n most)) ∧ w = w' := by
  by_cases h1 : 1 ≤ n
  · by_cases h2 : n ≤ most
    · have hd : bitsB f n most = allBits f n := by unfold bitsB; rw [decide_eq_true h1, decide_eq_true h2]; rfl
      rw [hd]
      clear hd
      have hb1 : decide ((n : Int) < 1) = false := by rw [decide_eq_false_iff_not]; omega
      have hb2 : decide (most < n) = false := by rw [decide_eq_false_iff_not]; omega
      go_enter Try.func33, Try.ntmps33
      go_wp2
      go_loop [5] (fun i => ∃ k : Nat, k ≤ n ∧ i = .int .i64 k ∧ ∀ j, j < k → inB (f j) 0 1 = true) (fun i => n - (intOf i).toNat)
      case atStart => exact ⟨0, Nat.zero_le _, rfl, fun j hj => absurd hj (by omega)⟩
      case round =>
        obtain ⟨k, hk, rfl, hall⟩ := hrel
        by_cases hlt : k < n
        · obtain ⟨b, off, rfl, _, hc⟩ := h (by omega)
          have h3 := hc k hlt
          clear hc h
          rcases inB_cases (f k) 0 1 with ⟨hin, _, _⟩ | ⟨hin, _⟩
          · have HA := Lib.hid (show ∀ j, j < k + 1 → inB (f j) 0 1 = true from fun j hj => by
              by_cases e : j = k
              · subst e; exact hin
              · exact hall j (by omega))
            have Hin := Lib.hid hin
            clear hin hall
            go_wp2_with (go_at_call 25; refine (l00In_any _ _ _ _).mono ?_; rw [Hin.out]; rintro e w' ⟨rfl, rfl⟩)
            go_round
            case rel => exact ⟨k + 1, by omega, by go_num, HA.out⟩
            case measure => simp [intOf]; omega
          · have hno := Lib.hid (allBits_no hlt hin)
            have Hin := Lib.hid hin
            clear hin hall
            go_wp2_with (go_at_call 25; refine (l00In_any _ _ _ _).mono ?_; rw [Hin.out]; rintro e w' ⟨rfl, rfl⟩)
            go_ret
            exact ⟨ret_bool hno.out.symm, rfl⟩
        · have hke : k = n := by omega
          subst hke
          have hy := Lib.hid (allBits_yes hall)
          clear hlt hall
          go_wp2
          go_ret
          exact ⟨ret_bool hy.out.symm, rfl⟩
    · have hd : bitsB f n most = false := by unfold bitsB; rw [decide_eq_false h2]; simp
      rw [hd]
      have h3 : most < n := by omega
      clear hd h2
      go_enter Try.func33, Try.ntmps33
      go_wp2_with fail
      go_ret
      exact ⟨rfl, rfl⟩
  · have hd : bitsB f n most = false := by unfold bitsB; rw [decide_eq_false h1]; rfl
    rw [hd]
    obtain rfl : n = 0 := by omega
    clear hd h1
    go_enter Try.func33, Try.ntmps33
    go_wp2_with fail
    go_ret
    exact ⟨rfl, rfl⟩
theorem notBit_any (x : Int) (w : World) : Calls Try.prog 38 #[.int .i64 x] w fun e w' => e = .returned (.bool (!inB x 0 1)) ∧ w = w' := by
  go_enter Try.func38, Try.ntmps38
  go_wp2_with (go_at_call 27; refine (within_any _ _ _ _).mono ?_; rintro e w' ⟨rfl, rfl⟩)
  go_ret
  exact ⟨rfl, rfl⟩
set_option maxHeartbeats 800000 in
theorem idxBits (A : Option Addr) (n c B : Nat) (f : Nat → Int) (w : World) (hn : n ≤ 1048576) (h : Row w B A n (fun j => .int .i64 (f j))) :
    Calls Try.prog 40 #[.slice A n c, .func (.func 38) #[] #[]] w fun e w' => (∃ r : Int, e = .returned (.int .i64 r) ∧ decide (0 ≤ r) = !allBits f n) ∧ w = w' := by
  go_enter Try.func40, Try.ntmps40
  go_wp2
  go_loop [8] (fun i => ∃ k : Nat, k ≤ n ∧ i = .int .i64 k ∧ ∀ j, j < k → inB (f j) 0 1 = true) (fun i => n - (intOf i).toNat)
  case atStart => exact ⟨0, Nat.zero_le _, rfl, fun j hj => absurd hj (by omega)⟩
  case round =>
    obtain ⟨k, hk, rfl, hall⟩ := hrel
    by_cases hlt : k < n
    · obtain ⟨b, off, rfl, _, hc⟩ := h (by omega)
      have h3 := hc k hlt
      clear hc h
      rcases inB_cases (f k) 0 1 with ⟨hin, _, _⟩ | ⟨hin, _⟩
      · have HA := Lib.hid (show ∀ j, j < k + 1 → inB (f j) 0 1 = true from fun j hj => by
          by_cases e : j = k
          · subst e; exact hin
          · exact hall j (by omega))
        have Hin := Lib.hid hin
        clear hin hall
        go_wp2_with (go_at_call 38; refine (notBit_any _ _).mono ?_; rw [Hin.out]; rintro e w' ⟨rfl, rfl⟩)
        go_round
        case rel => exact ⟨k + 1, by omega, by go_num, HA.out⟩
        case measure => simp [intOf]; omega
      · have hno := Lib.hid (allBits_no hlt hin)
        have Hin := Lib.hid hin
        clear hin hall
        go_wp2_with (go_at_call 38; refine (notBit_any _ _).mono ?_; rw [Hin.out]; rintro e w' ⟨rfl, rfl⟩)
        go_ret
        exact ⟨⟨_, rfl, by rw [hno.out, decide_eq_true (by omega)]; rfl⟩, rfl⟩
    · have hke : k = n := by omega
      subst hke
      have hy := Lib.hid (allBits_yes hall)
      clear hlt hall
      go_wp2
      go_ret
      exact ⟨⟨-1, rfl, by rw [hy.out]; rfl⟩, rfl⟩
theorem containsBits (A : Option Addr) (n c B : Nat) (f : Nat → Int) (w : World) (hn : n ≤ 1048576) (h : Row w B A n (fun j => .int .i64 (f j))) :
    Calls Try.prog 37 #[.slice A n c, .func (.func 38) #[] #[]] w fun e w' => e = .returned (.bool (!allBits f n)) ∧ w = w' := by
  go_enter Try.func37, Try.ntmps37
  go_wp2_with fail
  refine (idxBits A n c B f _ hn h).mono ?_
  rintro e w' ⟨⟨r, rfl, hr⟩, rfl⟩
  have HR := Lib.hid hr
  clear hr
  go_wp2_with fail
  all_goals
    go_ret
    refine ⟨ret_bool ?_, rfl⟩
    rw [← HR.out]
theorem areBits_any (A : Option Addr) (n c B : Nat) (f : Nat → Int) (most : Nat) (w : World) (hn : n ≤ 1048576) (hm : most ≤ 1000) (h : Row w B A n (fun j => .int .i64 (f j))) :
    Calls Try.prog 34 #[.slice A n c, .int .i64 1, .int .i64 most] w fun e w' => e = .returned (.bool (bitsB f n most)) ∧ w = w' := by
  by_cases h1 : 1 ≤ n
  · by_cases h2 : n ≤ most
    · have hd : bitsB f n most = allBits f n := by unfold bitsB; rw [decide_eq_true h1, decide_eq_true h2]; rfl
      rw [hd]
      clear hd
      have HC := Lib.hid (fun W (hr : Row W B A n (fun j => .int .i64 (f j))) => containsBits A n c B f W hn hr)
      have HH := Lib.hid h
      clear h
      generalize allBits f n = t at *
      go_enter Try.func34, Try.ntmps34
      go_wp2_with fail
      refine (HC.out _ HH.out).mono ?_
      rintro e w' ⟨rfl, rfl⟩
      go_wp2_with fail
      go_ret
      exact ⟨ret_bool (by cases t <;> rfl), rfl⟩
    · have hd : bitsB f n most = false := by unfold bitsB; rw [decide_eq_false h2]; simp
      rw [hd]
      have h3 : most < n := by omega
      clear hd h2
      go_enter Try.func34, Try.ntmps34
      go_wp2_with fail
      go_ret
      exact ⟨rfl, rfl⟩
  · have hd : bitsB f n most = false := by unfold bitsB; rw [decide_eq_false h1]; rfl
    rw [hd]
    obtain rfl : n = 0 := by omega
    clear hd h1
    go_enter Try.func34, Try.ntmps34
    go_wp2_with fail
    go_ret
    exact ⟨rfl, rfl⟩
end Go.Proofs.Ytajbepbggfbmpaa
