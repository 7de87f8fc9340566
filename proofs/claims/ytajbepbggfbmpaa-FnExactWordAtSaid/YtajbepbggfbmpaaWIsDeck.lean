/- IsDeck: both sides ask whether a list is an order of 0, .., n - 1 with 1 to 52 numbers. -/
import Derived.Test.YtajbepbggfbmpaaToInts
import Derived.Test.YtajbepbggfbmpaaWIn
import Derived.IntWalk
set_option linter.unusedVariables false
set_option linter.unusedSimpArgs false
namespace Go.Proofs.Ytajbepbggfbmpaa
open Go.RowKit

def hasB (f : Nat → Int) (n : Nat) (x : Int) : Bool := (List.range n).any fun j => f j == x
def goodAt (f : Nat → Int) (n i : Nat) : Bool := inB (f i) 0 ((n : Int) - 1) && !hasB f i (f i)
def ordB (f : Nat → Int) (n : Nat) : Bool := (List.range n).all (goodAt f n)
def deckB (f : Nat → Int) (n : Nat) : Bool := decide (1 ≤ n) && (decide (n ≤ 52) && ordB f n)

theorem hasB_succ (f : Nat → Int) (n : Nat) (x : Int) : hasB f (n + 1) x = (hasB f n x || (f n == x)) := by simp [hasB, List.range_succ, List.any_append]
theorem hasB_yes {f : Nat → Int} {n k : Nat} {x : Int} (hk : k < n) (h : f k = x) : hasB f n x = true := by
  unfold hasB; rw [List.any_eq_true]; exact ⟨k, by simp [hk], by simp [h]⟩
theorem hasB_zero (f : Nat → Int) (x : Int) : hasB f 0 x = false := rfl
theorem ordB_no {f : Nat → Int} {n k : Nat} (hk : k < n) (h : goodAt f n k = false) : ordB f n = false := by
  cases ho : ordB f n with
  | false => rfl
  | true =>
    unfold ordB at ho
    rw [List.all_eq_true] at ho
    have := ho k (by simp [hk])
    rw [h] at this; cases this
theorem ordB_yes {f : Nat → Int} {n : Nat} (h : ∀ k, k < n → goodAt f n k = true) : ordB f n = true := by
  unfold ordB; rw [List.all_eq_true]; intro k hk; exact h k (by simpa using hk)

/-- A callee that leaves the world, met inside a region that draws. -/
theorem quietE {P : Program} {f : FuncId} {args : Array Value} {w : World} {n : Nat} {v : Value} (h : Calls P f args (w.drewN n) fun e w' => e = .returned v ∧ w.drewN n = w') :
    Calls P f args (w.drewN n) fun e w'' => e = .returned v ∧ ∃ m, w'' = w.drewN m := h.mono fun _ _ ⟨he, hm⟩ => ⟨he, n, hm.symm⟩

theorem quietA {P : Program} {f : FuncId} {args : Array Value} {w : World} {a n : Nat} {v : Value} (h : Calls P f args (w.drewN (a + n)) fun e w' => e = .returned v ∧ w.drewN (a + n) = w') :
    Calls P f args (w.drewN (a + n)) fun e w'' => e = .returned v ∧ ∃ m, w'' = w.drewN (a + m) := h.mono fun _ _ ⟨he, hm⟩ => ⟨he, n, hm.symm⟩

theorem l02Has_any (A : Option Addr) (n c B : Nat) (f : Nat → Int) (x : Int) (w : World) (hn : n ≤ 1048576) (h : Row w B A n (fun j => .int .i64 (f j))) :
    Calls Try.prog 39 #[.slice A n c, .int .i64 x] w fun e w' => e = .returned (.bool (hasB f n x)) ∧ w = w' := by
  go_enter Try.func39, Try.ntmps39
  go_wp2
  go_loop [5] (fun i => ∃ k : Nat, k ≤ n ∧ i = .int .i64 k ∧ hasB f k x = false) (fun i => n - (intOf i).toNat)
  case atStart => exact ⟨0, Nat.zero_le _, rfl, rfl⟩
  case round =>
    obtain ⟨k, hk, rfl, hno⟩ := hrel
    by_cases hlt : k < n
    · obtain ⟨b, off, rfl, _, hc⟩ := h (by omega)
      have h3 := hc k hlt
      clear hc h
      by_cases hx : f k = x
      · have hy := Lib.hid (hasB_yes hlt hx)
        have ht : (f k == x) = true := by simp [hx]
        clear hx hno
        go_wp2
        go_ret
        exact ⟨ret_bool hy.out.symm, rfl⟩
      · have ht : (f k == x) = false := by simp [hx]
        have hy := Lib.hid (show hasB f (k + 1) x = false by rw [hasB_succ, hno, ht]; rfl)
        clear hx hno
        go_wp2
        go_round
        case rel => exact ⟨k + 1, by omega, by go_num, hy.out⟩
        case measure => simp [intOf]; omega
    · have hke : k = n := by omega
      subst hke
      have hy := Lib.hid hno
      clear hlt hno
      go_wp2
      go_ret
      exact ⟨ret_bool hy.out.symm, rfl⟩
set_option maxHeartbeats 800000 in
theorem l02Orders_any (A : Option Addr) (n c B : Nat) (f : Nat → Int) (w : World) (hn : n ≤ 1048576) (hnc : n ≤ c) (h : Row w B A n (fun j => .int .i64 (f j))) :
    Calls Try.prog 36 #[.slice A n c, .int .i64 n] w fun e w' => e = .returned (.bool (ordB f n)) ∧ ∃ q, w' = w.drewN q := by
  have hne : ((n : Int) != n) = false := by simp
  have hwrap := Lib.hid (show IntKind.i64.wrap ((n : Int) - 1) = (n : Int) - 1 from IntWalk.i64_in _ (by omega))
  go_enter Try.func36, Try.ntmps36
  go_wp2
  go_loopw [5] (fun i wr => ∃ k : Nat, k ≤ n ∧ i = .int .i64 k ∧ (∀ j, j < k → goodAt f n j = true) ∧ ∃ q, wr = w.drewN q) (fun i _ => n - (intOf i).toNat)
  case atStart => exact ⟨0, Nat.zero_le _, rfl, fun j hj => absurd hj (by omega), 0, rfl⟩
  case round =>
    obtain ⟨k, hk, rfl, hall, q, rfl⟩ := hrel
    by_cases hlt : k < n
    · have hrow := h
      obtain ⟨b, off, rfl, hbB, hc⟩ := h (by omega)
      have h3 : w.cell? ⟨b, off + k, none⟩ = some (.int .i64 (f k)) := hc k hlt
      have hrk : Row w B (some ⟨b, off, none⟩) k (fun j => .int .i64 (f j)) := fun _ => ⟨b, off, rfl, hbB, fun j hj => hc j (by omega)⟩
      clear hc hrow
      rcases inB_cases (f k) 0 ((n : Int) - 1) with ⟨hin, hi1, hi2⟩ | ⟨hin, _⟩
      · cases hh : hasB f k (f k) with
        | true =>
          have hno := Lib.hid (ordB_no hlt (show goodAt f n k = false by unfold goodAt; rw [hh]; simp))
          have C1 := Lib.hid (show ∀ W : World, Calls Try.prog 25 #[.int .i64 (f k), .int .i64 0, .int .i64 ((n : Int) - 1)] W fun e w' => e = .returned (.bool true) ∧ W = w' from fun W => by rw [← hin]; exact l00In_any _ _ _ _)
          have C2 := Lib.hid (show ∀ W : World, Row W B (some ⟨b, off, none⟩) k (fun j => .int .i64 (f j)) → Calls Try.prog 39 #[.slice (some ⟨b, off, none⟩) k c, .int .i64 (f k)] W fun e w' => e = .returned (.bool true) ∧ W = w' from fun W hr => by rw [← hh]; exact l02Has_any _ k _ B f (f k) _ (by omega) hr)
          clear hin hh hall hi1 hi2
          generalize hx : f k = x at *
          clear hx
          go_wp2_with fail
          have hwr := hwrap.out
          go_quiet (first | (go_at_call 25; first | exact quietA (C1.out _) | exact quietE (C1.out _)) | (go_at_call 39; first | exact quietA (C2.out _ (hrk.drewN _)) | exact quietE (C2.out _ (hrk.drewN _))))
          clear hwr
          go_wp2
          go_ret
          exact ⟨ret_bool hno.out.symm, q + nq, by rw [World.drewN_drewN]⟩
        | false =>
          have hg : goodAt f n k = true := by unfold goodAt; rw [hin, hh]; rfl
          have hall' : ∀ j, j < k + 1 → goodAt f n j = true := fun j hj => by
            by_cases e : j = k
            · subst e; exact hg
            · exact hall j (by omega)
          have HA := Lib.hid hall'
          have C1 := Lib.hid (show ∀ W : World, Calls Try.prog 25 #[.int .i64 (f k), .int .i64 0, .int .i64 ((n : Int) - 1)] W fun e w' => e = .returned (.bool true) ∧ W = w' from fun W => by rw [← hin]; exact l00In_any _ _ _ _)
          have C2 := Lib.hid (show ∀ W : World, Row W B (some ⟨b, off, none⟩) k (fun j => .int .i64 (f j)) → Calls Try.prog 39 #[.slice (some ⟨b, off, none⟩) k c, .int .i64 (f k)] W fun e w' => e = .returned (.bool false) ∧ W = w' from fun W hr => by rw [← hh]; exact l02Has_any _ k _ B f (f k) _ (by omega) hr)
          clear hin hh hall hi1 hi2 hall' hg
          generalize hx : f k = x at *
          clear hx
          go_wp2_with fail
          have hwr := hwrap.out
          go_quiet (first | (go_at_call 25; first | exact quietA (C1.out _) | exact quietE (C1.out _)) | (go_at_call 39; first | exact quietA (C2.out _ (hrk.drewN _)) | exact quietE (C2.out _ (hrk.drewN _))))
          clear hwr
          go_wp2
          go_roundw
          case rel => exact ⟨k + 1, by omega, by go_num, HA.out, _, rfl⟩
          case measure => simp [intOf]; omega
      · have hno := Lib.hid (ordB_no hlt (show goodAt f n k = false by unfold goodAt; rw [hin]; rfl))
        have C1 := Lib.hid (show ∀ W : World, Calls Try.prog 25 #[.int .i64 (f k), .int .i64 0, .int .i64 ((n : Int) - 1)] W fun e w' => e = .returned (.bool false) ∧ W = w' from fun W => by rw [← hin]; exact l00In_any _ _ _ _)
        clear hin hall hrk
        generalize hx : f k = x at *
        clear hx
        go_wp2_with fail
        have hwr := hwrap.out
        go_quiet ((go_at_call 25; first | exact quietA (C1.out _) | exact quietE (C1.out _)))
        clear hwr
        go_wp2
        go_ret
        exact ⟨ret_bool hno.out.symm, q + nq, by rw [World.drewN_drewN]⟩
    · have hke : k = n := by omega
      subst hke
      have hy := Lib.hid (ordB_yes hall)
      clear hlt hall
      go_wp2
      go_ret
      exact ⟨ret_bool hy.out.symm, _, rfl⟩
theorem l02Deck_any (A : Option Addr) (n c B : Nat) (f : Nat → Int) (w : World) (hn : n ≤ 1048576) (hnc : n ≤ c) (h : Row w B A n (fun j => .int .i64 (f j))) :
    Calls Try.prog 29 #[.slice A n c] w fun e w' => e = .returned (.bool (deckB f n)) ∧ ∃ q, w' = w.drewN q := by
  by_cases h1 : 1 ≤ n
  · by_cases h2 : n ≤ 52
    · have hd : deckB f n = ordB f n := by unfold deckB; rw [decide_eq_true h1, decide_eq_true h2]; rfl
      rw [hd]
      clear hd
      go_enter Try.func29, Try.ntmps29
      go_wp2_with (go_at_call 36; refine (l02Orders_any A n c B f _ hn hnc h).mono ?_; rintro e w' ⟨rfl, q, rfl⟩)
      go_ret
      exact ⟨rfl, _, rfl⟩
    · have hd : deckB f n = false := by unfold deckB; rw [decide_eq_false h2]; simp
      rw [hd]
      have h3 : 52 < n := by omega
      clear hd h2
      go_enter Try.func29, Try.ntmps29
      go_wp2_with fail
      go_ret
      exact ⟨rfl, 0, rfl⟩
  · have hd : deckB f n = false := by unfold deckB; rw [decide_eq_false h1]; rfl
    rw [hd]
    obtain rfl : n = 0 := by omega
    clear hd h1
    go_enter Try.func29, Try.ntmps29
    go_wp2_with fail
    go_ret
    exact ⟨rfl, 0, rfl⟩
theorem specIsDeck_any (A : Option Addr) (n c B : Nat) (f : Nat → Int) (w : World) (hn : n ≤ 1048576) (hnc : n ≤ c) (h : Row w B A n (fun j => .int .i64 (f j))) :
    Calls Try.prog 14 #[.slice A n c] w fun e w' => e = .returned (.bool (deckB f n)) ∧ ∃ q, w' = w.drewN q := by
  go_enter Try.func14, Try.ntmps14
  go_wp2_with (go_at_call 29; refine (l02Deck_any A n c B f _ hn hnc h).mono ?_; rintro e w' ⟨rfl, q, rfl⟩)
  go_ret
  exact ⟨rfl, _, rfl⟩
end Go.Proofs.Ytajbepbggfbmpaa
