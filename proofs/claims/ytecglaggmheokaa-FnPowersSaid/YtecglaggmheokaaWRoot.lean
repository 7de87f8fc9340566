/- RootNumber, FlushNumber, FromBits: contracts and laws. -/
import Derived.Test.YtecglaggmheokaaSameF
import Derived.Test.YtecglaggmheokaaWSame
set_option linter.unusedVariables false
set_option linter.unusedSimpArgs false
namespace Go.Proofs.Ytecglaggmheokaa
open Go.RowKit

/-- A float of the value v is returned; nothing has turned but the count of draws. -/
def RetF (k : FloatKind) (v : Option Nat) (w : World) (e : Ending) (w' : World) : Prop := ∃ r n, e = .returned (.float k r) ∧ FIs k r v ∧ w' = w.drewN n

/-- What is left of a number: of one below the least normal number, a zero of its sign. -/
def flushV (v : Option Nat) : Option Nat := v.map fun b => if b % 2147483648 < 8388608 then b / 2147483648 * 2147483648 else b

theorem l01From_any (n : Nat) (hn : n < 4294967296) (w : World) : Calls Try.prog 45 #[.int .i64 n] w fun e w' => e = .returned (.float .f32 n) ∧ w = w' := by
  go_enter Try.func45, Try.ntmps45
  go_wp2_with fail
  go_ret
  exact ⟨rfl, rfl⟩
theorem l01Flush_any (x : Nat) (hx : x < 4294967296) (w : World) : Calls Try.prog 48 #[.float .f32 x] w fun e w' => RetF .f32 (flushV (val .f32 x)) w e w' := by
  cases hv : val .f32 x with
  | none =>
    have hand : bits .and .i64 2143289344 2139095040 = 2139095040 := by decide +kernel
    have HF := Lib.hid (FIs.mk (k := .f32) hv (show x < 2 ^ 32 from hx))
    go_enter Try.func48, Try.ntmps48
    go_wp2_with (go_at_call 76; refine (specBits_none x hx hv _).mono ?_; rintro e w' ⟨rfl, rfl⟩)
    go_ret
    exact ⟨_, 0, rfl, HF.out, rfl⟩
  | some b =>
    obtain rfl : x = b := (val_eq_some hv).1.symm
    have hand := i64_and_of x 2139095040 (by omega) (by omega)
    rw [expo_and, show ((2139095040 : Nat) : Int) = (2139095040 : Int) from rfl] at hand
    have hsig := i64_and_of x 2147483648 (by omega) (by omega)
    rw [show ((2147483648 : Nat) : Int) = (2147483648 : Int) from rfl, show x &&& 2147483648 = x % 4294967296 / 2147483648 * 2147483648 from nat_midmask 32 31 x (by decide), Nat.mod_eq_of_lt hx] at hsig
    by_cases h1 : x % 2147483648 < 8388608
    · have hb : (bits .and .i64 (x : Int) 2139095040 == 0) = true := by rw [hand, Nat.div_eq_of_lt h1]; rfl
      have HF : Hid (FIs .f32 (x / 2147483648 * 2147483648) (flushV (some x))) := by
        refine Lib.hid (FIs.mk ?_ (show _ < 4294967296 by omega))
        show _ = some (if x % 2147483648 < 8388608 then x / 2147483648 * 2147483648 else x)
        rw [if_pos h1]
        refine val_some ?_
        rw [decode_isNaN, sw32, decide_eq_false_iff_not, Nat.mul_mod_left]
        omega
      have hlt : x / 2147483648 * 2147483648 < 4294967296 := by omega
      clear hand h1
      generalize x / 2147483648 * 2147483648 = z at *
      go_enter Try.func48, Try.ntmps48
      go_wp2_with (first | (go_at_call 76; refine (specBits_some x hx hv _).mono ?_; rintro e w' ⟨rfl, rfl⟩) | (go_at_call 45; refine (l01From_any z hlt _).mono ?_; rintro e w' ⟨rfl, rfl⟩))
      go_ret
      exact ⟨_, 0, rfl, HF.out, rfl⟩
    · have hb : (bits .and .i64 (x : Int) 2139095040 == 0) = false := by
        rw [hand]
        have : 1 ≤ x % 2147483648 / 8388608 := (Nat.le_div_iff_mul_le (by omega)).2 (by omega)
        simp only [beq_eq_false_iff_ne, ne_eq]
        omega
      have HF : Hid (FIs .f32 x (flushV (some x))) := by
        refine Lib.hid (FIs.mk ?_ (show _ < 4294967296 by omega))
        show _ = some (if x % 2147483648 < 8388608 then x / 2147483648 * 2147483648 else x)
        rw [if_neg h1]
        exact hv
      clear hand h1 hsig
      go_enter Try.func48, Try.ntmps48
      go_wp2_with (go_at_call 76; refine (specBits_some x hx hv _).mono ?_; rintro e w' ⟨rfl, rfl⟩)
      go_ret
      exact ⟨_, 0, rfl, HF.out, rfl⟩
theorem specFlush_any (x : Nat) (hx : x < 4294967296) (w : World) : Calls Try.prog 18 #[.float .f32 x] w fun e w' => RetF .f32 (flushV (val .f32 x)) w e w' := by
  go_enter Try.func18, Try.ntmps18
  go_wp2_with (go_at_call 48; refine (l01Flush_any x hx _).mono ?_; rintro e w' ⟨r, n, rfl, hr, rfl⟩)
  go_ret
  exact ⟨_, _, rfl, hr, rfl⟩
theorem copysign_zero (r : Nat) (hr : r < 18446744073709551616) (w : World) : Calls Try.prog 50 #[.float .f64 0, .float .f64 r] w fun e w' => e = .returned (.float .f64 (r / 9223372036854775808 * 9223372036854775808)) ∧ w = w' := by
  have h1 : bits .andNot .u64 0 9223372036854775808 = 0 := by decide +kernel
  have h2 := u64_and_nat r 9223372036854775808 hr (by omega)
  rw [show ((9223372036854775808 : Nat) : Int) = (9223372036854775808 : Int) from rfl, show r &&& 9223372036854775808 = r % 18446744073709551616 / 9223372036854775808 * 9223372036854775808 from nat_midmask 64 63 r (by decide), Nat.mod_eq_of_lt hr] at h2
  have h3 := u64_or_nat 0 (r / 9223372036854775808 * 9223372036854775808) (by omega) (by omega)
  rw [Nat.zero_or] at h3
  generalize r / 9223372036854775808 * 9223372036854775808 = q at *
  go_enter Try.func50, Try.ntmps50
  go_wp2_with fail
  go_ret
  refine ⟨ret_float ?_, rfl⟩
  rw [show (0 : Int) = ((0 : Nat) : Int) from rfl, h3, Int.toNat_natCast]
/-- The zero of a sign. -/
def zeroOf (s : Nat) : Nat := s * 9223372036854775808
theorem fits_zero (s : Nat) (hs : s < 2) : fitsNarrow (val .f64 (zeroOf s)) := by
  unfold zeroOf
  have : s = 0 ∨ s = 1 := by omega
  rcases this with rfl | rfl
  · intro b hb _ _
    rw [show val .f64 (0 * 9223372036854775808) = some 0 by decide +kernel] at hb
    cases hb; decide +kernel
  · intro b hb _ _
    rw [show val .f64 (1 * 9223372036854775808) = some 9223372036854775808 by decide +kernel] at hb
    cases hb; decide +kernel
theorem narrow_zero (s : Nat) (hs : s < 2) : fnarrow (val .f64 (zeroOf s)) = some (s * 2147483648) := by
  unfold zeroOf
  have : s = 0 ∨ s = 1 := by omega
  rcases this with rfl | rfl
  · decide +kernel
  · decide +kernel
theorem sign_wide {x r : Nat} (hx : x < 4294967296) (hr0 : r < 18446744073709551616) (hn : (FloatKind.f32.decode x).isNaN = false) (hr : FIs .f64 r (fwide (val .f32 x))) : r / 9223372036854775808 = x / 2147483648 := by
  have h := sgn_wide hn hr
  have h1 : (r / 9223372036854775808 % 2 == 1) = (x / 2147483648 % 2 == 1) := h
  have a1 : x / 2147483648 < 2 := by omega
  have a2 : r / 9223372036854775808 < 2 := by omega
  generalize x / 2147483648 = a at *
  generalize r / 9223372036854775808 = b at *
  have ha : a = 0 ∨ a = 1 := by omega
  have hb : b = 0 ∨ b = 1 := by omega
  rcases ha with rfl | rfl <;> rcases hb with rfl | rfl <;> simp at h1 <;> rfl

theorem copysign_of (x r : Nat) (hx : x < 4294967296) (hr64 : r < 18446744073709551616) (hn : (FloatKind.f32.decode x).isNaN = false) (hr : FIs .f64 r (fwide (val .f32 x))) (w : World) :
    Calls Try.prog 50 #[.float .f64 0, .float .f64 r] w fun e w' => e = .returned (.float .f64 (zeroOf (x / 2147483648))) ∧ w = w' := by
  have h := copysign_zero r hr64 w
  rw [sign_wide hx hr64 hn hr] at h
  exact h
theorem implFlush_any (x : Nat) (hx : x < 4294967296) (w : World) : Calls Try.prog 19 #[.float .f32 x] w fun e w' => RetF .f32 (flushV (val .f32 x)) w e w' := by
  cases hs : subB (val .f32 x) with
  | false =>
    have HF : Hid (FIs .f32 x (flushV (val .f32 x))) := by
      cases hv : val .f32 x with
      | none => exact Lib.hid (FIs.mk hv (show x < 4294967296 from hx))
      | some b =>
        obtain rfl : x = b := (val_eq_some hv).1.symm
        refine Lib.hid (FIs.mk (hv.trans ?_) (show x < 4294967296 from hx))
        show some x = some (if x % 2147483648 < 8388608 then x / 2147483648 * 2147483648 else x)
        rw [hv] at hs
        by_cases h1 : x % 2147483648 < 8388608
        · have h0 : x % 2147483648 = 0 := by
            unfold subB at hs
            by_cases h : x % 2147483648 = 0
            · exact h
            · simp [h, h1] at hs
          rw [if_pos h1]
          congr 1; omega
        · rw [if_neg h1]
    go_enter Try.func19, Try.ntmps19
    go_wp2_with (go_at_call 49; refine (implSub_any x hx _).mono ?_; rw [hs]; rintro e w' ⟨rfl, n, rfl⟩)
    go_ret
    exact ⟨_, _, rfl, HF.out, rfl⟩
  | true =>
    have hv : val .f32 x = some x := by
      cases hv : val .f32 x with
      | none => rw [hv] at hs; cases hs
      | some b => rw [(val_eq_some hv).1]
    have hn : (FloatKind.f32.decode x).isNaN = false := (val_eq_some hv).2
    have hsm : x % 2147483648 < 8388608 := by
      rw [hv] at hs
      unfold subB at hs
      simp at hs; omega
    have HF : Hid (flushV (val .f32 x) = some (x / 2147483648 * 2147483648)) := by
      refine Lib.hid ?_
      rw [hv]
      show some (if x % 2147483648 < 8388608 then x / 2147483648 * 2147483648 else x) = _
      rw [if_pos hsm]
    have hlt : x / 2147483648 < 2 := by omega
    clear hv hsm
    go_enter Try.func19, Try.ntmps19
    go_wp2_with (first | (go_at_call 49; refine (implSub_any x hx _).mono ?_; rw [hs]; rintro e w' ⟨rfl, n, rfl⟩) | (refine wpList_wide rfl _ _ _ rfl (by kernel_rfl) (by kernel_rfl) _ rfl ?_; intro r m hr; have hr64 := hr.lt64))
    refine (copysign_of x r hx hr64 hn hr _).mono ?_
    rintro e w' ⟨rfl, rfl⟩
    have hfit := Lib.hid (fits_zero (x / 2147483648) hlt)
    generalize hq : zeroOf (x / 2147483648) = q at *
    have Hq := Lib.hid hq
    clear hq
    go_wp2_with (refine wpList_narrow rfl _ _ _ rfl (by kernel_rfl) (by kernel_rfl) _ rfl hfit.out ?_; intro r2 m2 hr2)
    go_ret
    refine ⟨_, _, rfl, ?_, rfl⟩
    rw [HF.out, ← narrow_zero (x / 2147483648) hlt, Hq.out]
    exact hr2
set_option maxHeartbeats 800000 in
/-- FnExactFlushNumber: over the contracts of both sides: results of one value. -/
theorem fnExactFlushNumber_core (x : Nat) (v : Option Nat)
    (hS : ∀ w : World, Calls Try.prog 18 #[.float .f32 x] w fun e w' => RetF .f32 v w e w')
    (hI : ∀ w : World, Calls Try.prog 19 #[.float .f32 x] w fun e w' => RetF .f32 v w e w') (w : World) :
    Calls Try.prog 4 #[.float .f32 x] w fun e w' => e = .returned (.bool true) ∧ Below w.heap.size w w' := by
  have HS := Lib.hid hS
  have HI := Lib.hid hI
  clear hS hI
  go_enter Try.func4, Try.ntmps4
  go_wp2_with fail
  refine (HS.out _).mono ?_
  rintro e w1 ⟨r1, n1, rfl, hr1, rfl⟩
  go_wp2_with fail
  refine (HI.out _).mono ?_
  rintro e w2 ⟨r2, n2, rfl, hr2, rfl⟩
  have tok : True := trivial
  go_wp2_with (first | (have _t := tok; refine wpList_wide rfl _ _ _ rfl (by kernel_rfl) (by kernel_rfl) _ rfl ?_; intro a1 m1 ha1; clear tok) | (refine wpList_wide rfl _ _ _ rfl (by kernel_rfl) (by kernel_rfl) _ rfl ?_; intro a2 m2 ha2))
  rw [hr2.out] at ha1
  rw [hr1.out] at ha2
  refine (sameFloat_same _ _ _ ha1 ha2 _).mono ?_
  rintro e w5 ⟨rfl, n5, rfl⟩
  go_wp2_with fail
  go_ret
  exact ⟨rfl, below_drewN_self _ _⟩
theorem fnExactFlushNumber_walk (x : Nat) (wf : (Lit.float .f32 x).wf = true) (w : World) : Calls Try.prog 4 #[.float .f32 x] w fun e w' => e = .returned (.bool true) ∧ Below w.heap.size w w' := by
  have hx : x < 4294967296 := by simpa [Lit.wf] using wf
  exact fnExactFlushNumber_core x _ (fun w => specFlush_any x hx w) (fun w => implFlush_any x hx w) w
end Go.Proofs.Ytecglaggmheokaa
