/- SineTurns: contracts and the law. -/
import Derived.Test.YtecncnkbgfjdcaaZWSine2
set_option linter.unusedVariables false
set_option linter.unusedSimpArgs false
namespace Go.Proofs.Ytecncnkbgfjdcaa
open Ieee Go.RowKit near


/-- A float64's sine by kinds: sv is the value below 2^52. -/
def SW (r : Nat) (v : Option Nat) : Option Nat := if rg FloatKind.f64.format r < 9218868437227405312 then (if 4841369599423283200 ≤ rg FloatKind.f64.format r then some 0 else v) else none

/-- The sine's value of a small one. -/
def SVal (x : Nat) (v : Option Nat) : Prop := rg FloatKind.f64.format x < 4841369599423283200 → ∃ n tr W y0 z, Cut x n tr W y0 z ∧ v = sineT (sP1 (some y0))
theorem sval_ex (x : Nat) : ∃ v, SVal x v ∧ UB v 1176 := by
  by_cases h : rg FloatKind.f64.format x < 4841369599423283200
  · obtain ⟨n, tr, W, y0, z, hc⟩ := cut_all h
    exact ⟨_, fun _ => ⟨n, tr, W, y0, z, hc, rfl⟩, sineT_ub (UB.sP1 hc.ub)⟩
  · exact ⟨none, fun h' => absurd h' h, UB.none_ _⟩

theorem SW_ub {x : Nat} {v : Option Nat} (h : UB v 1176) : UB (SW x v) 1176 := by
  unfold SW
  split
  · split
    · exact (ub_of_B (E := 0) (by decide +kernel)).mono (by omega)
    · exact h
  · exact UB.none_ _
theorem isHuge_any (x : Nat) (hx : x < 18446744073709551616) (h : Fin64 x) (w : World) : Calls Try.prog 34 #[.float .f64 x] w fun e w' => e = .returned (.bool (decide (4841369599423283200 ≤ rg FloatKind.f64.format x))) ∧ w = w' := by
  have hb : x % 9223372036854775808 ≤ 2047 * 4503599627370496 := by
    have : rg FloatKind.f64.format x < 9218868437227405312 := h
    have e : rg FloatKind.f64.format x = x % 9223372036854775808 := rfl
    omega
  have hd := Lib.hid (ge_pos (x := x % 9223372036854775808) (y := 4841369599423283200) hb (by omega))
  clear hb h
  go_enter Try.func34, Try.ntmps34
  go_wp2_with (go_at_call 51; refine (abs_any x hx _).mono ?_; rintro e w' ⟨rfl, rfl⟩)
  go_ret
  exact ⟨ret_bool hd.out, rfl⟩
theorem fin_wide {x r : Nat} (hr : FIs .f64 r (fwide (val .f32 x))) : Fin64 r ↔ finB (val .f32 x) = true := by
  cases hn : (FloatKind.f32.decode x).isNaN with
  | true =>
    have h1 := hr.out
    rw [val_none hn] at h1 ⊢
    have h2 := val_eq_none h1
    rw [decode_isNaN, decide_eq_true_eq, inf64] at h2
    constructor
    · intro h
      have : rg FloatKind.f64.format r < 9218868437227405312 := h
      have e : rg FloatKind.f64.format r = r % FloatKind.f64.format.signWeight := rfl
      omega
    · intro h; cases h
  | false =>
    have W := wide_of hn hr
    have hle := not_nan_rg hn
    rw [inf32] at hle
    have hle2 := not_nan_rg W.num
    rw [inf64] at hle2
    by_cases hi : rg FloatKind.f32.format x = 2139095040
    · rw [finB_inf hn hi]
      constructor
      · intro h
        have : rg FloatKind.f64.format r < 9218868437227405312 := h
        have := W.inf.2 hi
        omega
      · intro h; cases h
    · rw [finB_num hn (by omega)]
      refine ⟨fun _ => rfl, fun _ => ?_⟩
      have h3 : rg FloatKind.f64.format r ≠ 9218868437227405312 := fun h => hi (W.inf.1 h)
      show rg FloatKind.f64.format r < 9218868437227405312
      omega
/-- The float64 that a float32 is widened to; of a NaN, some NaN. -/
def wideW (x : Nat) : Nat := FloatKind.f64.encode (FloatKind.f32.decode x)
theorem wide_eq {x r : Nat} (hn : (FloatKind.f32.decode x).isNaN = false) (hr : FIs .f64 r (fwide (val .f32 x))) : r = wideW x := by
  have := hr.out
  rw [val_some hn] at this
  exact (val_eq_some this).1.symm

/-- What SineTurns answers; v is the wide sine of a small one. -/
def STv (x : Nat) (v : Option Nat) : Option Nat := if finB (val .f32 x) then fnarrow (SW (wideW x) v) else none
theorem finB_nan {x : Nat} (h : finB (val .f32 x) = true) : (FloatKind.f32.decode x).isNaN = false := by
  cases hn : (FloatKind.f32.decode x).isNaN with
  | true => rw [val_none hn] at h; cases h
  | false => rfl
theorem STv_of {x r : Nat} {v : Option Nat} (hr : FIs .f64 r (fwide (val .f32 x))) : fnarrow (SW r v) = STv x v := by
  unfold STv
  cases hf : finB (val .f32 x) with
  | true =>
    rw [if_pos rfl, wide_eq (finB_nan hf) hr]
  | false =>
    rw [if_neg Bool.false_ne_true]
    have : ¬ Fin64 r := fun h => by have := (fin_wide hr).1 h; rw [hf] at this; cases this
    unfold SW
    rw [if_neg (show ¬ rg FloatKind.f64.format r < 9218868437227405312 from this)]; rfl
theorem SVal_of {x r : Nat} {v : Option Nat} (hv : finB (val .f32 x) = true → SVal (wideW x) v) (hr : FIs .f64 r (fwide (val .f32 x))) : SVal r v := by
  intro h
  have hf : finB (val .f32 x) = true := (fin_wide hr).1 (show rg FloatKind.f64.format r < 9218868437227405312 by omega)
  have e := wide_eq (finB_nan hf) hr
  subst e
  exact hv hf h
end Go.Proofs.Ytecncnkbgfjdcaa
