/- Contract: SameNumber of the program. -/
import Derived.Test.YtbgijclhnkbeiaaWSub2
set_option linter.unusedVariables false
set_option linter.unusedSimpArgs false
namespace Go.Proofs.Ytbgijclhnkbeiaa
open Go.RowKit near

theorem nan_bits : val .f32 2143289344 = none := by decide +kernel

theorem bitsZ_none_some {x b : Nat} (h : val .f32 x = some b) : (bitsZ (some b) == bitsZ none) = false := by
  rw [beq_eq_false_iff_ne]
  intro e
  have e1 : (b : Int) = 2143289344 := e
  have e2 : b = 2143289344 := by omega
  have e3 := val_val h
  rw [e2, nan_bits] at e3
  cases e3

theorem sgn_wide {x r : Nat} (hn : (FloatKind.f32.decode x).isNaN = false) (hr : FIs .f64 r (fwide (val .f32 x))) : sgn FloatKind.f64.format r = sgn FloatKind.f32.format x := by
  have hle := not_nan_rg hn
  rw [inf32] at hle
  have hv : r = FloatKind.f64.encode (FloatKind.f32.decode x) := by
    have := hr.out
    rw [val_some hn] at this
    exact (val_eq_some this).1.symm
  by_cases hi : rg FloatKind.f32.format x = 2139095040
  · rw [hv, wide_inf hi]; exact sgn_word .f64 _ _ (by rw [sw64]; omega)
  · obtain ⟨q, hq, hql, hu⟩ := wide_number (b := x) (by omega)
    rw [hv, hq]; exact sgn_word .f64 _ _ (by rw [sw64]; omega)

theorem order_same {x y : Nat} (hx : (FloatKind.f32.decode x).isNaN = false) (hy : (FloatKind.f32.decode y).isNaN = false) :
    (FloatKind.f32.format.order x y == some .eq) = decide (Z FloatKind.f32.format x = Z FloatKind.f32.format y) := by
  rw [order_Z .f32 x y (not_nan_rg hx) (not_nan_rg hy)]
  rcases Int.lt_trichotomy (Z FloatKind.f32.format x) (Z FloatKind.f32.format y) with h | h | h
  · rw [cmp_lt h, decide_eq_false (by omega)]; rfl
  · rw [cmp_eq h, decide_eq_true h]; rfl
  · rw [cmp_gt h, decide_eq_false (by omega)]; rfl

theorem same_word {x y : Nat} (hx : x < 4294967296) (hy : y < 4294967296) (hz : Z FloatKind.f32.format x = Z FloatKind.f32.format y) (hs : sgn FloatKind.f32.format x = sgn FloatKind.f32.format y) : x = y := by
  have h1 : units FloatKind.f32.format (rg FloatKind.f32.format x) = units FloatKind.f32.format (rg FloatKind.f32.format y) := by
    unfold Z at hz
    rw [hs] at hz
    split at hz <;> omega
  have h2 := units_inj _ h1
  rw [← word_of .f32 x hx, ← word_of .f32 y hy, hs, h2]

theorem implSame_any (x y : Nat) (hx : x < 4294967296) (hy : y < 4294967296) (w : World) : Calls Try.prog 20 #[.float .f32 x, .float .f32 y] w fun e w' => e = .returned (.bool (bitsZ (val .f32 x) == bitsZ (val .f32 y))) ∧ ∃ n, w' = w.drewN n := by
  have hne := ne_self .f32 x
  have hne2 := ne_self .f32 y
  cases hv : val .f32 x with
  | none =>
    rw [hv] at hne
    cases hv2 : val .f32 y with
    | none =>
      rw [hv2] at hne2
      clear hv hv2
      go_enter Try.func20, Try.ntmps20
      go_wp2_with fail
      go_ret
      exact ⟨rfl, 0, rfl⟩
    | some b =>
      rw [hv2] at hne2
      have hb := bitsZ_none_some hv2
      rw [Bool.beq_comm] at hb
      clear hv hv2
      rw [hb]
      clear hb
      go_enter Try.func20, Try.ntmps20
      go_wp2_with fail
      go_ret
      exact ⟨rfl, 0, rfl⟩
  | some a =>
    obtain rfl : x = a := (val_eq_some hv).1.symm
    have hn := (val_eq_some hv).2
    rw [hv] at hne
    cases hv2 : val .f32 y with
    | none =>
      rw [hv2] at hne2
      have hb := bitsZ_none_some hv
      clear hv hv2
      rw [hb]
      clear hb
      go_enter Try.func20, Try.ntmps20
      go_wp2_with fail
      go_ret
      exact ⟨rfl, 0, rfl⟩
    | some b =>
      obtain rfl : y = b := (val_eq_some hv2).1.symm
      have hn2 := (val_eq_some hv2).2
      rw [hv2] at hne2
      have ho := order_same hn hn2
      have hq : (bitsZ (some x) == bitsZ (some y)) = decide (x = y) := by
        show ((x : Int) == (y : Int)) = _
        by_cases h : x = y
        · subst h; simp
        · rw [decide_eq_false h, beq_eq_false_iff_ne]; omega
      rw [hq]
      clear hq hv hv2
      by_cases hz : Z FloatKind.f32.format x = Z FloatKind.f32.format y
      · rw [decide_eq_true hz] at ho
        have Hz := Lib.hid hz
        clear hz
        go_enter Try.func20, Try.ntmps20
        go_wp2_with (refine wpList_wide rfl _ _ _ rfl (by kernel_rfl) (by kernel_rfl) _ rfl ?_; intro r n hr; have hlt := hr.lt64)
        refine (signbit_any _ hlt _).mono ?_
        rintro e w' ⟨rfl, rfl⟩
        go_wp2_with (refine wpList_wide rfl _ _ _ rfl (by kernel_rfl) (by kernel_rfl) _ rfl ?_; intro r2 n2 hr2; have hlt2 := hr2.lt64)
        refine (signbit_any _ hlt2 _).mono ?_
        rintro e w' ⟨rfl, rfl⟩
        go_wp2_with fail
        go_ret
        refine ⟨ret_bool ?_, _, rfl⟩
        have h1 := sgn_wide hn hr
        have h2 := sgn_wide hn2 hr2
        show (sgn FloatKind.f64.format r == sgn FloatKind.f64.format r2) = _
        rw [h1, h2]
        by_cases h : x = y
        · subst h; simp
        · rw [decide_eq_false h, beq_eq_false_iff_ne]
          exact fun hs => h (same_word hx hy Hz.out hs)
      · rw [decide_eq_false hz] at ho
        have hxy : decide (x = y) = false := decide_eq_false fun h => hz (by rw [h])
        rw [hxy]
        clear hz hxy
        go_enter Try.func20, Try.ntmps20
        go_wp2_with fail
        go_ret
        exact ⟨rfl, 0, rfl⟩
end Go.Proofs.Ytbgijclhnkbeiaa
