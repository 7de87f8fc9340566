/- The loop 'while t is at least a quarter, take a quarter away', determined ahead. -/
import Derived.Test.YtecncnkbgfjdcaaZFAng
set_option linter.unusedVariables false
set_option linter.unusedSimpArgs false
namespace Go.Proofs.Ytecncnkbgfjdcaa
open Ieee near

def qIter (t : Nat) : Nat → Nat
  | 0 => t
  | n + 1 => (floatBits .sub .f64 (qIter t n) 4598175219545276416).getD 0
theorem qIter_succ {t r : Nat} (h : floatBits .sub .f64 t 4598175219545276416 = some r) : ∀ n, qIter t (n + 1) = qIter r n
  | 0 => by show (floatBits .sub .f64 t 4598175219545276416).getD 0 = r; rw [h]; rfl
  | n + 1 => by
    show (floatBits .sub .f64 (qIter t (n + 1)) 4598175219545276416).getD 0 = (floatBits .sub .f64 (qIter r n) 4598175219545276416).getD 0
    rw [qIter_succ h n]
def qGe (t : Nat) : Bool := FloatKind.f64.format.order t 4598175219545276416 == some .gt || FloatKind.f64.format.order t 4598175219545276416 == some .eq

theorem nearest_le (s : Bool) (m : Nat) (e : Int) (q : Nat) (he : -1074 ≤ e) (h : m * 2 ^ (e + 1074).toNat ≤ units FloatKind.f64.format q) : units FloatKind.f64.format (rg FloatKind.f64.format (FloatKind.f64.format.nearest s m e)) ≤ units FloatKind.f64.format q := by
  rw [nearest_eq]
  have hlt : min (rawRung FloatKind.f64.format m e) FloatKind.f64.format.infRung < FloatKind.f64.format.signWeight := by
    refine Nat.lt_of_le_of_lt (Nat.min_le_right _ _) ?_
    rw [inf64, sw64]; omega
  rw [rg_word .f64 _ _ hlt]
  refine units_le _ (Nat.le_trans (Nat.min_le_left _ _) (raw_le _ _ _ _ ?_))
  rw [lp64, show (-1074 - e).toNat = 0 by omega, Nat.pow_zero, Nat.mul_one, show e - -1074 = e + 1074 by omega]
  exact h

theorem units_quarter (N : Nat) (hN : N = 1072) : units FloatKind.f64.format 4598175219545276416 = 2 ^ N := by
  have h1 := units_word (q := 4598175219545276416) (d := 1021) (f := 0) (M := 4503599627370496) (L := 1020) (by omega) (by omega) (by omega) (by omega) (by omega)
  have g := pow_scale3 1020 N 4503599627370496 1 4503599627370496 52 (by decide) (by decide) (by omega)
  exact (h1.trans g).trans (Nat.one_mul _)
theorem mult_rung (k N : Nat) (hN : N = 1072) (hk : k ≤ 8) : ∃ q, units FloatKind.f64.format q = k * 2 ^ N := by
  obtain ⟨q, hq⟩ := represents FloatKind.f64.format k (-2) (by rw [bin64]; omega) (by rw [lp64]; omega)
  rw [lp64, show (-2 - -1074 : Int).toNat = N by omega] at hq
  exact ⟨q, hq⟩

theorem qGe_iff {t : Nat} (h : Fin64 t) (N : Nat) (hN : N = 1072) (hg : qGe t = true) : sgn FloatKind.f64.format t = false ∧ 2 ^ N ≤ units FloatKind.f64.format (rg FloatKind.f64.format t) := by
  have hc : Z FloatKind.f64.format 4598175219545276416 = units FloatKind.f64.format 4598175219545276416 := rfl
  unfold qGe at hg
  rw [order_Z .f64 t 4598175219545276416 (Nat.le_of_lt h) (by decide), hc, units_quarter N hN] at hg
  have hP := Nat.two_pow_pos N
  unfold Z at hg
  generalize 2 ^ N = P at *
  cases hs : sgn FloatKind.f64.format t with
  | true =>
    rw [hs, if_pos rfl, cmp_lt (by omega)] at hg
    cases hg
  | false =>
    refine ⟨rfl, ?_⟩
    rw [hs, if_neg Bool.false_ne_true] at hg
    rcases Nat.lt_or_ge (units FloatKind.f64.format (rg FloatKind.f64.format t)) P with h1 | h1
    · rw [cmp_lt (by omega)] at hg; cases hg
    · exact h1

/-- The loop's way from t: q rounds, and where it ends. -/
structure Quart (t q : Nat) : Prop where
  small : q ≤ 8
  go : ∀ j, j < q → qGe (qIter t j) = true ∧ floatBits .sub .f64 (qIter t j) 4598175219545276416 = some (qIter t (j + 1))
  stop : qGe (qIter t q) = false
  fin : Fin64 (qIter t q)
  ub : UB (some (qIter t q)) 1075

theorem fin_of_units {t : Nat} (N : Nat) (hN : N = 1072) (k : Nat) (hk : k ≤ 8) (h : units FloatKind.f64.format (rg FloatKind.f64.format t) ≤ k * 2 ^ N) : UB (some t) 1075 := by
  intro b hb
  obtain rfl := Option.some.inj hb
  refine Nat.le_trans h ?_
  have h1 := Nat.mul_le_mul_right (2 ^ N) hk
  refine Nat.le_trans h1 (Nat.le_of_eq ?_)
  rw [show 1075 = 3 + N by omega, Nat.pow_add]

theorem quart_of (N : Nat) (hN : N = 1072) : ∀ (k : Nat), k ≤ 8 → ∀ t, units FloatKind.f64.format (rg FloatKind.f64.format t) ≤ k * 2 ^ N → (FloatKind.f64.decode t).isNaN = false → ∃ q, q ≤ k ∧ Quart t q := by
  intro k
  induction k with
  | zero =>
    intro _ t ht hn
    have hu := fin_of_units N hN 0 (by omega) ht
    have hf := fin_ub hu (by omega) hn
    cases hg : qGe t with
    | false => exact ⟨0, Nat.le_refl _, by omega, fun j hj => absurd hj (Nat.not_lt_zero _), hg, hf, hu⟩
    | true =>
      exfalso
      have := (qGe_iff hf N hN hg).2
      have hP := Nat.two_pow_pos N
      rw [Nat.zero_mul] at ht
      omega
  | succ k ih =>
    intro hk t ht hn
    have hu := fin_of_units N hN (k + 1) hk ht
    have hf := fin_ub hu (by omega) hn
    cases hg : qGe t with
    | false => exact ⟨0, Nat.zero_le _, by omega, fun j hj => absurd hj (Nat.not_lt_zero _), hg, hf, hu⟩
    | true =>
      obtain ⟨hs, hge⟩ := qGe_iff hf N hN hg
      have fq : Fin64 4598175219545276416 := by unfold Fin64; decide +kernel
      obtain ⟨s, m, e, h1, h2, h3⟩ := sum_Z t 4598175219545276416 true hf fq
      have hr : floatBits .sub .f64 t 4598175219545276416 = some (FloatKind.f64.format.nearest s m e) := by
        show ((FloatKind.f64.decode t).sum (FloatKind.f64.decode 4598175219545276416).opposite).map FloatKind.f64.format.write = some _
        rw [show (FloatKind.f64.decode t).sum (FloatKind.f64.decode 4598175219545276416).opposite = _ from h1]
        rfl
      obtain ⟨c, hc⟩ := mult_rung k N hN (by omega)
      have hZ : (Z FloatKind.f64.format t + (if true then -Z FloatKind.f64.format 4598175219545276416 else Z FloatKind.f64.format 4598175219545276416)).natAbs ≤ k * 2 ^ N := by
        have hcz : Z FloatKind.f64.format 4598175219545276416 = units FloatKind.f64.format 4598175219545276416 := rfl
        rw [if_pos rfl, hcz, units_quarter N hN]
        unfold Z
        rw [hs, if_neg Bool.false_ne_true]
        rw [Nat.add_mul, Nat.one_mul] at ht
        generalize k * 2 ^ N = A at *
        generalize 2 ^ N = P at *
        omega
      have hle := nearest_le s m e c h2 (by rw [h3, hc]; exact hZ)
      rw [hc] at hle
      obtain ⟨q, hq, Q⟩ := ih (by omega) _ hle (floatBits_not_nan hr)
      refine ⟨q + 1, by omega, by omega, ?_, ?_, ?_, ?_⟩
      · intro j hj
        cases j with
        | zero =>
          refine ⟨hg, ?_⟩
          rw [qIter_succ hr 0]; exact hr
        | succ j =>
          rw [qIter_succ hr j, qIter_succ hr (j + 1)]
          exact Q.go j (by omega)
      · rw [qIter_succ hr q]; exact Q.stop
      · rw [qIter_succ hr q]; exact Q.fin
      · rw [qIter_succ hr q]; exact Q.ub

theorem quart {t : Nat} (h : UB (some t) 1075) (hn : (FloatKind.f64.decode t).isNaN = false) : ∃ q, Quart t q := by
  have h8 : ∀ N, N = 1072 → units FloatKind.f64.format (rg FloatKind.f64.format t) ≤ 8 * 2 ^ N := by
    intro N hN
    have := h t rfl
    refine Nat.le_trans this (Nat.le_of_eq ?_)
    rw [show 1075 = 3 + N by omega, Nat.pow_add]
  obtain ⟨q, _, Q⟩ := quart_of 1072 rfl 8 (by omega) t (h8 1072 rfl) hn
  exact ⟨q, Q⟩
end Go.Proofs.Ytecncnkbgfjdcaa
