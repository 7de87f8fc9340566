/- The laws' own sameFloat answers true at two words of one value. -/
import Derived.Test.YtdbcajiagjeplaaDoorWFin
set_option linter.unusedVariables false
set_option linter.unusedSimpArgs false
namespace Go.Proofs.YtdbcajiagjeplaaDoor
open Go.RowKit

theorem order_self (k : FloatKind) {x y : Nat} {v : Option Nat} (hx : val k x = v) (hy : val k y = v) (z : Nat) : k.format.order x z = k.format.order y z := by
  rw [order_val k x z, order_val k y z, hx, hy]

theorem sameFloat_same (a b : Nat) (v : Option Nat) (ha : FIs .f64 a v) (hb : FIs .f64 b v) (w : World) :
    Calls Tryd.prog 48 #[.float .f64 a, .float .f64 b] w fun e w' => e = .returned (.bool true) ∧ ∃ n, w' = w.drewN n := by
  have hva := ha.out
  have hvb := hb.out
  have hna := ne_self .f64 a
  have hnb := ne_self .f64 b
  rw [hva] at hna
  rw [hvb] at hnb
  cases v with
  | none =>
    clear ha hb hva hvb
    go_enter Tryd.func48, Tryd.ntmps48
    go_wp2_with fail
    go_ret
    exact ⟨rfl, 0, rfl⟩
  | some x =>
    obtain rfl : a = x := (val_eq_some hva).1.symm
    obtain rfl : b = a := (val_eq_some hvb).1.symm
    have heq : (FloatKind.f64.format.order b b == some .eq) = true := by
      have h1 : (FloatKind.f64.format.order b b != some .eq) = false := hna
      simpa [bne] using h1
    clear ha hb hva hvb hnb
    cases hz : (FloatKind.f64.format.order b 0 == some .eq) with
    | true =>
      have tok : True := trivial
      go_enter Tryd.func48, Tryd.ntmps48
      go_wp2_with (first | (have _t := tok; refine wpList_fop rfl _ _ _ _ _ rfl rfl _ _ _ rfl rfl ?_; intro r1 n1 hr1; clear tok) | (refine wpList_fop rfl _ _ _ _ _ rfl rfl _ _ _ rfl rfl ?_; intro r n hr))
      go_ret
      refine ⟨ret_bool ?_, _, rfl⟩
      have h1 := order_self .f64 hr1.out hr.out 0
      rw [h1]; simp
    | false =>
      go_enter Tryd.func48, Tryd.ntmps48
      go_wp2_with fail
      go_ret
      exact ⟨rfl, 0, rfl⟩
end Go.Proofs.YtdbcajiagjeplaaDoor
