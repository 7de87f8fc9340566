/- RootNumber: contracts and the law. -/
import Derived.Test.YtecglaggmheokaaWSqrt
set_option linter.unusedVariables false
set_option linter.unusedSimpArgs false
namespace Go.Proofs.Ytecglaggmheokaa
open Go.RowKit near

theorem wpw {k : FloatKind} {r : Nat} {v : Option Nat} (h : FIs k r v) : val k r = v := h.out

theorem l01Sqrt_any (x : Nat) (w : World) : Calls Try.prog 55 #[.float .f32 x] w fun e w' => RetF .f32 (fnarrow (fsqrt (fwide (val .f32 x)))) w e w' := by
  have hfit := Lib.hid (fits_sqrt x)
  go_enter Try.func55, Try.ntmps55
  go_wp2_with (refine wpList_wide rfl _ _ _ rfl (by kernel_rfl) (by kernel_rfl) _ rfl ?_; intro r n hr)
  refine (mathSqrt_any r _).mono ?_
  rw [hr.out]
  rintro e w' ⟨r2, n2, rfl, hr2, rfl⟩
  go_wp2_with fail
  refine (l01Narrow_any r2 (by rw [hr2.out]; exact hfit.out) _).mono ?_
  rw [hr2.out]
  rintro e w' ⟨r3, n3, rfl, hr3, rfl⟩
  go_wp2_with fail
  go_ret
  exact ⟨_, _, rfl, hr3, rfl⟩
theorem specRoot_any (x : Nat) (w : World) : Calls Try.prog 26 #[.float .f32 x] w fun e w' => RetF .f32 (fnarrow (fsqrt (fwide (val .f32 x)))) w e w' := by
  go_enter Try.func26, Try.ntmps26
  go_wp2_with (go_at_call 55; refine (l01Sqrt_any x _).mono ?_; rintro e w' ⟨r, n, rfl, hr, rfl⟩)
  go_ret
  exact ⟨_, _, rfl, hr, rfl⟩
theorem implRoot_any (x : Nat) (w : World) : Calls Try.prog 27 #[.float .f32 x] w fun e w' => RetF .f32 (fnarrow (fsqrt (fwide (val .f32 x)))) w e w' := by
  have hfit := Lib.hid (fits_sqrt x)
  go_enter Try.func27, Try.ntmps27
  go_wp2_with (refine wpList_wide rfl _ _ _ rfl (by kernel_rfl) (by kernel_rfl) _ rfl ?_; intro r n hr)
  refine (mathSqrt_any r _).mono ?_
  rw [hr.out]
  rintro e w' ⟨r2, n2, rfl, hr2, rfl⟩
  go_wp2_with (refine wpList_narrow rfl _ _ _ rfl (by kernel_rfl) (by kernel_rfl) _ rfl (by rw [hr2.out]; exact hfit.out) ?_; intro r3 n3 hr3)
  go_ret
  rw [hr2.out] at hr3
  exact ⟨_, _, rfl, hr3, rfl⟩
set_option maxHeartbeats 800000 in
/-- FnExactRootNumber: over the contracts of both sides: results of one value. -/
theorem fnExactRootNumber_core (x : Nat) (v : Option Nat)
    (hS : ∀ w : World, Calls Try.prog 26 #[.float .f32 x] w fun e w' => RetF .f32 v w e w')
    (hI : ∀ w : World, Calls Try.prog 27 #[.float .f32 x] w fun e w' => RetF .f32 v w e w') (w : World) :
    Calls Try.prog 7 #[.float .f32 x] w fun e w' => e = .returned (.bool true) ∧ Below w.heap.size w w' := by
  have HS := Lib.hid hS
  have HI := Lib.hid hI
  clear hS hI
  go_enter Try.func7, Try.ntmps7
  go_wp2_with fail
  refine (HS.out _).mono ?_
  rintro e w1 ⟨r1, n1, rfl, hr1, rfl⟩
  go_wp2_with fail
  refine (HI.out _).mono ?_
  rintro e w2 ⟨r2, n2, rfl, hr2, rfl⟩
  have tok : True := trivial
  go_wp2_with (first | (have _t := tok; refine wpList_wide rfl _ _ _ rfl (by kernel_rfl) (by kernel_rfl) _ rfl ?_; intro a1 m1 ha1; clear tok) | (refine wpList_wide rfl _ _ _ rfl (by kernel_rfl) (by kernel_rfl) _ rfl ?_; intro a2 m2 ha2))
  rw [hr2.out] at ha1
  rw [hr1.out] at ha2
  refine (sameFloat_same _ _ _ ha1 ha2 _).mono ?_
  rintro e w5 ⟨rfl, n5, rfl⟩
  go_wp2_with fail
  go_ret
  exact ⟨rfl, below_drewN_self _ _⟩
theorem fnExactRootNumber_walk (x : Nat) (wf : (Lit.float .f32 x).wf = true) (w : World) : Calls Try.prog 7 #[.float .f32 x] w fun e w' => e = .returned (.bool true) ∧ Below w.heap.size w w' :=
  fnExactRootNumber_core x _ (fun w => specRoot_any x w) (fun w => implRoot_any x w) w
end Go.Proofs.Ytecglaggmheokaa
