/- Products, powers, angles and tenths that are determined; the law's helpers. -/
import Derived.Test.YtecncnkbgfjdcaaZWCir
import Derived.Test.YtecncnkbgfjdcaaZFCirE
import Derived.Test.YtecncnkbgfjdcaaZFCirE2
import Derived.Test.YtecncnkbgfjdcaaZWAng3
import Derived.Test.YtecncnkbgfjdcaaZWTen
import Derived.Test.YtecncnkbgfjdcaaZOpenB
set_option linter.unusedVariables false
set_option linter.unusedSimpArgs false
namespace Go.Proofs.Ytecncnkbgfjdcaa
open Ieee Go.RowKit near

theorem num_of {x : Nat} (h : num32 x = true) : (FloatKind.f32.decode x).isNaN = false := by unfold num32 at h; simpa using h
theorem wid_run {x : Nat} (h : num32 x = true) (W : World) : (convert 34 39 (.float .f32 x)).run Try.prog W = .ok (.float .f64 (wid x)) W :=
  run_convert_float_float W 34 39 .f32 .f64 x _ (by kernel_rfl) (by kernel_rfl) (wide_bits (num_of h))
theorem nar_run {x : Nat} (h : (FloatKind.f64.decode x).isNaN = false) (hu : ubB (some x) 1178 = true) (W : World) : (convert 39 34 (.float .f64 x)).run Try.prog W = .ok (.float .f32 (nar x)) W :=
  run_convert_float_float W 39 34 .f64 .f32 x _ (by kernel_rfl) (by kernel_rfl) (narrow_bits h (fits_of_UB (ub_of_B hu) (by omega)))
theorem nar_num {x : Nat} (h : (FloatKind.f64.decode x).isNaN = false) : num32 (nar x) = true := by
  unfold num32
  rw [show (FloatKind.f32.decode (nar x)).isNaN = false from write_not_nan .f32 _ h]; rfl
theorem det_run {op : BinOp} {x y r : Nat} (h : floatBits op .f64 x y = some r) (W : World) : (binOp op 39 (.float .f64 x) (.float .f64 y)).run Try.prog W = .ok (.float .f64 r) W := run_float_arith W op 39 .f64 x y r h
theorem gap_det {a b g : Nat} (h : gapW a b = some g) (w : World) : Calls Try.prog 18 #[.float .f64 a, .float .f64 b] w fun e w' => e = .returned (.float .f64 g) ∧ w = w' := by
  unfold gapW at h
  cases ho : (FloatKind.f64.format.order a b == some .lt) with
  | true =>
    rw [ho, if_pos rfl] at h
    have k := @det_run _ _ _ _ h
    clear h
    go_enter Try.func18, Try.ntmps18
    go_wp2_with fail
    go_ret
    exact ⟨rfl, rfl⟩
  | false =>
    rw [ho, if_neg (by decide)] at h
    have k := @det_run _ _ _ _ h
    clear h
    go_enter Try.func18, Try.ntmps18
    go_wp2_with fail
    go_ret
    exact ⟨rfl, rfl⟩
theorem fop2 {op : BinOp} {a b : Option Nat} {r : Nat} (h : fop op .f64 a b = some r) : ∃ x y, a = some x ∧ b = some y ∧ floatBits op .f64 x y = some r := fop_some h
theorem times_det {a b c d A B C D u v : Nat} (ha : num32 a = true) (hb : num32 b = true) (hc : num32 c = true) (hd : num32 d = true) (eA : wid a = A) (eB : wid b = B) (eC : wid c = C) (eD : wid d = D)
    (hu : mulR A B C D = some u) (hv : mulI' A B C D = some v) (w : World) : Calls Try.prog 38 #[.complex .f32 a b, .complex .f32 c d] w fun e w' => e = .returned (.tuple #[.float .f64 u, .float .f64 v]) ∧ w = w' := by
  obtain ⟨p1, p2, h1, h2, h3⟩ := fop2 hu
  obtain ⟨p3, p4, h4, h5, h6⟩ := fop2 hv
  have k1 := @wid_run _ ha
  have k2 := @wid_run _ hb
  have k3 := @wid_run _ hc
  have k4 := @wid_run _ hd
  rw [eA] at k1
  rw [eB] at k2
  rw [eC] at k3
  rw [eD] at k4
  have r1 := @det_run .mul _ _ _ h1
  have r2 := @det_run .mul _ _ _ h2
  have r3 := @det_run .sub _ _ _ h3
  have r4 := @det_run .mul _ _ _ h4
  have r5 := @det_run .mul _ _ _ h5
  have r6 := @det_run .add _ _ _ h6
  clear ha hb hc hd eA eB eC eD hu hv h1 h2 h3 h4 h5 h6
  go_enter Try.func38, Try.ntmps38
  go_wp2
  go_ret2
  exact ⟨rfl, rfl⟩
theorem mul_det {a b c d A B C D u v : Nat} (ha : num32 a = true) (hb : num32 b = true) (hc : num32 c = true) (hd : num32 d = true) (eA : wid a = A) (eB : wid b = B) (eC : wid c = C) (eD : wid d = D)
    (hu : mulR A B C D = some u) (hv : mulI' A B C D = some v) (nu : (FloatKind.f64.decode u).isNaN = false) (uu : ubB (some u) 1178 = true) (nv : (FloatKind.f64.decode v).isNaN = false) (uv : ubB (some v) 1178 = true) (w : World) :
    Calls Try.prog 21 #[.complex .f32 a b, .complex .f32 c d] w fun e w' => e = .returned (.complex .f32 (nar u) (nar v)) ∧ w = w' := by
  have HT := Lib.hid (@times_det a b c d A B C D u v ha hb hc hd eA eB eC eD hu hv)
  have k1 := @nar_run _ nu uu
  have k2 := @nar_run _ nv uv
  clear ha hb hc hd eA eB eC eD hu hv nu uu nv uv
  go_enter Try.func21, Try.ntmps21
  go_wp2_with fail
  refine (HT.out _).mono ?_
  rintro e w' ⟨rfl, rfl⟩
  go_wp2_with fail
  go_ret
  exact ⟨rfl, rfl⟩
theorem pow_det {a b A B u : Nat} (ha : num32 a = true) (hb : num32 b = true) (eA : wid a = A) (eB : wid b = B) (hu : pow64 A B = some u) (w : World) : Calls Try.prog 31 #[.complex .f32 a b] w fun e w' => e = .returned (.float .f64 u) ∧ w = w' := by
  obtain ⟨p1, p2, h1, h2, h3⟩ := fop2 hu
  have k1 := @wid_run _ ha
  have k2 := @wid_run _ hb
  rw [eA] at k1
  rw [eB] at k2
  have r1 := @det_run .mul _ _ _ h1
  have r2 := @det_run .mul _ _ _ h2
  have r3 := @det_run .add _ _ _ h3
  clear ha hb eA eB hu h1 h2 h3
  go_enter Try.func31, Try.ntmps31
  go_wp2
  skip
  go_ret
  exact ⟨rfl, rfl⟩
theorem powOf_det {a b A B u : Nat} (ha : num32 a = true) (hb : num32 b = true) (eA : wid a = A) (eB : wid b = B) (hu : pow64 A B = some u) (nu : (FloatKind.f64.decode u).isNaN = false) (uu : ubB (some u) 1178 = true) (w : World) :
    Calls Try.prog 19 #[.complex .f32 a b] w fun e w' => e = .returned (.float .f32 (nar u)) ∧ w = w' := by
  have HT := Lib.hid (@pow_det a b A B u ha hb eA eB hu)
  have k1 := @nar_run _ nu uu
  clear ha hb eA eB hu nu uu
  go_enter Try.func19, Try.ntmps19
  go_wp2_with fail
  refine (HT.out _).mono ?_
  rintro e w' ⟨rfl, rfl⟩
  go_wp2_with fail
  go_ret
  exact ⟨rfl, rfl⟩
theorem near_det {a b c d g h : Nat} (ha : num32 a = true) (hb : num32 b = true) (hc : num32 c = true) (hd : num32 d = true) (hg : gapW (wid a) (wid c) = some g) (hh : gapW (wid b) (wid d) = some h) (lg : leB g tol4 = true) (lh : leB h tol4 = true) (w : World) :
    Calls Try.prog 20 #[.complex .f32 a b, .complex .f32 c d, .float .f64 4547007122018943789] w fun e w' => e = .returned (.bool true) ∧ w = w' := by
  have k1 := @wid_run _ ha
  have k2 := @wid_run _ hb
  have k3 := @wid_run _ hc
  have k4 := @wid_run _ hd
  have G1 := Lib.hid (@gap_det _ _ _ hg)
  have G2 := Lib.hid (@gap_det _ _ _ hh)
  have l1 : (FloatKind.f64.format.order g 4547007122018943789 == some .lt || FloatKind.f64.format.order g 4547007122018943789 == some .eq) = true := lg
  have l2 : (FloatKind.f64.format.order h 4547007122018943789 == some .lt || FloatKind.f64.format.order h 4547007122018943789 == some .eq) = true := lh
  clear ha hb hc hd hg hh lg lh
  go_enter Try.func20, Try.ntmps20
  go_wp2_with fail
  refine (G1.out _).mono ?_
  rintro e w' ⟨rfl, rfl⟩
  go_wp2_with fail
  refine (G2.out _).mono ?_
  rintro e w' ⟨rfl, rfl⟩
  go_wp2_with fail
  go_ret
  exact ⟨by simp, rfl⟩
end Go.Proofs.Ytecncnkbgfjdcaa
