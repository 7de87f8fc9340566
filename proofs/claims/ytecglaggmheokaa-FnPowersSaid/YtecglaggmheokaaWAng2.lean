/- AngleTurns: the walk of the program; the law. -/
import Derived.Test.YtecglaggmheokaaWAng
set_option linter.unusedVariables false
set_option linter.unusedSimpArgs false
namespace Go.Proofs.Ytecglaggmheokaa
open Ieee Go.RowKit near

/-- A float32 of value v is returned; what was there stands. -/
def RetFW (v : Option Nat) (w : World) (e : Ending) (w' : World) : Prop := ∃ r, e = .returned (.float .f32 r) ∧ FIs .f32 r v ∧ Below w.heap.size w w'
theorem row_two (w : World) (x y : Nat) (e : TypeId) : Row (w.alloc (.cells #[.float .f32 x, .float .f32 y] e)) (w.heap.size + 1) (some ⟨w.heap.size, 0, none⟩) 2 (fun j => .float .f32 ((fun j => if j = 0 then x else y) j)) := by
  intro _
  refine ⟨w.heap.size, 0, rfl, by omega, fun j hj => ?_⟩
  rw [World.cell?_alloc_at _ _ _ _ rfl]
  rcases (show j = 0 ∨ j = 1 by omega) with rfl | rfl <;> rfl
theorem anyB_two (p : Nat → Bool) (x y : Nat) : anyB p (fun j => if j = 0 then x else y) 2 = (p x || p y) := by simp [anyB, List.range_succ]
theorem FIs.word {x r y : Nat} (hv : fwide (val .f32 x) = some y) (hr : FIs .f64 r (fwide (val .f32 x))) : r = y := by
  have := hr.out
  rw [hv] at this
  exact (val_eq_some this).1.symm
theorem l01Angle_of (y x : Nat) (v : Option Nat) (hW : ∀ ry rx W, FIs .f64 ry (fwide (val .f32 y)) → FIs .f64 rx (fwide (val .f32 x)) → Calls Try.prog 89 #[.float .f64 ry, .float .f64 rx] W fun e w' => RetF .f64 v W e w') (hfit : fitsNarrow v) (w : World) :
    Calls Try.prog 73 #[.float .f32 y, .float .f32 x] w fun e w' => RetF .f32 (fnarrow v) w e w' := by
  have HW := Lib.hid hW
  have HF := Lib.hid hfit
  clear hW hfit
  have tok : True := trivial
  go_enter Try.func73, Try.ntmps73
  go_wp2_with (first | (have _t := tok; refine wpList_wide rfl _ _ _ rfl (by kernel_rfl) (by kernel_rfl) _ rfl ?_; intro r1 n1 h1; clear tok) | (refine wpList_wide rfl _ _ _ rfl (by kernel_rfl) (by kernel_rfl) _ rfl ?_; intro r2 n2 h2))
  refine (HW.out r1 r2 _ h1 h2).mono ?_
  rintro e w' ⟨r, n, rfl, hr, rfl⟩
  have HR := Lib.hid hr
  clear h1 h2 hr
  go_wp2_with fail
  refine (l01Narrow_any r (by rw [HR.out.out]; exact HF.out) _).mono ?_
  rintro e w' ⟨r3, n3, rfl, hr3, rfl⟩
  rw [HR.out.out] at hr3
  have HR3 := Lib.hid hr3
  clear hr3
  go_wp2_with fail
  go_ret
  exact ⟨_, _, rfl, HR3.out, rfl⟩
theorem specAng_of (y x : Nat) (v : Option Nat) (hW : ∀ W, Calls Try.prog 73 #[.float .f32 y, .float .f32 x] W fun e w' => RetF .f32 v W e w') (w : World) :
    Calls Try.prog 39 #[.float .f32 y, .float .f32 x] w (RetFW v w) := by
  have HW := Lib.hid hW
  clear hW
  go_enter Try.func39, Try.ntmps39
  go_wp2_with fail
  refine (HW.out _).mono ?_
  rintro e w' ⟨r, n, rfl, hr, rfl⟩
  have HR := Lib.hid hr
  clear hr
  go_wp2_with fail
  go_ret
  exact ⟨_, rfl, HR.out, below_drewN_self _ _⟩
theorem implAng_nan (y x : Nat) (hf : (notFin x || notFin y) = true) (w : World) : Calls Try.prog 40 #[.float .f32 y, .float .f32 x] w (RetFW none w) := by
  have HB := Lib.hid (show (!anyB notFin (fun j => if j = 0 then x else y) 2) = false by rw [anyB_two, hf]; rfl)
  clear hf
  go_enter Try.func40, Try.ntmps40
  go_wp2_with fail
  refine (all_areFinite _ 2 _ _ (fun j => if j = 0 then x else y) _ (by omega) (row_two w x y _)).mono ?_
  rw [HB.out]
  rintro e w' ⟨rfl, q, rfl⟩
  go_wp2_with (first | (go_at_call 59; refine (nan_any _).mono ?_; rintro e w' ⟨rfl, rfl⟩) | (refine wpList_narrow rfl _ _ _ rfl (by kernel_rfl) (by kernel_rfl) _ rfl (by rw [val_nan64]; exact fits_none) ?_; intro r n hr))
  go_ret
  rw [val_nan64] at hr
  exact ⟨_, rfl, hr, below_drewN ((Below.refl _ _).alloc (Nat.le_refl _) _) _⟩
theorem implAng_zero (y x : Nat) (hf : (notFin x || notFin y) = false) (hx0 : (FloatKind.f32.format.order x 0 == some .eq) = true) (hy0 : (FloatKind.f32.format.order y 0 == some .eq) = true) (w : World) : Calls Try.prog 40 #[.float .f32 y, .float .f32 x] w (RetFW (some 0) w) := by
  have HB := Lib.hid (show (!anyB notFin (fun j => if j = 0 then x else y) 2) = true by rw [anyB_two, hf]; rfl)
  clear hf
  go_enter Try.func40, Try.ntmps40
  go_wp2_with fail
  refine (all_areFinite _ 2 _ _ (fun j => if j = 0 then x else y) _ (by omega) (row_two w x y _)).mono ?_
  rw [HB.out]
  rintro e w' ⟨rfl, q, rfl⟩
  go_wp2_with fail
  go_ret
  exact ⟨_, rfl, FIs.mk val_zero32 (by decide), below_drewN ((Below.refl _ _).alloc (Nat.le_refl _) _) _⟩
set_option maxHeartbeats 8000000 in
theorem implAng_fin1 (y x ry rx a b : Nat) (hf : (notFin x || notFin y) = false) (hvy : fwide (val .f32 y) = some ry) (hvx : fwide (val .f32 x) = some rx) (hya : ry % 9223372036854775808 = a) (hxb : rx % 9223372036854775808 = b)
    (hyl : ry < 18446744073709551616) (hxl : rx < 18446744073709551616) (hx0 : (FloatKind.f32.format.order x 0 == some .eq) = false) {T : Option Nat} {o xn yn : Bool} (hp : Pt a b o T)
    (hxn : (FloatKind.f32.format.order x 0 == some .lt) = xn) (hyn : (FloatKind.f32.format.order y 0 == some .lt) = yn) (w : World) :
    Calls Try.prog 40 #[.float .f32 y, .float .f32 x] w (RetFW (fnarrow (aA o xn yn T)) w) := by
  have HB := Lib.hid (show (!anyB notFin (fun j => if j = 0 then x else y) 2) = true by rw [anyB_two, hf]; rfl)
  have HFIT := Lib.hid (fun o x y => fits_aA hp.fv o x y)
  have hgt := hp.gt
  have HP := Lib.hid hp
  have HXN := Lib.hid hxn
  have HYN := Lib.hid hyn
  have HYA := Lib.hid hya
  have HXB := Lib.hid hxb
  have HVY := Lib.hid hvy
  have HVX := Lib.hid hvx
  have HK0 := Lib.hid a_start
  have hneg := @neg_run Try.prog
  clear hf hp hxn hyn hya hxb hvy hvx
  rcases o with _ | _
  · go_enter Try.func40, Try.ntmps40
    go_wp2_with fail
    refine (all_areFinite _ 2 _ _ (fun j => if j = 0 then x else y) _ (by omega) (row_two w x y _)).mono ?_
    rw [HB.out]
    rintro e w' ⟨rfl, q, rfl⟩
    go_wp2_with (refine wpList_wide rfl _ _ _ rfl (by kernel_rfl) (by kernel_rfl) _ rfl ?_; intro r n hr)
    obtain rfl := FIs.word HVY.out hr
    clear hr
    refine (abs_any _ hyl _).mono ?_
    rw [HYA.out]
    rintro e w' ⟨rfl, rfl⟩
    go_wp2_with (refine wpList_wide rfl _ _ _ rfl (by kernel_rfl) (by kernel_rfl) _ rfl ?_; intro r2 n2 hr2)
    obtain rfl := FIs.word HVX.out hr2
    clear hr2
    refine (abs_any _ hxl _).mono ?_
    rw [HXB.out]
    rintro e w' ⟨rfl, rfl⟩
    have t1 : True := trivial
    go_wp2_with (first | (have _t := t1; refine wpList_fop rfl _ _ _ _ _ rfl rfl _ _ _ rfl rfl ?_; intro r1 n1 h1; clear t1))
    have HT0 : Hid (FIs .f64 r1 T) := by
      refine Lib.hid ?_
      rw [HP.out.t]
      exact aT_of HP.out.fb HP.out.fa h1
    clear h1 hx0
    go_loopw [7, 42] (fun v i wr => ∃ (t j m : Nat), v = .float .f64 t ∧ i = .int .i64 (j : Int) ∧ j ≤ 3 ∧ FIs .f64 t (aIter T j) ∧ wr = (w.alloc (.cells #[.float .f32 x, .float .f32 y] 22)).drewN m) (fun _ i _ => 3 - (intOf i).toNat)
    case atStart => exact ⟨_, 0, _, rfl, rfl, by omega, HT0.out, rfl⟩
    case round =>
      obtain ⟨t, j, m, rfl, rfl, hj, ht, rfl⟩ := hrel
      have HTJ := Lib.hid ht
      clear ht
      by_cases hj3 : j < 3
      · have t1 : True := trivial; have t2 : True := trivial; have t3 : True := trivial; have t4 : True := trivial
        go_wp2_with (first | (go_at_call 56; refine (mathSqrt_any _ _).mono ?_; rintro e w' ⟨rs, ns, rfl, hrs, rfl⟩) | (have _t := t1; refine wpList_fop rfl _ _ _ _ _ rfl rfl _ _ _ rfl rfl ?_; intro r1 n1 h1; clear t1) | (have _t := t2; refine wpList_fop rfl _ _ _ _ _ rfl rfl _ _ _ rfl rfl ?_; intro r2 n2 h2; clear t2) | (have _t := t3; refine wpList_fop rfl _ _ _ _ _ rfl rfl _ _ _ rfl rfl ?_; intro r3 n3 h3; clear t3) | (have _t := t4; refine wpList_fop rfl _ _ _ _ _ rfl rfl _ _ _ rfl rfl ?_; intro r4 n4 h4; clear t4))
        have hstep := Lib.hid (aStep_of HTJ.out h1 h2 hrs h3 h4)
        clear h1 h2 h3 h4 hrs
        go_roundw
        case rel => exact ⟨_, j + 1, _, rfl, by go_num, by omega, hstep.out, rfl⟩
        case measure => simp [intOf]; omega
      · obtain rfl : j = 3 := by omega
        clear hj3 hj
        have t1 : True := trivial
        go_wp2_with (first | (have _t := t1; refine wpList_fop rfl _ _ _ _ _ rfl rfl _ _ _ rfl rfl ?_; intro r1 n1 h1; clear t1))
        have HU := Lib.hid h1
        clear h1
        go_loopw [9, 10] (fun v i wr => ∃ (p j m : Nat), v = .float .f64 p ∧ i = .float .f64 (fl (15 - 2 * (j : Int))) ∧ j ≤ 8 ∧ FIs .f64 p (aP (val .f64 r1) j) ∧ wr = (w.alloc (.cells #[.float .f32 x, .float .f32 y] 22)).drewN m) (fun _ i _ => 8 - jOf i)
        case atStart => exact ⟨_, 0, _, rfl, by rw [HK0.out], by omega, FIs.mk val_zero64 (by decide), rfl⟩
        case round =>
          obtain ⟨p, j, m2, rfl, rfl, hj, hpj, rfl⟩ := hrel
          have HPJ := Lib.hid hpj
          clear hpj
          by_cases hj8 : j < 8
          · have hge := a_ge j hj8
            have hdec := run_float_arith (P := Try.prog) (op := .sub) (t := 26) (k := .f64) (h := a_dec j hj8)
            have Hj := Lib.hid (jOf_lt j hj8)
            have t1 : True := trivial; have t2 : True := trivial; have t3 : True := trivial
            go_wp2_with (first | (have _t := t1; refine wpList_fop rfl _ _ _ _ _ rfl rfl _ _ _ rfl rfl ?_; intro r1 n1 h1; clear t1) | (have _t := t2; refine wpList_fop rfl _ _ _ _ _ rfl rfl _ _ _ rfl rfl ?_; intro r2 n2 h2; clear t2) | (have _t := t3; refine wpList_fop rfl _ _ _ _ _ rfl rfl _ _ _ rfl rfl ?_; intro r3 n3 h3; clear t3))
            have hstep := Lib.hid (aP_step hj8 rfl HPJ.out h1 h2 h3)
            clear h1 h2 h3
            go_roundw
            case rel => exact ⟨_, j + 1, _, rfl, rfl, by omega, hstep.out, rfl⟩
            case measure => exact Hj.out
          · obtain rfl : j = 8 := by omega
            clear hj8 hj
            have hge := a_end
            have hxn := HXN.out
            have hyn := HYN.out
            rcases xn with _ | _ <;> rcases yn with _ | _
            · have t1 : True := trivial; have t2 : True := trivial; have t3 : True := trivial
              go_wp2_with (first | (refine wpList_narrow rfl _ _ _ rfl (by kernel_rfl) (by kernel_rfl) _ rfl (by rw [((aE_of HTJ.out HU.out HPJ.out h1 h2 h3)).out]; exact HFIT.out false false false) ?_; intro r9 n9 h9) | (have _t := t1; refine wpList_fop rfl _ _ _ _ _ rfl rfl _ _ _ rfl rfl ?_; intro r1 n1 h1; clear t1) | (have _t := t2; refine wpList_fop rfl _ _ _ _ _ rfl rfl _ _ _ rfl rfl ?_; intro r2 n2 h2; clear t2) | (have _t := t3; refine wpList_fop rfl _ _ _ _ _ rfl rfl _ _ _ rfl rfl ?_; intro r3 n3 h3; clear t3))
              have hE := (aE_of HTJ.out HU.out HPJ.out h1 h2 h3)
              go_ret
              rw [hE.out] at h9
              exact ⟨_, rfl, h9, below_drewN ((Below.refl _ _).alloc (Nat.le_refl _) _) _⟩
            · have t1 : True := trivial; have t2 : True := trivial; have t3 : True := trivial
              go_wp2_with (first | (refine wpList_narrow rfl _ _ _ rfl (by kernel_rfl) (by kernel_rfl) _ rfl (by rw [(((aE_of HTJ.out HU.out HPJ.out h1 h2 h3)).neg).out]; exact HFIT.out false false true) ?_; intro r9 n9 h9) | (have _t := t1; refine wpList_fop rfl _ _ _ _ _ rfl rfl _ _ _ rfl rfl ?_; intro r1 n1 h1; clear t1) | (have _t := t2; refine wpList_fop rfl _ _ _ _ _ rfl rfl _ _ _ rfl rfl ?_; intro r2 n2 h2; clear t2) | (have _t := t3; refine wpList_fop rfl _ _ _ _ _ rfl rfl _ _ _ rfl rfl ?_; intro r3 n3 h3; clear t3))
              have hE := ((aE_of HTJ.out HU.out HPJ.out h1 h2 h3)).neg
              go_ret
              rw [hE.out] at h9
              exact ⟨_, rfl, h9, below_drewN ((Below.refl _ _).alloc (Nat.le_refl _) _) _⟩
            · have t1 : True := trivial; have t2 : True := trivial; have t3 : True := trivial; have t4 : True := trivial
              go_wp2_with (first | (refine wpList_narrow rfl _ _ _ rfl (by kernel_rfl) (by kernel_rfl) _ rfl (by rw [((aLeft_of (aE_of HTJ.out HU.out HPJ.out h1 h2 h3) h4)).out]; exact HFIT.out false true false) ?_; intro r9 n9 h9) | (have _t := t1; refine wpList_fop rfl _ _ _ _ _ rfl rfl _ _ _ rfl rfl ?_; intro r1 n1 h1; clear t1) | (have _t := t2; refine wpList_fop rfl _ _ _ _ _ rfl rfl _ _ _ rfl rfl ?_; intro r2 n2 h2; clear t2) | (have _t := t3; refine wpList_fop rfl _ _ _ _ _ rfl rfl _ _ _ rfl rfl ?_; intro r3 n3 h3; clear t3) | (have _t := t4; refine wpList_fop rfl _ _ _ _ _ rfl rfl _ _ _ rfl rfl ?_; intro r4 n4 h4; clear t4))
              have hE := (aLeft_of (aE_of HTJ.out HU.out HPJ.out h1 h2 h3) h4)
              go_ret
              rw [hE.out] at h9
              exact ⟨_, rfl, h9, below_drewN ((Below.refl _ _).alloc (Nat.le_refl _) _) _⟩
            · have t1 : True := trivial; have t2 : True := trivial; have t3 : True := trivial; have t4 : True := trivial
              go_wp2_with (first | (refine wpList_narrow rfl _ _ _ rfl (by kernel_rfl) (by kernel_rfl) _ rfl (by rw [(((aLeft_of (aE_of HTJ.out HU.out HPJ.out h1 h2 h3) h4)).neg).out]; exact HFIT.out false true true) ?_; intro r9 n9 h9) | (have _t := t1; refine wpList_fop rfl _ _ _ _ _ rfl rfl _ _ _ rfl rfl ?_; intro r1 n1 h1; clear t1) | (have _t := t2; refine wpList_fop rfl _ _ _ _ _ rfl rfl _ _ _ rfl rfl ?_; intro r2 n2 h2; clear t2) | (have _t := t3; refine wpList_fop rfl _ _ _ _ _ rfl rfl _ _ _ rfl rfl ?_; intro r3 n3 h3; clear t3) | (have _t := t4; refine wpList_fop rfl _ _ _ _ _ rfl rfl _ _ _ rfl rfl ?_; intro r4 n4 h4; clear t4))
              have hE := ((aLeft_of (aE_of HTJ.out HU.out HPJ.out h1 h2 h3) h4)).neg
              go_ret
              rw [hE.out] at h9
              exact ⟨_, rfl, h9, below_drewN ((Below.refl _ _).alloc (Nat.le_refl _) _) _⟩
  · go_enter Try.func40, Try.ntmps40
    go_wp2_with fail
    refine (all_areFinite _ 2 _ _ (fun j => if j = 0 then x else y) _ (by omega) (row_two w x y _)).mono ?_
    rw [HB.out]
    rintro e w' ⟨rfl, q, rfl⟩
    go_wp2_with (refine wpList_wide rfl _ _ _ rfl (by kernel_rfl) (by kernel_rfl) _ rfl ?_; intro r n hr)
    obtain rfl := FIs.word HVY.out hr
    clear hr
    refine (abs_any _ hyl _).mono ?_
    rw [HYA.out]
    rintro e w' ⟨rfl, rfl⟩
    go_wp2_with (refine wpList_wide rfl _ _ _ rfl (by kernel_rfl) (by kernel_rfl) _ rfl ?_; intro r2 n2 hr2)
    obtain rfl := FIs.word HVX.out hr2
    clear hr2
    refine (abs_any _ hxl _).mono ?_
    rw [HXB.out]
    rintro e w' ⟨rfl, rfl⟩
    have t1 : True := trivial; have t2 : True := trivial
    go_wp2_with (first | (have _t := t1; refine wpList_fop rfl _ _ _ _ _ rfl rfl _ _ _ rfl rfl ?_; intro r1 n1 h1; clear t1) | (have _t := t2; refine wpList_fop rfl _ _ _ _ _ rfl rfl _ _ _ rfl rfl ?_; intro r2 n2 h2; clear t2))
    have HT0 : Hid (FIs .f64 r2 T) := by
      refine Lib.hid ?_
      rw [HP.out.t]
      exact aT_of HP.out.fa HP.out.fb h2
    clear h1 h2 hx0
    go_loopw [7, 42] (fun v i wr => ∃ (t j m : Nat), v = .float .f64 t ∧ i = .int .i64 (j : Int) ∧ j ≤ 3 ∧ FIs .f64 t (aIter T j) ∧ wr = (w.alloc (.cells #[.float .f32 x, .float .f32 y] 22)).drewN m) (fun _ i _ => 3 - (intOf i).toNat)
    case atStart => exact ⟨_, 0, _, rfl, rfl, by omega, HT0.out, rfl⟩
    case round =>
      obtain ⟨t, j, m, rfl, rfl, hj, ht, rfl⟩ := hrel
      have HTJ := Lib.hid ht
      clear ht
      by_cases hj3 : j < 3
      · have t1 : True := trivial; have t2 : True := trivial; have t3 : True := trivial; have t4 : True := trivial
        go_wp2_with (first | (go_at_call 56; refine (mathSqrt_any _ _).mono ?_; rintro e w' ⟨rs, ns, rfl, hrs, rfl⟩) | (have _t := t1; refine wpList_fop rfl _ _ _ _ _ rfl rfl _ _ _ rfl rfl ?_; intro r1 n1 h1; clear t1) | (have _t := t2; refine wpList_fop rfl _ _ _ _ _ rfl rfl _ _ _ rfl rfl ?_; intro r2 n2 h2; clear t2) | (have _t := t3; refine wpList_fop rfl _ _ _ _ _ rfl rfl _ _ _ rfl rfl ?_; intro r3 n3 h3; clear t3) | (have _t := t4; refine wpList_fop rfl _ _ _ _ _ rfl rfl _ _ _ rfl rfl ?_; intro r4 n4 h4; clear t4))
        have hstep := Lib.hid (aStep_of HTJ.out h1 h2 hrs h3 h4)
        clear h1 h2 h3 h4 hrs
        go_roundw
        case rel => exact ⟨_, j + 1, _, rfl, by go_num, by omega, hstep.out, rfl⟩
        case measure => simp [intOf]; omega
      · obtain rfl : j = 3 := by omega
        clear hj3 hj
        have t1 : True := trivial
        go_wp2_with (first | (have _t := t1; refine wpList_fop rfl _ _ _ _ _ rfl rfl _ _ _ rfl rfl ?_; intro r1 n1 h1; clear t1))
        have HU := Lib.hid h1
        clear h1
        go_loopw [9, 10] (fun v i wr => ∃ (p j m : Nat), v = .float .f64 p ∧ i = .float .f64 (fl (15 - 2 * (j : Int))) ∧ j ≤ 8 ∧ FIs .f64 p (aP (val .f64 r1) j) ∧ wr = (w.alloc (.cells #[.float .f32 x, .float .f32 y] 22)).drewN m) (fun _ i _ => 8 - jOf i)
        case atStart => exact ⟨_, 0, _, rfl, by rw [HK0.out], by omega, FIs.mk val_zero64 (by decide), rfl⟩
        case round =>
          obtain ⟨p, j, m2, rfl, rfl, hj, hpj, rfl⟩ := hrel
          have HPJ := Lib.hid hpj
          clear hpj
          by_cases hj8 : j < 8
          · have hge := a_ge j hj8
            have hdec := run_float_arith (P := Try.prog) (op := .sub) (t := 26) (k := .f64) (h := a_dec j hj8)
            have Hj := Lib.hid (jOf_lt j hj8)
            have t1 : True := trivial; have t2 : True := trivial; have t3 : True := trivial
            go_wp2_with (first | (have _t := t1; refine wpList_fop rfl _ _ _ _ _ rfl rfl _ _ _ rfl rfl ?_; intro r1 n1 h1; clear t1) | (have _t := t2; refine wpList_fop rfl _ _ _ _ _ rfl rfl _ _ _ rfl rfl ?_; intro r2 n2 h2; clear t2) | (have _t := t3; refine wpList_fop rfl _ _ _ _ _ rfl rfl _ _ _ rfl rfl ?_; intro r3 n3 h3; clear t3))
            have hstep := Lib.hid (aP_step hj8 rfl HPJ.out h1 h2 h3)
            clear h1 h2 h3
            go_roundw
            case rel => exact ⟨_, j + 1, _, rfl, rfl, by omega, hstep.out, rfl⟩
            case measure => exact Hj.out
          · obtain rfl : j = 8 := by omega
            clear hj8 hj
            have hge := a_end
            have hxn := HXN.out
            have hyn := HYN.out
            rcases xn with _ | _ <;> rcases yn with _ | _
            · have t1 : True := trivial; have t2 : True := trivial; have t3 : True := trivial; have t4 : True := trivial
              go_wp2_with (first | (refine wpList_narrow rfl _ _ _ rfl (by kernel_rfl) (by kernel_rfl) _ rfl (by rw [((aOver_of (aE_of HTJ.out HU.out HPJ.out h1 h2 h3) h4)).out]; exact HFIT.out true false false) ?_; intro r9 n9 h9) | (have _t := t1; refine wpList_fop rfl _ _ _ _ _ rfl rfl _ _ _ rfl rfl ?_; intro r1 n1 h1; clear t1) | (have _t := t2; refine wpList_fop rfl _ _ _ _ _ rfl rfl _ _ _ rfl rfl ?_; intro r2 n2 h2; clear t2) | (have _t := t3; refine wpList_fop rfl _ _ _ _ _ rfl rfl _ _ _ rfl rfl ?_; intro r3 n3 h3; clear t3) | (have _t := t4; refine wpList_fop rfl _ _ _ _ _ rfl rfl _ _ _ rfl rfl ?_; intro r4 n4 h4; clear t4))
              have hE := (aOver_of (aE_of HTJ.out HU.out HPJ.out h1 h2 h3) h4)
              go_ret
              rw [hE.out] at h9
              exact ⟨_, rfl, h9, below_drewN ((Below.refl _ _).alloc (Nat.le_refl _) _) _⟩
            · have t1 : True := trivial; have t2 : True := trivial; have t3 : True := trivial; have t4 : True := trivial
              go_wp2_with (first | (refine wpList_narrow rfl _ _ _ rfl (by kernel_rfl) (by kernel_rfl) _ rfl (by rw [(((aOver_of (aE_of HTJ.out HU.out HPJ.out h1 h2 h3) h4)).neg).out]; exact HFIT.out true false true) ?_; intro r9 n9 h9) | (have _t := t1; refine wpList_fop rfl _ _ _ _ _ rfl rfl _ _ _ rfl rfl ?_; intro r1 n1 h1; clear t1) | (have _t := t2; refine wpList_fop rfl _ _ _ _ _ rfl rfl _ _ _ rfl rfl ?_; intro r2 n2 h2; clear t2) | (have _t := t3; refine wpList_fop rfl _ _ _ _ _ rfl rfl _ _ _ rfl rfl ?_; intro r3 n3 h3; clear t3) | (have _t := t4; refine wpList_fop rfl _ _ _ _ _ rfl rfl _ _ _ rfl rfl ?_; intro r4 n4 h4; clear t4))
              have hE := ((aOver_of (aE_of HTJ.out HU.out HPJ.out h1 h2 h3) h4)).neg
              go_ret
              rw [hE.out] at h9
              exact ⟨_, rfl, h9, below_drewN ((Below.refl _ _).alloc (Nat.le_refl _) _) _⟩
            · have t1 : True := trivial; have t2 : True := trivial; have t3 : True := trivial; have t4 : True := trivial; have t5 : True := trivial
              go_wp2_with (first | (refine wpList_narrow rfl _ _ _ rfl (by kernel_rfl) (by kernel_rfl) _ rfl (by rw [((aLeft_of (aOver_of (aE_of HTJ.out HU.out HPJ.out h1 h2 h3) h4) h5)).out]; exact HFIT.out true true false) ?_; intro r9 n9 h9) | (have _t := t1; refine wpList_fop rfl _ _ _ _ _ rfl rfl _ _ _ rfl rfl ?_; intro r1 n1 h1; clear t1) | (have _t := t2; refine wpList_fop rfl _ _ _ _ _ rfl rfl _ _ _ rfl rfl ?_; intro r2 n2 h2; clear t2) | (have _t := t3; refine wpList_fop rfl _ _ _ _ _ rfl rfl _ _ _ rfl rfl ?_; intro r3 n3 h3; clear t3) | (have _t := t4; refine wpList_fop rfl _ _ _ _ _ rfl rfl _ _ _ rfl rfl ?_; intro r4 n4 h4; clear t4) | (have _t := t5; refine wpList_fop rfl _ _ _ _ _ rfl rfl _ _ _ rfl rfl ?_; intro r5 n5 h5; clear t5))
              have hE := (aLeft_of (aOver_of (aE_of HTJ.out HU.out HPJ.out h1 h2 h3) h4) h5)
              go_ret
              rw [hE.out] at h9
              exact ⟨_, rfl, h9, below_drewN ((Below.refl _ _).alloc (Nat.le_refl _) _) _⟩
            · have t1 : True := trivial; have t2 : True := trivial; have t3 : True := trivial; have t4 : True := trivial; have t5 : True := trivial
              go_wp2_with (first | (refine wpList_narrow rfl _ _ _ rfl (by kernel_rfl) (by kernel_rfl) _ rfl (by rw [(((aLeft_of (aOver_of (aE_of HTJ.out HU.out HPJ.out h1 h2 h3) h4) h5)).neg).out]; exact HFIT.out true true true) ?_; intro r9 n9 h9) | (have _t := t1; refine wpList_fop rfl _ _ _ _ _ rfl rfl _ _ _ rfl rfl ?_; intro r1 n1 h1; clear t1) | (have _t := t2; refine wpList_fop rfl _ _ _ _ _ rfl rfl _ _ _ rfl rfl ?_; intro r2 n2 h2; clear t2) | (have _t := t3; refine wpList_fop rfl _ _ _ _ _ rfl rfl _ _ _ rfl rfl ?_; intro r3 n3 h3; clear t3) | (have _t := t4; refine wpList_fop rfl _ _ _ _ _ rfl rfl _ _ _ rfl rfl ?_; intro r4 n4 h4; clear t4) | (have _t := t5; refine wpList_fop rfl _ _ _ _ _ rfl rfl _ _ _ rfl rfl ?_; intro r5 n5 h5; clear t5))
              have hE := ((aLeft_of (aOver_of (aE_of HTJ.out HU.out HPJ.out h1 h2 h3) h4) h5)).neg
              go_ret
              rw [hE.out] at h9
              exact ⟨_, rfl, h9, below_drewN ((Below.refl _ _).alloc (Nat.le_refl _) _) _⟩
set_option maxHeartbeats 8000000 in
theorem implAng_fin2 (y x ry rx a b : Nat) (hf : (notFin x || notFin y) = false) (hvy : fwide (val .f32 y) = some ry) (hvx : fwide (val .f32 x) = some rx) (hya : ry % 9223372036854775808 = a) (hxb : rx % 9223372036854775808 = b)
    (hyl : ry < 18446744073709551616) (hxl : rx < 18446744073709551616) (hx0 : (FloatKind.f32.format.order x 0 == some .eq) = true) (hy0 : (FloatKind.f32.format.order y 0 == some .eq) = false) {T : Option Nat} {o xn yn : Bool} (hp : Pt a b o T)
    (hxn : (FloatKind.f32.format.order x 0 == some .lt) = xn) (hyn : (FloatKind.f32.format.order y 0 == some .lt) = yn) (w : World) :
    Calls Try.prog 40 #[.float .f32 y, .float .f32 x] w (RetFW (fnarrow (aA o xn yn T)) w) := by
  have HB := Lib.hid (show (!anyB notFin (fun j => if j = 0 then x else y) 2) = true by rw [anyB_two, hf]; rfl)
  have HFIT := Lib.hid (fun o x y => fits_aA hp.fv o x y)
  have hgt := hp.gt
  have HP := Lib.hid hp
  have HXN := Lib.hid hxn
  have HYN := Lib.hid hyn
  have HYA := Lib.hid hya
  have HXB := Lib.hid hxb
  have HVY := Lib.hid hvy
  have HVX := Lib.hid hvx
  have HK0 := Lib.hid a_start
  have hneg := @neg_run Try.prog
  clear hf hp hxn hyn hya hxb hvy hvx
  rcases o with _ | _
  · go_enter Try.func40, Try.ntmps40
    go_wp2_with fail
    refine (all_areFinite _ 2 _ _ (fun j => if j = 0 then x else y) _ (by omega) (row_two w x y _)).mono ?_
    rw [HB.out]
    rintro e w' ⟨rfl, q, rfl⟩
    go_wp2_with (refine wpList_wide rfl _ _ _ rfl (by kernel_rfl) (by kernel_rfl) _ rfl ?_; intro r n hr)
    obtain rfl := FIs.word HVY.out hr
    clear hr
    refine (abs_any _ hyl _).mono ?_
    rw [HYA.out]
    rintro e w' ⟨rfl, rfl⟩
    go_wp2_with (refine wpList_wide rfl _ _ _ rfl (by kernel_rfl) (by kernel_rfl) _ rfl ?_; intro r2 n2 hr2)
    obtain rfl := FIs.word HVX.out hr2
    clear hr2
    refine (abs_any _ hxl _).mono ?_
    rw [HXB.out]
    rintro e w' ⟨rfl, rfl⟩
    have t1 : True := trivial
    go_wp2_with (first | (have _t := t1; refine wpList_fop rfl _ _ _ _ _ rfl rfl _ _ _ rfl rfl ?_; intro r1 n1 h1; clear t1))
    have HT0 : Hid (FIs .f64 r1 T) := by
      refine Lib.hid ?_
      rw [HP.out.t]
      exact aT_of HP.out.fb HP.out.fa h1
    clear h1 hx0 hy0
    go_loopw [7, 42] (fun v i wr => ∃ (t j m : Nat), v = .float .f64 t ∧ i = .int .i64 (j : Int) ∧ j ≤ 3 ∧ FIs .f64 t (aIter T j) ∧ wr = (w.alloc (.cells #[.float .f32 x, .float .f32 y] 22)).drewN m) (fun _ i _ => 3 - (intOf i).toNat)
    case atStart => exact ⟨_, 0, _, rfl, rfl, by omega, HT0.out, rfl⟩
    case round =>
      obtain ⟨t, j, m, rfl, rfl, hj, ht, rfl⟩ := hrel
      have HTJ := Lib.hid ht
      clear ht
      by_cases hj3 : j < 3
      · have t1 : True := trivial; have t2 : True := trivial; have t3 : True := trivial; have t4 : True := trivial
        go_wp2_with (first | (go_at_call 56; refine (mathSqrt_any _ _).mono ?_; rintro e w' ⟨rs, ns, rfl, hrs, rfl⟩) | (have _t := t1; refine wpList_fop rfl _ _ _ _ _ rfl rfl _ _ _ rfl rfl ?_; intro r1 n1 h1; clear t1) | (have _t := t2; refine wpList_fop rfl _ _ _ _ _ rfl rfl _ _ _ rfl rfl ?_; intro r2 n2 h2; clear t2) | (have _t := t3; refine wpList_fop rfl _ _ _ _ _ rfl rfl _ _ _ rfl rfl ?_; intro r3 n3 h3; clear t3) | (have _t := t4; refine wpList_fop rfl _ _ _ _ _ rfl rfl _ _ _ rfl rfl ?_; intro r4 n4 h4; clear t4))
        have hstep := Lib.hid (aStep_of HTJ.out h1 h2 hrs h3 h4)
        clear h1 h2 h3 h4 hrs
        go_roundw
        case rel => exact ⟨_, j + 1, _, rfl, by go_num, by omega, hstep.out, rfl⟩
        case measure => simp [intOf]; omega
      · obtain rfl : j = 3 := by omega
        clear hj3 hj
        have t1 : True := trivial
        go_wp2_with (first | (have _t := t1; refine wpList_fop rfl _ _ _ _ _ rfl rfl _ _ _ rfl rfl ?_; intro r1 n1 h1; clear t1))
        have HU := Lib.hid h1
        clear h1
        go_loopw [9, 10] (fun v i wr => ∃ (p j m : Nat), v = .float .f64 p ∧ i = .float .f64 (fl (15 - 2 * (j : Int))) ∧ j ≤ 8 ∧ FIs .f64 p (aP (val .f64 r1) j) ∧ wr = (w.alloc (.cells #[.float .f32 x, .float .f32 y] 22)).drewN m) (fun _ i _ => 8 - jOf i)
        case atStart => exact ⟨_, 0, _, rfl, by rw [HK0.out], by omega, FIs.mk val_zero64 (by decide), rfl⟩
        case round =>
          obtain ⟨p, j, m2, rfl, rfl, hj, hpj, rfl⟩ := hrel
          have HPJ := Lib.hid hpj
          clear hpj
          by_cases hj8 : j < 8
          · have hge := a_ge j hj8
            have hdec := run_float_arith (P := Try.prog) (op := .sub) (t := 26) (k := .f64) (h := a_dec j hj8)
            have Hj := Lib.hid (jOf_lt j hj8)
            have t1 : True := trivial; have t2 : True := trivial; have t3 : True := trivial
            go_wp2_with (first | (have _t := t1; refine wpList_fop rfl _ _ _ _ _ rfl rfl _ _ _ rfl rfl ?_; intro r1 n1 h1; clear t1) | (have _t := t2; refine wpList_fop rfl _ _ _ _ _ rfl rfl _ _ _ rfl rfl ?_; intro r2 n2 h2; clear t2) | (have _t := t3; refine wpList_fop rfl _ _ _ _ _ rfl rfl _ _ _ rfl rfl ?_; intro r3 n3 h3; clear t3))
            have hstep := Lib.hid (aP_step hj8 rfl HPJ.out h1 h2 h3)
            clear h1 h2 h3
            go_roundw
            case rel => exact ⟨_, j + 1, _, rfl, rfl, by omega, hstep.out, rfl⟩
            case measure => exact Hj.out
          · obtain rfl : j = 8 := by omega
            clear hj8 hj
            have hge := a_end
            have hxn := HXN.out
            have hyn := HYN.out
            rcases xn with _ | _ <;> rcases yn with _ | _
            · have t1 : True := trivial; have t2 : True := trivial; have t3 : True := trivial
              go_wp2_with (first | (refine wpList_narrow rfl _ _ _ rfl (by kernel_rfl) (by kernel_rfl) _ rfl (by rw [((aE_of HTJ.out HU.out HPJ.out h1 h2 h3)).out]; exact HFIT.out false false false) ?_; intro r9 n9 h9) | (have _t := t1; refine wpList_fop rfl _ _ _ _ _ rfl rfl _ _ _ rfl rfl ?_; intro r1 n1 h1; clear t1) | (have _t := t2; refine wpList_fop rfl _ _ _ _ _ rfl rfl _ _ _ rfl rfl ?_; intro r2 n2 h2; clear t2) | (have _t := t3; refine wpList_fop rfl _ _ _ _ _ rfl rfl _ _ _ rfl rfl ?_; intro r3 n3 h3; clear t3))
              have hE := (aE_of HTJ.out HU.out HPJ.out h1 h2 h3)
              go_ret
              rw [hE.out] at h9
              exact ⟨_, rfl, h9, below_drewN ((Below.refl _ _).alloc (Nat.le_refl _) _) _⟩
            · have t1 : True := trivial; have t2 : True := trivial; have t3 : True := trivial
              go_wp2_with (first | (refine wpList_narrow rfl _ _ _ rfl (by kernel_rfl) (by kernel_rfl) _ rfl (by rw [(((aE_of HTJ.out HU.out HPJ.out h1 h2 h3)).neg).out]; exact HFIT.out false false true) ?_; intro r9 n9 h9) | (have _t := t1; refine wpList_fop rfl _ _ _ _ _ rfl rfl _ _ _ rfl rfl ?_; intro r1 n1 h1; clear t1) | (have _t := t2; refine wpList_fop rfl _ _ _ _ _ rfl rfl _ _ _ rfl rfl ?_; intro r2 n2 h2; clear t2) | (have _t := t3; refine wpList_fop rfl _ _ _ _ _ rfl rfl _ _ _ rfl rfl ?_; intro r3 n3 h3; clear t3))
              have hE := ((aE_of HTJ.out HU.out HPJ.out h1 h2 h3)).neg
              go_ret
              rw [hE.out] at h9
              exact ⟨_, rfl, h9, below_drewN ((Below.refl _ _).alloc (Nat.le_refl _) _) _⟩
            · have t1 : True := trivial; have t2 : True := trivial; have t3 : True := trivial; have t4 : True := trivial
              go_wp2_with (first | (refine wpList_narrow rfl _ _ _ rfl (by kernel_rfl) (by kernel_rfl) _ rfl (by rw [((aLeft_of (aE_of HTJ.out HU.out HPJ.out h1 h2 h3) h4)).out]; exact HFIT.out false true false) ?_; intro r9 n9 h9) | (have _t := t1; refine wpList_fop rfl _ _ _ _ _ rfl rfl _ _ _ rfl rfl ?_; intro r1 n1 h1; clear t1) | (have _t := t2; refine wpList_fop rfl _ _ _ _ _ rfl rfl _ _ _ rfl rfl ?_; intro r2 n2 h2; clear t2) | (have _t := t3; refine wpList_fop rfl _ _ _ _ _ rfl rfl _ _ _ rfl rfl ?_; intro r3 n3 h3; clear t3) | (have _t := t4; refine wpList_fop rfl _ _ _ _ _ rfl rfl _ _ _ rfl rfl ?_; intro r4 n4 h4; clear t4))
              have hE := (aLeft_of (aE_of HTJ.out HU.out HPJ.out h1 h2 h3) h4)
              go_ret
              rw [hE.out] at h9
              exact ⟨_, rfl, h9, below_drewN ((Below.refl _ _).alloc (Nat.le_refl _) _) _⟩
            · have t1 : True := trivial; have t2 : True := trivial; have t3 : True := trivial; have t4 : True := trivial
              go_wp2_with (first | (refine wpList_narrow rfl _ _ _ rfl (by kernel_rfl) (by kernel_rfl) _ rfl (by rw [(((aLeft_of (aE_of HTJ.out HU.out HPJ.out h1 h2 h3) h4)).neg).out]; exact HFIT.out false true true) ?_; intro r9 n9 h9) | (have _t := t1; refine wpList_fop rfl _ _ _ _ _ rfl rfl _ _ _ rfl rfl ?_; intro r1 n1 h1; clear t1) | (have _t := t2; refine wpList_fop rfl _ _ _ _ _ rfl rfl _ _ _ rfl rfl ?_; intro r2 n2 h2; clear t2) | (have _t := t3; refine wpList_fop rfl _ _ _ _ _ rfl rfl _ _ _ rfl rfl ?_; intro r3 n3 h3; clear t3) | (have _t := t4; refine wpList_fop rfl _ _ _ _ _ rfl rfl _ _ _ rfl rfl ?_; intro r4 n4 h4; clear t4))
              have hE := ((aLeft_of (aE_of HTJ.out HU.out HPJ.out h1 h2 h3) h4)).neg
              go_ret
              rw [hE.out] at h9
              exact ⟨_, rfl, h9, below_drewN ((Below.refl _ _).alloc (Nat.le_refl _) _) _⟩
  · go_enter Try.func40, Try.ntmps40
    go_wp2_with fail
    refine (all_areFinite _ 2 _ _ (fun j => if j = 0 then x else y) _ (by omega) (row_two w x y _)).mono ?_
    rw [HB.out]
    rintro e w' ⟨rfl, q, rfl⟩
    go_wp2_with (refine wpList_wide rfl _ _ _ rfl (by kernel_rfl) (by kernel_rfl) _ rfl ?_; intro r n hr)
    obtain rfl := FIs.word HVY.out hr
    clear hr
    refine (abs_any _ hyl _).mono ?_
    rw [HYA.out]
    rintro e w' ⟨rfl, rfl⟩
    go_wp2_with (refine wpList_wide rfl _ _ _ rfl (by kernel_rfl) (by kernel_rfl) _ rfl ?_; intro r2 n2 hr2)
    obtain rfl := FIs.word HVX.out hr2
    clear hr2
    refine (abs_any _ hxl _).mono ?_
    rw [HXB.out]
    rintro e w' ⟨rfl, rfl⟩
    have t1 : True := trivial; have t2 : True := trivial
    go_wp2_with (first | (have _t := t1; refine wpList_fop rfl _ _ _ _ _ rfl rfl _ _ _ rfl rfl ?_; intro r1 n1 h1; clear t1) | (have _t := t2; refine wpList_fop rfl _ _ _ _ _ rfl rfl _ _ _ rfl rfl ?_; intro r2 n2 h2; clear t2))
    have HT0 : Hid (FIs .f64 r2 T) := by
      refine Lib.hid ?_
      rw [HP.out.t]
      exact aT_of HP.out.fa HP.out.fb h2
    clear h1 h2 hx0 hy0
    go_loopw [7, 42] (fun v i wr => ∃ (t j m : Nat), v = .float .f64 t ∧ i = .int .i64 (j : Int) ∧ j ≤ 3 ∧ FIs .f64 t (aIter T j) ∧ wr = (w.alloc (.cells #[.float .f32 x, .float .f32 y] 22)).drewN m) (fun _ i _ => 3 - (intOf i).toNat)
    case atStart => exact ⟨_, 0, _, rfl, rfl, by omega, HT0.out, rfl⟩
    case round =>
      obtain ⟨t, j, m, rfl, rfl, hj, ht, rfl⟩ := hrel
      have HTJ := Lib.hid ht
      clear ht
      by_cases hj3 : j < 3
      · have t1 : True := trivial; have t2 : True := trivial; have t3 : True := trivial; have t4 : True := trivial
        go_wp2_with (first | (go_at_call 56; refine (mathSqrt_any _ _).mono ?_; rintro e w' ⟨rs, ns, rfl, hrs, rfl⟩) | (have _t := t1; refine wpList_fop rfl _ _ _ _ _ rfl rfl _ _ _ rfl rfl ?_; intro r1 n1 h1; clear t1) | (have _t := t2; refine wpList_fop rfl _ _ _ _ _ rfl rfl _ _ _ rfl rfl ?_; intro r2 n2 h2; clear t2) | (have _t := t3; refine wpList_fop rfl _ _ _ _ _ rfl rfl _ _ _ rfl rfl ?_; intro r3 n3 h3; clear t3) | (have _t := t4; refine wpList_fop rfl _ _ _ _ _ rfl rfl _ _ _ rfl rfl ?_; intro r4 n4 h4; clear t4))
        have hstep := Lib.hid (aStep_of HTJ.out h1 h2 hrs h3 h4)
        clear h1 h2 h3 h4 hrs
        go_roundw
        case rel => exact ⟨_, j + 1, _, rfl, by go_num, by omega, hstep.out, rfl⟩
        case measure => simp [intOf]; omega
      · obtain rfl : j = 3 := by omega
        clear hj3 hj
        have t1 : True := trivial
        go_wp2_with (first | (have _t := t1; refine wpList_fop rfl _ _ _ _ _ rfl rfl _ _ _ rfl rfl ?_; intro r1 n1 h1; clear t1))
        have HU := Lib.hid h1
        clear h1
        go_loopw [9, 10] (fun v i wr => ∃ (p j m : Nat), v = .float .f64 p ∧ i = .float .f64 (fl (15 - 2 * (j : Int))) ∧ j ≤ 8 ∧ FIs .f64 p (aP (val .f64 r1) j) ∧ wr = (w.alloc (.cells #[.float .f32 x, .float .f32 y] 22)).drewN m) (fun _ i _ => 8 - jOf i)
        case atStart => exact ⟨_, 0, _, rfl, by rw [HK0.out], by omega, FIs.mk val_zero64 (by decide), rfl⟩
        case round =>
          obtain ⟨p, j, m2, rfl, rfl, hj, hpj, rfl⟩ := hrel
          have HPJ := Lib.hid hpj
          clear hpj
          by_cases hj8 : j < 8
          · have hge := a_ge j hj8
            have hdec := run_float_arith (P := Try.prog) (op := .sub) (t := 26) (k := .f64) (h := a_dec j hj8)
            have Hj := Lib.hid (jOf_lt j hj8)
            have t1 : True := trivial; have t2 : True := trivial; have t3 : True := trivial
            go_wp2_with (first | (have _t := t1; refine wpList_fop rfl _ _ _ _ _ rfl rfl _ _ _ rfl rfl ?_; intro r1 n1 h1; clear t1) | (have _t := t2; refine wpList_fop rfl _ _ _ _ _ rfl rfl _ _ _ rfl rfl ?_; intro r2 n2 h2; clear t2) | (have _t := t3; refine wpList_fop rfl _ _ _ _ _ rfl rfl _ _ _ rfl rfl ?_; intro r3 n3 h3; clear t3))
            have hstep := Lib.hid (aP_step hj8 rfl HPJ.out h1 h2 h3)
            clear h1 h2 h3
            go_roundw
            case rel => exact ⟨_, j + 1, _, rfl, rfl, by omega, hstep.out, rfl⟩
            case measure => exact Hj.out
          · obtain rfl : j = 8 := by omega
            clear hj8 hj
            have hge := a_end
            have hxn := HXN.out
            have hyn := HYN.out
            rcases xn with _ | _ <;> rcases yn with _ | _
            · have t1 : True := trivial; have t2 : True := trivial; have t3 : True := trivial; have t4 : True := trivial
              go_wp2_with (first | (refine wpList_narrow rfl _ _ _ rfl (by kernel_rfl) (by kernel_rfl) _ rfl (by rw [((aOver_of (aE_of HTJ.out HU.out HPJ.out h1 h2 h3) h4)).out]; exact HFIT.out true false false) ?_; intro r9 n9 h9) | (have _t := t1; refine wpList_fop rfl _ _ _ _ _ rfl rfl _ _ _ rfl rfl ?_; intro r1 n1 h1; clear t1) | (have _t := t2; refine wpList_fop rfl _ _ _ _ _ rfl rfl _ _ _ rfl rfl ?_; intro r2 n2 h2; clear t2) | (have _t := t3; refine wpList_fop rfl _ _ _ _ _ rfl rfl _ _ _ rfl rfl ?_; intro r3 n3 h3; clear t3) | (have _t := t4; refine wpList_fop rfl _ _ _ _ _ rfl rfl _ _ _ rfl rfl ?_; intro r4 n4 h4; clear t4))
              have hE := (aOver_of (aE_of HTJ.out HU.out HPJ.out h1 h2 h3) h4)
              go_ret
              rw [hE.out] at h9
              exact ⟨_, rfl, h9, below_drewN ((Below.refl _ _).alloc (Nat.le_refl _) _) _⟩
            · have t1 : True := trivial; have t2 : True := trivial; have t3 : True := trivial; have t4 : True := trivial
              go_wp2_with (first | (refine wpList_narrow rfl _ _ _ rfl (by kernel_rfl) (by kernel_rfl) _ rfl (by rw [(((aOver_of (aE_of HTJ.out HU.out HPJ.out h1 h2 h3) h4)).neg).out]; exact HFIT.out true false true) ?_; intro r9 n9 h9) | (have _t := t1; refine wpList_fop rfl _ _ _ _ _ rfl rfl _ _ _ rfl rfl ?_; intro r1 n1 h1; clear t1) | (have _t := t2; refine wpList_fop rfl _ _ _ _ _ rfl rfl _ _ _ rfl rfl ?_; intro r2 n2 h2; clear t2) | (have _t := t3; refine wpList_fop rfl _ _ _ _ _ rfl rfl _ _ _ rfl rfl ?_; intro r3 n3 h3; clear t3) | (have _t := t4; refine wpList_fop rfl _ _ _ _ _ rfl rfl _ _ _ rfl rfl ?_; intro r4 n4 h4; clear t4))
              have hE := ((aOver_of (aE_of HTJ.out HU.out HPJ.out h1 h2 h3) h4)).neg
              go_ret
              rw [hE.out] at h9
              exact ⟨_, rfl, h9, below_drewN ((Below.refl _ _).alloc (Nat.le_refl _) _) _⟩
            · have t1 : True := trivial; have t2 : True := trivial; have t3 : True := trivial; have t4 : True := trivial; have t5 : True := trivial
              go_wp2_with (first | (refine wpList_narrow rfl _ _ _ rfl (by kernel_rfl) (by kernel_rfl) _ rfl (by rw [((aLeft_of (aOver_of (aE_of HTJ.out HU.out HPJ.out h1 h2 h3) h4) h5)).out]; exact HFIT.out true true false) ?_; intro r9 n9 h9) | (have _t := t1; refine wpList_fop rfl _ _ _ _ _ rfl rfl _ _ _ rfl rfl ?_; intro r1 n1 h1; clear t1) | (have _t := t2; refine wpList_fop rfl _ _ _ _ _ rfl rfl _ _ _ rfl rfl ?_; intro r2 n2 h2; clear t2) | (have _t := t3; refine wpList_fop rfl _ _ _ _ _ rfl rfl _ _ _ rfl rfl ?_; intro r3 n3 h3; clear t3) | (have _t := t4; refine wpList_fop rfl _ _ _ _ _ rfl rfl _ _ _ rfl rfl ?_; intro r4 n4 h4; clear t4) | (have _t := t5; refine wpList_fop rfl _ _ _ _ _ rfl rfl _ _ _ rfl rfl ?_; intro r5 n5 h5; clear t5))
              have hE := (aLeft_of (aOver_of (aE_of HTJ.out HU.out HPJ.out h1 h2 h3) h4) h5)
              go_ret
              rw [hE.out] at h9
              exact ⟨_, rfl, h9, below_drewN ((Below.refl _ _).alloc (Nat.le_refl _) _) _⟩
            · have t1 : True := trivial; have t2 : True := trivial; have t3 : True := trivial; have t4 : True := trivial; have t5 : True := trivial
              go_wp2_with (first | (refine wpList_narrow rfl _ _ _ rfl (by kernel_rfl) (by kernel_rfl) _ rfl (by rw [(((aLeft_of (aOver_of (aE_of HTJ.out HU.out HPJ.out h1 h2 h3) h4) h5)).neg).out]; exact HFIT.out true true true) ?_; intro r9 n9 h9) | (have _t := t1; refine wpList_fop rfl _ _ _ _ _ rfl rfl _ _ _ rfl rfl ?_; intro r1 n1 h1; clear t1) | (have _t := t2; refine wpList_fop rfl _ _ _ _ _ rfl rfl _ _ _ rfl rfl ?_; intro r2 n2 h2; clear t2) | (have _t := t3; refine wpList_fop rfl _ _ _ _ _ rfl rfl _ _ _ rfl rfl ?_; intro r3 n3 h3; clear t3) | (have _t := t4; refine wpList_fop rfl _ _ _ _ _ rfl rfl _ _ _ rfl rfl ?_; intro r4 n4 h4; clear t4) | (have _t := t5; refine wpList_fop rfl _ _ _ _ _ rfl rfl _ _ _ rfl rfl ?_; intro r5 n5 h5; clear t5))
              have hE := ((aLeft_of (aOver_of (aE_of HTJ.out HU.out HPJ.out h1 h2 h3) h4) h5)).neg
              go_ret
              rw [hE.out] at h9
              exact ⟨_, rfl, h9, below_drewN ((Below.refl _ _).alloc (Nat.le_refl _) _) _⟩
end Go.Proofs.Ytecglaggmheokaa
