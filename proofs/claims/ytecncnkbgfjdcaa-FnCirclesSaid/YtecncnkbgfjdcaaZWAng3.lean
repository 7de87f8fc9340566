/- AngleTurns: the walk of the reference. -/
import Derived.Test.YtecncnkbgfjdcaaZWTen
import Derived.Test.YtecncnkbgfjdcaaZWSine3
import Derived.Deep.RegionWith
import Derived.Test.YtecncnkbgfjdcaaZWNum
set_option linter.unusedVariables false
set_option linter.unusedSimpArgs false
namespace Go.Proofs.Ytecncnkbgfjdcaa
open Ieee Go.RowKit near

theorem val_eight : val .f64 4620693217682128896 = some eight64 := by decide +kernel
theorem val_2pi : val .f64 4618760256179416344 = some twoPi64 := by decide +kernel
theorem val_quarter : val .f64 4598175219545276416 = some quarter64 := by decide +kernel
theorem aStep_of {t r1 r2 rs r3 r4 : Nat} {T : Option Nat} (ht : FIs .f64 t T) (h1 : FIs .f64 r1 (fop .mul .f64 (val .f64 t) (val .f64 t))) (h2 : FIs .f64 r2 (fop .add .f64 (val .f64 4607182418800017408) (val .f64 r1)))
    (hs : FIs .f64 rs (fsqrt (val .f64 r2))) (h3 : FIs .f64 r3 (fop .add .f64 (val .f64 4607182418800017408) (val .f64 rs))) (h4 : FIs .f64 r4 (fop .quo .f64 (val .f64 t) (val .f64 r3))) : FIs .f64 r4 (aStep T) := by
  rw [h3.out, hs.out, h2.out, h1.out, ht.out, val_one64] at h4; exact h4
theorem aP_step {u p a b c : Nat} {U : Option Nat} {j : Nat} (hj : j < 8) (hu : val .f64 u = U) (hp : FIs .f64 p (aP U j)) (ha : FIs .f64 a (fop .quo .f64 (val .f64 4607182418800017408) (val .f64 (fl (15 - 2 * (j : Int))))))
    (hb : FIs .f64 b (fop .mul .f64 (val .f64 u) (val .f64 p))) (hc : FIs .f64 c (fop .sub .f64 (val .f64 a) (val .f64 b))) : FIs .f64 c (aP U (j + 1)) := by
  rw [ha.out, hb.out, hu, hp.out, val_one64, a_val j (by omega)] at hc; exact hc
theorem aE_of {t u p a b c : Nat} {T : Option Nat} (ht : FIs .f64 t T) (hu : FIs .f64 u (fop .mul .f64 (val .f64 t) (val .f64 t))) (hp : FIs .f64 p (aP (val .f64 u) 8)) (ha : FIs .f64 a (fop .mul .f64 (val .f64 t) (val .f64 p)))
    (hb : FIs .f64 b (fop .mul .f64 (val .f64 4620693217682128896) (val .f64 a))) (hc : FIs .f64 c (fop .quo .f64 (val .f64 b) (val .f64 4618760256179416344))) : FIs .f64 c (aE T) := by
  rw [hu.out, ht.out] at hp
  rw [hb.out, ha.out, ht.out, hp.out, val_eight, val_2pi] at hc; exact hc
theorem aOver_of {c d : Nat} {E : Option Nat} (hc : FIs .f64 c E) (hd : FIs .f64 d (fop .sub .f64 (val .f64 4598175219545276416) (val .f64 c))) : FIs .f64 d (aOver true E) := by rw [hc.out, val_quarter] at hd; exact hd
theorem aLeft_of {c d : Nat} {E : Option Nat} (hc : FIs .f64 c E) (hd : FIs .f64 d (fop .sub .f64 (val .f64 4602678819172646912) (val .f64 c))) : FIs .f64 d (aLeft true E) := by rw [hc.out, val_half] at hd; exact hd
theorem aT_of {q a b : Nat} (ha : Fin64 a) (hb : Fin64 b) (h : FIs .f64 q (fop .quo .f64 (val .f64 b) (val .f64 a))) : FIs .f64 q (fop .quo .f64 (some b) (some a)) := by rw [ha.val, hb.val] at h; exact h

/-- Two points' parts that are numbers, not both nought: a = |y|, b = |x|. -/
structure Pt (a b : Nat) (o : Bool) (T : Option Nat) : Prop where
  fa : Fin64 a
  fb : Fin64 b
  gt : (FloatKind.f64.format.order a b == some .gt) = o
  t : T = if o then fop .quo .f64 (some b) (some a) else fop .quo .f64 (some a) (some b)
  fv : FV T 1075
def jOf (v : Value) : Nat := ((List.range 9).find? fun (j : Nat) => bitsOf v == fl (15 - 2 * ((j : Nat) : Int))).getD 8
theorem jOf_all : ∀ j : Nat, j < 9 → jOf (.float .f64 (fl (15 - 2 * (j : Int)))) = j := by decide +kernel
theorem jOf_lt (j : Nat) (h : j < 8) : 8 - jOf (.float .f64 (fl (15 - 2 * ((j + 1 : Nat) : Int)))) < 8 - jOf (.float .f64 (fl (15 - 2 * (j : Int)))) := by
  rw [jOf_all _ (by omega), jOf_all _ (by omega)]; omega

end Go.Proofs.Ytecncnkbgfjdcaa
set_option linter.unusedVariables false
set_option linter.unusedSimpArgs false
namespace Go.Proofs.Ytecncnkbgfjdcaa
open Ieee Go.RowKit near

/-- A float32 of value v is returned; what was there stands. -/
def RetFW (v : Option Nat) (w : World) (e : Ending) (w' : World) : Prop := ∃ r, e = .returned (.float .f32 r) ∧ FIs .f32 r v ∧ Below w.heap.size w w'
theorem row_two (w : World) (x y : Nat) (e : TypeId) : Row (w.alloc (.cells #[.float .f32 x, .float .f32 y] e)) (w.heap.size + 1) (some ⟨w.heap.size, 0, none⟩) 2 (fun j => .float .f32 ((fun j => if j = 0 then x else y) j)) := by
  intro _
  refine ⟨w.heap.size, 0, rfl, by omega, fun j hj => ?_⟩
  rw [World.cell?_alloc_at _ _ _ _ rfl]
  rcases (show j = 0 ∨ j = 1 by omega) with rfl | rfl <;> rfl
theorem anyB_two (p : Nat → Bool) (x y : Nat) : anyB p (fun j => if j = 0 then x else y) 2 = (p x || p y) := by simp [anyB, List.range_succ]
theorem FIs.word {x r y : Nat} (hv : fwide (val .f32 x) = some y) (hr : FIs .f64 r (fwide (val .f32 x))) : r = y := by
  have := hr.out
  rw [hv] at this
  exact (val_eq_some this).1.symm
theorem implAng_nan (y x : Nat) (hf : (notFin x || notFin y) = true) (w : World) : Calls Try.prog 37 #[.float .f32 y, .float .f32 x] w (RetFW none w) := by
  have HB := Lib.hid (show (!anyB notFin (fun j => if j = 0 then x else y) 2) = false by rw [anyB_two, hf]; rfl)
  clear hf
  go_enter Try.func37, Try.ntmps37
  go_wp2_with fail
  refine (all_areFinite _ 2 _ _ (fun j => if j = 0 then x else y) _ (by omega) (row_two w x y _)).mono ?_
  rw [HB.out]
  rintro e w' ⟨rfl, q, rfl⟩
  go_wp2_with (first | (go_at_call 33; refine (nan_any _).mono ?_; rintro e w' ⟨rfl, rfl⟩) | (refine wpList_narrow rfl _ _ _ rfl (by kernel_rfl) (by kernel_rfl) _ rfl (by rw [val_nan64]; exact fits_none) ?_; intro r n hr))
  go_ret
  rw [val_nan64] at hr
  exact ⟨_, rfl, hr, below_drewN ((Below.refl _ _).alloc (Nat.le_refl _) _) _⟩
theorem implAng_zero (y x : Nat) (hf : (notFin x || notFin y) = false) (hx0 : (FloatKind.f32.format.order x 0 == some .eq) = true) (hy0 : (FloatKind.f32.format.order y 0 == some .eq) = true) (w : World) : Calls Try.prog 37 #[.float .f32 y, .float .f32 x] w (RetFW (some 0) w) := by
  have HB := Lib.hid (show (!anyB notFin (fun j => if j = 0 then x else y) 2) = true by rw [anyB_two, hf]; rfl)
  clear hf
  go_enter Try.func37, Try.ntmps37
  go_wp2_with fail
  refine (all_areFinite _ 2 _ _ (fun j => if j = 0 then x else y) _ (by omega) (row_two w x y _)).mono ?_
  rw [HB.out]
  rintro e w' ⟨rfl, q, rfl⟩
  go_wp2_with fail
  go_ret
  exact ⟨_, rfl, FIs.mk val_zero32 (by decide), below_drewN ((Below.refl _ _).alloc (Nat.le_refl _) _) _⟩
set_option maxHeartbeats 8000000 in
theorem implAng_fin1 (y x ry rx a b : Nat) (hf : (notFin x || notFin y) = false) (hvy : fwide (val .f32 y) = some ry) (hvx : fwide (val .f32 x) = some rx) (hya : ry % 9223372036854775808 = a) (hxb : rx % 9223372036854775808 = b)
    (hyl : ry < 18446744073709551616) (hxl : rx < 18446744073709551616) (hx0 : (FloatKind.f32.format.order x 0 == some .eq) = false) {T : Option Nat} {o xn yn : Bool} (hp : Pt a b o T)
    (hxn : (FloatKind.f32.format.order x 0 == some .lt) = xn) (hyn : (FloatKind.f32.format.order y 0 == some .lt) = yn) (w : World) :
    Calls Try.prog 37 #[.float .f32 y, .float .f32 x] w (RetFW (fnarrow (aA o xn yn T)) w) := by
  have HB := Lib.hid (show (!anyB notFin (fun j => if j = 0 then x else y) 2) = true by rw [anyB_two, hf]; rfl)
  have HFIT := Lib.hid (fun o x y => fits_aA hp.fv o x y)
  have hgt := hp.gt
  have HP := Lib.hid hp
  have HXN := Lib.hid hxn
  have HYN := Lib.hid hyn
  have HYA := Lib.hid hya
  have HXB := Lib.hid hxb
  have HVY := Lib.hid hvy
  have HVX := Lib.hid hvx
  have HK0 := Lib.hid a_start
  have hneg := @neg_run Try.prog
  clear hf hp hxn hyn hya hxb hvy hvx
  rcases o with _ | _
  · go_enter Try.func37, Try.ntmps37
    go_wp2_with fail
    refine (all_areFinite _ 2 _ _ (fun j => if j = 0 then x else y) _ (by omega) (row_two w x y _)).mono ?_
    rw [HB.out]
    rintro e w' ⟨rfl, q, rfl⟩
    go_wp2_with (refine wpList_wide rfl _ _ _ rfl (by kernel_rfl) (by kernel_rfl) _ rfl ?_; intro r n hr)
    obtain rfl := FIs.word HVY.out hr
    clear hr
    refine (abs_any _ hyl _).mono ?_
    rw [HYA.out]
    rintro e w' ⟨rfl, rfl⟩
    go_wp2_with (refine wpList_wide rfl _ _ _ rfl (by kernel_rfl) (by kernel_rfl) _ rfl ?_; intro r2 n2 hr2)
    obtain rfl := FIs.word HVX.out hr2
    clear hr2
    refine (abs_any _ hxl _).mono ?_
    rw [HXB.out]
    rintro e w' ⟨rfl, rfl⟩
    have t1 : True := trivial
    go_wp2_with (first | (have _t := t1; refine wpList_fop rfl _ _ _ _ _ rfl rfl _ _ _ rfl rfl ?_; intro r1 n1 h1; clear t1))
    have HT0 : Hid (FIs .f64 r1 T) := by
      refine Lib.hid ?_
      rw [HP.out.t]
      exact aT_of HP.out.fb HP.out.fa h1
    clear h1 hx0
    go_loopw [7, 42] (fun v i wr => ∃ (t j m : Nat), v = .float .f64 t ∧ i = .int .i64 (j : Int) ∧ j ≤ 3 ∧ FIs .f64 t (aIter T j) ∧ wr = (w.alloc (.cells #[.float .f32 x, .float .f32 y] 34)).drewN m) (fun _ i _ => 3 - (intOf i).toNat)
    case atStart => exact ⟨_, 0, _, rfl, rfl, by omega, HT0.out, rfl⟩
    case round =>
      obtain ⟨t, j, m, rfl, rfl, hj, ht, rfl⟩ := hrel
      have HTJ := Lib.hid ht
      clear ht
      by_cases hj3 : j < 3
      · have t1 : True := trivial; have t2 : True := trivial; have t3 : True := trivial; have t4 : True := trivial
        go_wp2_with (first | (go_at_call 54; refine (mathSqrt_any _ _).mono ?_; rintro e w' ⟨rs, ns, rfl, hrs, rfl⟩) | (have _t := t1; refine wpList_fop rfl _ _ _ _ _ rfl rfl _ _ _ rfl rfl ?_; intro r1 n1 h1; clear t1) | (have _t := t2; refine wpList_fop rfl _ _ _ _ _ rfl rfl _ _ _ rfl rfl ?_; intro r2 n2 h2; clear t2) | (have _t := t3; refine wpList_fop rfl _ _ _ _ _ rfl rfl _ _ _ rfl rfl ?_; intro r3 n3 h3; clear t3) | (have _t := t4; refine wpList_fop rfl _ _ _ _ _ rfl rfl _ _ _ rfl rfl ?_; intro r4 n4 h4; clear t4))
        have hstep := Lib.hid (aStep_of HTJ.out h1 h2 hrs h3 h4)
        clear h1 h2 h3 h4 hrs
        go_roundw
        case rel => exact ⟨_, j + 1, _, rfl, by go_num, by omega, hstep.out, rfl⟩
        case measure => simp [intOf]; omega
      · obtain rfl : j = 3 := by omega
        clear hj3 hj
        have t1 : True := trivial
        go_wp2_with (first | (have _t := t1; refine wpList_fop rfl _ _ _ _ _ rfl rfl _ _ _ rfl rfl ?_; intro r1 n1 h1; clear t1))
        have HU := Lib.hid h1
        clear h1
        go_loopw [9, 10] (fun v i wr => ∃ (p j m : Nat), v = .float .f64 p ∧ i = .float .f64 (fl (15 - 2 * (j : Int))) ∧ j ≤ 8 ∧ FIs .f64 p (aP (val .f64 r1) j) ∧ wr = (w.alloc (.cells #[.float .f32 x, .float .f32 y] 34)).drewN m) (fun _ i _ => 8 - jOf i)
        case atStart => exact ⟨_, 0, _, rfl, by rw [HK0.out], by omega, FIs.mk val_zero64 (by decide), rfl⟩
        case round =>
          obtain ⟨p, j, m2, rfl, rfl, hj, hpj, rfl⟩ := hrel
          have HPJ := Lib.hid hpj
          clear hpj
          by_cases hj8 : j < 8
          · have hge := a_ge j hj8
            have hdec := run_float_arith (P := Try.prog) (op := .sub) (t := 39) (k := .f64) (h := a_dec j hj8)
            have Hj := Lib.hid (jOf_lt j hj8)
            have t1 : True := trivial; have t2 : True := trivial; have t3 : True := trivial
            go_wp2_with (first | (have _t := t1; refine wpList_fop rfl _ _ _ _ _ rfl rfl _ _ _ rfl rfl ?_; intro r1 n1 h1; clear t1) | (have _t := t2; refine wpList_fop rfl _ _ _ _ _ rfl rfl _ _ _ rfl rfl ?_; intro r2 n2 h2; clear t2) | (have _t := t3; refine wpList_fop rfl _ _ _ _ _ rfl rfl _ _ _ rfl rfl ?_; intro r3 n3 h3; clear t3))
            have hstep := Lib.hid (aP_step hj8 rfl HPJ.out h1 h2 h3)
            clear h1 h2 h3
            go_roundw
            case rel => exact ⟨_, j + 1, _, rfl, rfl, by omega, hstep.out, rfl⟩
            case measure => exact Hj.out
          · obtain rfl : j = 8 := by omega
            clear hj8 hj
            have hge := a_end
            have hxn := HXN.out
            have hyn := HYN.out
            rcases xn with _ | _ <;> rcases yn with _ | _
            · have t1 : True := trivial; have t2 : True := trivial; have t3 : True := trivial
              go_wp2_with (first | (refine wpList_narrow rfl _ _ _ rfl (by kernel_rfl) (by kernel_rfl) _ rfl (by rw [((aE_of HTJ.out HU.out HPJ.out h1 h2 h3)).out]; exact HFIT.out false false false) ?_; intro r9 n9 h9) | (have _t := t1; refine wpList_fop rfl _ _ _ _ _ rfl rfl _ _ _ rfl rfl ?_; intro r1 n1 h1; clear t1) | (have _t := t2; refine wpList_fop rfl _ _ _ _ _ rfl rfl _ _ _ rfl rfl ?_; intro r2 n2 h2; clear t2) | (have _t := t3; refine wpList_fop rfl _ _ _ _ _ rfl rfl _ _ _ rfl rfl ?_; intro r3 n3 h3; clear t3))
              have hE := (aE_of HTJ.out HU.out HPJ.out h1 h2 h3)
              go_ret
              rw [hE.out] at h9
              exact ⟨_, rfl, h9, below_drewN ((Below.refl _ _).alloc (Nat.le_refl _) _) _⟩
            · have t1 : True := trivial; have t2 : True := trivial; have t3 : True := trivial
              go_wp2_with (first | (refine wpList_narrow rfl _ _ _ rfl (by kernel_rfl) (by kernel_rfl) _ rfl (by rw [(((aE_of HTJ.out HU.out HPJ.out h1 h2 h3)).neg).out]; exact HFIT.out false false true) ?_; intro r9 n9 h9) | (have _t := t1; refine wpList_fop rfl _ _ _ _ _ rfl rfl _ _ _ rfl rfl ?_; intro r1 n1 h1; clear t1) | (have _t := t2; refine wpList_fop rfl _ _ _ _ _ rfl rfl _ _ _ rfl rfl ?_; intro r2 n2 h2; clear t2) | (have _t := t3; refine wpList_fop rfl _ _ _ _ _ rfl rfl _ _ _ rfl rfl ?_; intro r3 n3 h3; clear t3))
              have hE := ((aE_of HTJ.out HU.out HPJ.out h1 h2 h3)).neg
              go_ret
              rw [hE.out] at h9
              exact ⟨_, rfl, h9, below_drewN ((Below.refl _ _).alloc (Nat.le_refl _) _) _⟩
            · have t1 : True := trivial; have t2 : True := trivial; have t3 : True := trivial; have t4 : True := trivial
              go_wp2_with (first | (refine wpList_narrow rfl _ _ _ rfl (by kernel_rfl) (by kernel_rfl) _ rfl (by rw [((aLeft_of (aE_of HTJ.out HU.out HPJ.out h1 h2 h3) h4)).out]; exact HFIT.out false true false) ?_; intro r9 n9 h9) | (have _t := t1; refine wpList_fop rfl _ _ _ _ _ rfl rfl _ _ _ rfl rfl ?_; intro r1 n1 h1; clear t1) | (have _t := t2; refine wpList_fop rfl _ _ _ _ _ rfl rfl _ _ _ rfl rfl ?_; intro r2 n2 h2; clear t2) | (have _t := t3; refine wpList_fop rfl _ _ _ _ _ rfl rfl _ _ _ rfl rfl ?_; intro r3 n3 h3; clear t3) | (have _t := t4; refine wpList_fop rfl _ _ _ _ _ rfl rfl _ _ _ rfl rfl ?_; intro r4 n4 h4; clear t4))
              have hE := (aLeft_of (aE_of HTJ.out HU.out HPJ.out h1 h2 h3) h4)
              go_ret
              rw [hE.out] at h9
              exact ⟨_, rfl, h9, below_drewN ((Below.refl _ _).alloc (Nat.le_refl _) _) _⟩
            · have t1 : True := trivial; have t2 : True := trivial; have t3 : True := trivial; have t4 : True := trivial
              go_wp2_with (first | (refine wpList_narrow rfl _ _ _ rfl (by kernel_rfl) (by kernel_rfl) _ rfl (by rw [(((aLeft_of (aE_of HTJ.out HU.out HPJ.out h1 h2 h3) h4)).neg).out]; exact HFIT.out false true true) ?_; intro r9 n9 h9) | (have _t := t1; refine wpList_fop rfl _ _ _ _ _ rfl rfl _ _ _ rfl rfl ?_; intro r1 n1 h1; clear t1) | (have _t := t2; refine wpList_fop rfl _ _ _ _ _ rfl rfl _ _ _ rfl rfl ?_; intro r2 n2 h2; clear t2) | (have _t := t3; refine wpList_fop rfl _ _ _ _ _ rfl rfl _ _ _ rfl rfl ?_; intro r3 n3 h3; clear t3) | (have _t := t4; refine wpList_fop rfl _ _ _ _ _ rfl rfl _ _ _ rfl rfl ?_; intro r4 n4 h4; clear t4))
              have hE := ((aLeft_of (aE_of HTJ.out HU.out HPJ.out h1 h2 h3) h4)).neg
              go_ret
              rw [hE.out] at h9
              exact ⟨_, rfl, h9, below_drewN ((Below.refl _ _).alloc (Nat.le_refl _) _) _⟩
  · go_enter Try.func37, Try.ntmps37
    go_wp2_with fail
    refine (all_areFinite _ 2 _ _ (fun j => if j = 0 then x else y) _ (by omega) (row_two w x y _)).mono ?_
    rw [HB.out]
    rintro e w' ⟨rfl, q, rfl⟩
    go_wp2_with (refine wpList_wide rfl _ _ _ rfl (by kernel_rfl) (by kernel_rfl) _ rfl ?_; intro r n hr)
    obtain rfl := FIs.word HVY.out hr
    clear hr
    refine (abs_any _ hyl _).mono ?_
    rw [HYA.out]
    rintro e w' ⟨rfl, rfl⟩
    go_wp2_with (refine wpList_wide rfl _ _ _ rfl (by kernel_rfl) (by kernel_rfl) _ rfl ?_; intro r2 n2 hr2)
    obtain rfl := FIs.word HVX.out hr2
    clear hr2
    refine (abs_any _ hxl _).mono ?_
    rw [HXB.out]
    rintro e w' ⟨rfl, rfl⟩
    have t1 : True := trivial; have t2 : True := trivial
    go_wp2_with (first | (have _t := t1; refine wpList_fop rfl _ _ _ _ _ rfl rfl _ _ _ rfl rfl ?_; intro r1 n1 h1; clear t1) | (have _t := t2; refine wpList_fop rfl _ _ _ _ _ rfl rfl _ _ _ rfl rfl ?_; intro r2 n2 h2; clear t2))
    have HT0 : Hid (FIs .f64 r2 T) := by
      refine Lib.hid ?_
      rw [HP.out.t]
      exact aT_of HP.out.fa HP.out.fb h2
    clear h1 h2 hx0
    go_loopw [7, 42] (fun v i wr => ∃ (t j m : Nat), v = .float .f64 t ∧ i = .int .i64 (j : Int) ∧ j ≤ 3 ∧ FIs .f64 t (aIter T j) ∧ wr = (w.alloc (.cells #[.float .f32 x, .float .f32 y] 34)).drewN m) (fun _ i _ => 3 - (intOf i).toNat)
    case atStart => exact ⟨_, 0, _, rfl, rfl, by omega, HT0.out, rfl⟩
    case round =>
      obtain ⟨t, j, m, rfl, rfl, hj, ht, rfl⟩ := hrel
      have HTJ := Lib.hid ht
      clear ht
      by_cases hj3 : j < 3
      · have t1 : True := trivial; have t2 : True := trivial; have t3 : True := trivial; have t4 : True := trivial
        go_wp2_with (first | (go_at_call 54; refine (mathSqrt_any _ _).mono ?_; rintro e w' ⟨rs, ns, rfl, hrs, rfl⟩) | (have _t := t1; refine wpList_fop rfl _ _ _ _ _ rfl rfl _ _ _ rfl rfl ?_; intro r1 n1 h1; clear t1) | (have _t := t2; refine wpList_fop rfl _ _ _ _ _ rfl rfl _ _ _ rfl rfl ?_; intro r2 n2 h2; clear t2) | (have _t := t3; refine wpList_fop rfl _ _ _ _ _ rfl rfl _ _ _ rfl rfl ?_; intro r3 n3 h3; clear t3) | (have _t := t4; refine wpList_fop rfl _ _ _ _ _ rfl rfl _ _ _ rfl rfl ?_; intro r4 n4 h4; clear t4))
        have hstep := Lib.hid (aStep_of HTJ.out h1 h2 hrs h3 h4)
        clear h1 h2 h3 h4 hrs
        go_roundw
        case rel => exact ⟨_, j + 1, _, rfl, by go_num, by omega, hstep.out, rfl⟩
        case measure => simp [intOf]; omega
      · obtain rfl : j = 3 := by omega
        clear hj3 hj
        have t1 : True := trivial
        go_wp2_with (first | (have _t := t1; refine wpList_fop rfl _ _ _ _ _ rfl rfl _ _ _ rfl rfl ?_; intro r1 n1 h1; clear t1))
        have HU := Lib.hid h1
        clear h1
        go_loopw [9, 10] (fun v i wr => ∃ (p j m : Nat), v = .float .f64 p ∧ i = .float .f64 (fl (15 - 2 * (j : Int))) ∧ j ≤ 8 ∧ FIs .f64 p (aP (val .f64 r1) j) ∧ wr = (w.alloc (.cells #[.float .f32 x, .float .f32 y] 34)).drewN m) (fun _ i _ => 8 - jOf i)
        case atStart => exact ⟨_, 0, _, rfl, by rw [HK0.out], by omega, FIs.mk val_zero64 (by decide), rfl⟩
        case round =>
          obtain ⟨p, j, m2, rfl, rfl, hj, hpj, rfl⟩ := hrel
          have HPJ := Lib.hid hpj
          clear hpj
          by_cases hj8 : j < 8
          · have hge := a_ge j hj8
            have hdec := run_float_arith (P := Try.prog) (op := .sub) (t := 39) (k := .f64) (h := a_dec j hj8)
            have Hj := Lib.hid (jOf_lt j hj8)
            have t1 : True := trivial; have t2 : True := trivial; have t3 : True := trivial
            go_wp2_with (first | (have _t := t1; refine wpList_fop rfl _ _ _ _ _ rfl rfl _ _ _ rfl rfl ?_; intro r1 n1 h1; clear t1) | (have _t := t2; refine wpList_fop rfl _ _ _ _ _ rfl rfl _ _ _ rfl rfl ?_; intro r2 n2 h2; clear t2) | (have _t := t3; refine wpList_fop rfl _ _ _ _ _ rfl rfl _ _ _ rfl rfl ?_; intro r3 n3 h3; clear t3))
            have hstep := Lib.hid (aP_step hj8 rfl HPJ.out h1 h2 h3)
            clear h1 h2 h3
            go_roundw
            case rel => exact ⟨_, j + 1, _, rfl, rfl, by omega, hstep.out, rfl⟩
            case measure => exact Hj.out
          · obtain rfl : j = 8 := by omega
            clear hj8 hj
            have hge := a_end
            have hxn := HXN.out
            have hyn := HYN.out
            rcases xn with _ | _ <;> rcases yn with _ | _
            · have t1 : True := trivial; have t2 : True := trivial; have t3 : True := trivial; have t4 : True := trivial
              go_wp2_with (first | (refine wpList_narrow rfl _ _ _ rfl (by kernel_rfl) (by kernel_rfl) _ rfl (by rw [((aOver_of (aE_of HTJ.out HU.out HPJ.out h1 h2 h3) h4)).out]; exact HFIT.out true false false) ?_; intro r9 n9 h9) | (have _t := t1; refine wpList_fop rfl _ _ _ _ _ rfl rfl _ _ _ rfl rfl ?_; intro r1 n1 h1; clear t1) | (have _t := t2; refine wpList_fop rfl _ _ _ _ _ rfl rfl _ _ _ rfl rfl ?_; intro r2 n2 h2; clear t2) | (have _t := t3; refine wpList_fop rfl _ _ _ _ _ rfl rfl _ _ _ rfl rfl ?_; intro r3 n3 h3; clear t3) | (have _t := t4; refine wpList_fop rfl _ _ _ _ _ rfl rfl _ _ _ rfl rfl ?_; intro r4 n4 h4; clear t4))
              have hE := (aOver_of (aE_of HTJ.out HU.out HPJ.out h1 h2 h3) h4)
              go_ret
              rw [hE.out] at h9
              exact ⟨_, rfl, h9, below_drewN ((Below.refl _ _).alloc (Nat.le_refl _) _) _⟩
            · have t1 : True := trivial; have t2 : True := trivial; have t3 : True := trivial; have t4 : True := trivial
              go_wp2_with (first | (refine wpList_narrow rfl _ _ _ rfl (by kernel_rfl) (by kernel_rfl) _ rfl (by rw [(((aOver_of (aE_of HTJ.out HU.out HPJ.out h1 h2 h3) h4)).neg).out]; exact HFIT.out true false true) ?_; intro r9 n9 h9) | (have _t := t1; refine wpList_fop rfl _ _ _ _ _ rfl rfl _ _ _ rfl rfl ?_; intro r1 n1 h1; clear t1) | (have _t := t2; refine wpList_fop rfl _ _ _ _ _ rfl rfl _ _ _ rfl rfl ?_; intro r2 n2 h2; clear t2) | (have _t := t3; refine wpList_fop rfl _ _ _ _ _ rfl rfl _ _ _ rfl rfl ?_; intro r3 n3 h3; clear t3) | (have _t := t4; refine wpList_fop rfl _ _ _ _ _ rfl rfl _ _ _ rfl rfl ?_; intro r4 n4 h4; clear t4))
              have hE := ((aOver_of (aE_of HTJ.out HU.out HPJ.out h1 h2 h3) h4)).neg
              go_ret
              rw [hE.out] at h9
              exact ⟨_, rfl, h9, below_drewN ((Below.refl _ _).alloc (Nat.le_refl _) _) _⟩
            · have t1 : True := trivial; have t2 : True := trivial; have t3 : True := trivial; have t4 : True := trivial; have t5 : True := trivial
              go_wp2_with (first | (refine wpList_narrow rfl _ _ _ rfl (by kernel_rfl) (by kernel_rfl) _ rfl (by rw [((aLeft_of (aOver_of (aE_of HTJ.out HU.out HPJ.out h1 h2 h3) h4) h5)).out]; exact HFIT.out true true false) ?_; intro r9 n9 h9) | (have _t := t1; refine wpList_fop rfl _ _ _ _ _ rfl rfl _ _ _ rfl rfl ?_; intro r1 n1 h1; clear t1) | (have _t := t2; refine wpList_fop rfl _ _ _ _ _ rfl rfl _ _ _ rfl rfl ?_; intro r2 n2 h2; clear t2) | (have _t := t3; refine wpList_fop rfl _ _ _ _ _ rfl rfl _ _ _ rfl rfl ?_; intro r3 n3 h3; clear t3) | (have _t := t4; refine wpList_fop rfl _ _ _ _ _ rfl rfl _ _ _ rfl rfl ?_; intro r4 n4 h4; clear t4) | (have _t := t5; refine wpList_fop rfl _ _ _ _ _ rfl rfl _ _ _ rfl rfl ?_; intro r5 n5 h5; clear t5))
              have hE := (aLeft_of (aOver_of (aE_of HTJ.out HU.out HPJ.out h1 h2 h3) h4) h5)
              go_ret
              rw [hE.out] at h9
              exact ⟨_, rfl, h9, below_drewN ((Below.refl _ _).alloc (Nat.le_refl _) _) _⟩
            · have t1 : True := trivial; have t2 : True := trivial; have t3 : True := trivial; have t4 : True := trivial; have t5 : True := trivial
              go_wp2_with (first | (refine wpList_narrow rfl _ _ _ rfl (by kernel_rfl) (by kernel_rfl) _ rfl (by rw [(((aLeft_of (aOver_of (aE_of HTJ.out HU.out HPJ.out h1 h2 h3) h4) h5)).neg).out]; exact HFIT.out true true true) ?_; intro r9 n9 h9) | (have _t := t1; refine wpList_fop rfl _ _ _ _ _ rfl rfl _ _ _ rfl rfl ?_; intro r1 n1 h1; clear t1) | (have _t := t2; refine wpList_fop rfl _ _ _ _ _ rfl rfl _ _ _ rfl rfl ?_; intro r2 n2 h2; clear t2) | (have _t := t3; refine wpList_fop rfl _ _ _ _ _ rfl rfl _ _ _ rfl rfl ?_; intro r3 n3 h3; clear t3) | (have _t := t4; refine wpList_fop rfl _ _ _ _ _ rfl rfl _ _ _ rfl rfl ?_; intro r4 n4 h4; clear t4) | (have _t := t5; refine wpList_fop rfl _ _ _ _ _ rfl rfl _ _ _ rfl rfl ?_; intro r5 n5 h5; clear t5))
              have hE := ((aLeft_of (aOver_of (aE_of HTJ.out HU.out HPJ.out h1 h2 h3) h4) h5)).neg
              go_ret
              rw [hE.out] at h9
              exact ⟨_, rfl, h9, below_drewN ((Below.refl _ _).alloc (Nat.le_refl _) _) _⟩
set_option maxHeartbeats 8000000 in
theorem implAng_fin2 (y x ry rx a b : Nat) (hf : (notFin x || notFin y) = false) (hvy : fwide (val .f32 y) = some ry) (hvx : fwide (val .f32 x) = some rx) (hya : ry % 9223372036854775808 = a) (hxb : rx % 9223372036854775808 = b)
    (hyl : ry < 18446744073709551616) (hxl : rx < 18446744073709551616) (hx0 : (FloatKind.f32.format.order x 0 == some .eq) = true) (hy0 : (FloatKind.f32.format.order y 0 == some .eq) = false) {T : Option Nat} {o xn yn : Bool} (hp : Pt a b o T)
    (hxn : (FloatKind.f32.format.order x 0 == some .lt) = xn) (hyn : (FloatKind.f32.format.order y 0 == some .lt) = yn) (w : World) :
    Calls Try.prog 37 #[.float .f32 y, .float .f32 x] w (RetFW (fnarrow (aA o xn yn T)) w) := by
  have HB := Lib.hid (show (!anyB notFin (fun j => if j = 0 then x else y) 2) = true by rw [anyB_two, hf]; rfl)
  have HFIT := Lib.hid (fun o x y => fits_aA hp.fv o x y)
  have hgt := hp.gt
  have HP := Lib.hid hp
  have HXN := Lib.hid hxn
  have HYN := Lib.hid hyn
  have HYA := Lib.hid hya
  have HXB := Lib.hid hxb
  have HVY := Lib.hid hvy
  have HVX := Lib.hid hvx
  have HK0 := Lib.hid a_start
  have hneg := @neg_run Try.prog
  clear hf hp hxn hyn hya hxb hvy hvx
  rcases o with _ | _
  · go_enter Try.func37, Try.ntmps37
    go_wp2_with fail
    refine (all_areFinite _ 2 _ _ (fun j => if j = 0 then x else y) _ (by omega) (row_two w x y _)).mono ?_
    rw [HB.out]
    rintro e w' ⟨rfl, q, rfl⟩
    go_wp2_with (refine wpList_wide rfl _ _ _ rfl (by kernel_rfl) (by kernel_rfl) _ rfl ?_; intro r n hr)
    obtain rfl := FIs.word HVY.out hr
    clear hr
    refine (abs_any _ hyl _).mono ?_
    rw [HYA.out]
    rintro e w' ⟨rfl, rfl⟩
    go_wp2_with (refine wpList_wide rfl _ _ _ rfl (by kernel_rfl) (by kernel_rfl) _ rfl ?_; intro r2 n2 hr2)
    obtain rfl := FIs.word HVX.out hr2
    clear hr2
    refine (abs_any _ hxl _).mono ?_
    rw [HXB.out]
    rintro e w' ⟨rfl, rfl⟩
    have t1 : True := trivial
    go_wp2_with (first | (have _t := t1; refine wpList_fop rfl _ _ _ _ _ rfl rfl _ _ _ rfl rfl ?_; intro r1 n1 h1; clear t1))
    have HT0 : Hid (FIs .f64 r1 T) := by
      refine Lib.hid ?_
      rw [HP.out.t]
      exact aT_of HP.out.fb HP.out.fa h1
    clear h1 hx0 hy0
    go_loopw [7, 42] (fun v i wr => ∃ (t j m : Nat), v = .float .f64 t ∧ i = .int .i64 (j : Int) ∧ j ≤ 3 ∧ FIs .f64 t (aIter T j) ∧ wr = (w.alloc (.cells #[.float .f32 x, .float .f32 y] 34)).drewN m) (fun _ i _ => 3 - (intOf i).toNat)
    case atStart => exact ⟨_, 0, _, rfl, rfl, by omega, HT0.out, rfl⟩
    case round =>
      obtain ⟨t, j, m, rfl, rfl, hj, ht, rfl⟩ := hrel
      have HTJ := Lib.hid ht
      clear ht
      by_cases hj3 : j < 3
      · have t1 : True := trivial; have t2 : True := trivial; have t3 : True := trivial; have t4 : True := trivial
        go_wp2_with (first | (go_at_call 54; refine (mathSqrt_any _ _).mono ?_; rintro e w' ⟨rs, ns, rfl, hrs, rfl⟩) | (have _t := t1; refine wpList_fop rfl _ _ _ _ _ rfl rfl _ _ _ rfl rfl ?_; intro r1 n1 h1; clear t1) | (have _t := t2; refine wpList_fop rfl _ _ _ _ _ rfl rfl _ _ _ rfl rfl ?_; intro r2 n2 h2; clear t2) | (have _t := t3; refine wpList_fop rfl _ _ _ _ _ rfl rfl _ _ _ rfl rfl ?_; intro r3 n3 h3; clear t3) | (have _t := t4; refine wpList_fop rfl _ _ _ _ _ rfl rfl _ _ _ rfl rfl ?_; intro r4 n4 h4; clear t4))
        have hstep := Lib.hid (aStep_of HTJ.out h1 h2 hrs h3 h4)
        clear h1 h2 h3 h4 hrs
        go_roundw
        case rel => exact ⟨_, j + 1, _, rfl, by go_num, by omega, hstep.out, rfl⟩
        case measure => simp [intOf]; omega
      · obtain rfl : j = 3 := by omega
        clear hj3 hj
        have t1 : True := trivial
        go_wp2_with (first | (have _t := t1; refine wpList_fop rfl _ _ _ _ _ rfl rfl _ _ _ rfl rfl ?_; intro r1 n1 h1; clear t1))
        have HU := Lib.hid h1
        clear h1
        go_loopw [9, 10] (fun v i wr => ∃ (p j m : Nat), v = .float .f64 p ∧ i = .float .f64 (fl (15 - 2 * (j : Int))) ∧ j ≤ 8 ∧ FIs .f64 p (aP (val .f64 r1) j) ∧ wr = (w.alloc (.cells #[.float .f32 x, .float .f32 y] 34)).drewN m) (fun _ i _ => 8 - jOf i)
        case atStart => exact ⟨_, 0, _, rfl, by rw [HK0.out], by omega, FIs.mk val_zero64 (by decide), rfl⟩
        case round =>
          obtain ⟨p, j, m2, rfl, rfl, hj, hpj, rfl⟩ := hrel
          have HPJ := Lib.hid hpj
          clear hpj
          by_cases hj8 : j < 8
          · have hge := a_ge j hj8
            have hdec := run_float_arith (P := Try.prog) (op := .sub) (t := 39) (k := .f64) (h := a_dec j hj8)
            have Hj := Lib.hid (jOf_lt j hj8)
            have t1 : True := trivial; have t2 : True := trivial; have t3 : True := trivial
            go_wp2_with (first | (have _t := t1; refine wpList_fop rfl _ _ _ _ _ rfl rfl _ _ _ rfl rfl ?_; intro r1 n1 h1; clear t1) | (have _t := t2; refine wpList_fop rfl _ _ _ _ _ rfl rfl _ _ _ rfl rfl ?_; intro r2 n2 h2; clear t2) | (have _t := t3; refine wpList_fop rfl _ _ _ _ _ rfl rfl _ _ _ rfl rfl ?_; intro r3 n3 h3; clear t3))
            have hstep := Lib.hid (aP_step hj8 rfl HPJ.out h1 h2 h3)
            clear h1 h2 h3
            go_roundw
            case rel => exact ⟨_, j + 1, _, rfl, rfl, by omega, hstep.out, rfl⟩
            case measure => exact Hj.out
          · obtain rfl : j = 8 := by omega
            clear hj8 hj
            have hge := a_end
            have hxn := HXN.out
            have hyn := HYN.out
            rcases xn with _ | _ <;> rcases yn with _ | _
            · have t1 : True := trivial; have t2 : True := trivial; have t3 : True := trivial
              go_wp2_with (first | (refine wpList_narrow rfl _ _ _ rfl (by kernel_rfl) (by kernel_rfl) _ rfl (by rw [((aE_of HTJ.out HU.out HPJ.out h1 h2 h3)).out]; exact HFIT.out false false false) ?_; intro r9 n9 h9) | (have _t := t1; refine wpList_fop rfl _ _ _ _ _ rfl rfl _ _ _ rfl rfl ?_; intro r1 n1 h1; clear t1) | (have _t := t2; refine wpList_fop rfl _ _ _ _ _ rfl rfl _ _ _ rfl rfl ?_; intro r2 n2 h2; clear t2) | (have _t := t3; refine wpList_fop rfl _ _ _ _ _ rfl rfl _ _ _ rfl rfl ?_; intro r3 n3 h3; clear t3))
              have hE := (aE_of HTJ.out HU.out HPJ.out h1 h2 h3)
              go_ret
              rw [hE.out] at h9
              exact ⟨_, rfl, h9, below_drewN ((Below.refl _ _).alloc (Nat.le_refl _) _) _⟩
            · have t1 : True := trivial; have t2 : True := trivial; have t3 : True := trivial
              go_wp2_with (first | (refine wpList_narrow rfl _ _ _ rfl (by kernel_rfl) (by kernel_rfl) _ rfl (by rw [(((aE_of HTJ.out HU.out HPJ.out h1 h2 h3)).neg).out]; exact HFIT.out false false true) ?_; intro r9 n9 h9) | (have _t := t1; refine wpList_fop rfl _ _ _ _ _ rfl rfl _ _ _ rfl rfl ?_; intro r1 n1 h1; clear t1) | (have _t := t2; refine wpList_fop rfl _ _ _ _ _ rfl rfl _ _ _ rfl rfl ?_; intro r2 n2 h2; clear t2) | (have _t := t3; refine wpList_fop rfl _ _ _ _ _ rfl rfl _ _ _ rfl rfl ?_; intro r3 n3 h3; clear t3))
              have hE := ((aE_of HTJ.out HU.out HPJ.out h1 h2 h3)).neg
              go_ret
              rw [hE.out] at h9
              exact ⟨_, rfl, h9, below_drewN ((Below.refl _ _).alloc (Nat.le_refl _) _) _⟩
            · have t1 : True := trivial; have t2 : True := trivial; have t3 : True := trivial; have t4 : True := trivial
              go_wp2_with (first | (refine wpList_narrow rfl _ _ _ rfl (by kernel_rfl) (by kernel_rfl) _ rfl (by rw [((aLeft_of (aE_of HTJ.out HU.out HPJ.out h1 h2 h3) h4)).out]; exact HFIT.out false true false) ?_; intro r9 n9 h9) | (have _t := t1; refine wpList_fop rfl _ _ _ _ _ rfl rfl _ _ _ rfl rfl ?_; intro r1 n1 h1; clear t1) | (have _t := t2; refine wpList_fop rfl _ _ _ _ _ rfl rfl _ _ _ rfl rfl ?_; intro r2 n2 h2; clear t2) | (have _t := t3; refine wpList_fop rfl _ _ _ _ _ rfl rfl _ _ _ rfl rfl ?_; intro r3 n3 h3; clear t3) | (have _t := t4; refine wpList_fop rfl _ _ _ _ _ rfl rfl _ _ _ rfl rfl ?_; intro r4 n4 h4; clear t4))
              have hE := (aLeft_of (aE_of HTJ.out HU.out HPJ.out h1 h2 h3) h4)
              go_ret
              rw [hE.out] at h9
              exact ⟨_, rfl, h9, below_drewN ((Below.refl _ _).alloc (Nat.le_refl _) _) _⟩
            · have t1 : True := trivial; have t2 : True := trivial; have t3 : True := trivial; have t4 : True := trivial
              go_wp2_with (first | (refine wpList_narrow rfl _ _ _ rfl (by kernel_rfl) (by kernel_rfl) _ rfl (by rw [(((aLeft_of (aE_of HTJ.out HU.out HPJ.out h1 h2 h3) h4)).neg).out]; exact HFIT.out false true true) ?_; intro r9 n9 h9) | (have _t := t1; refine wpList_fop rfl _ _ _ _ _ rfl rfl _ _ _ rfl rfl ?_; intro r1 n1 h1; clear t1) | (have _t := t2; refine wpList_fop rfl _ _ _ _ _ rfl rfl _ _ _ rfl rfl ?_; intro r2 n2 h2; clear t2) | (have _t := t3; refine wpList_fop rfl _ _ _ _ _ rfl rfl _ _ _ rfl rfl ?_; intro r3 n3 h3; clear t3) | (have _t := t4; refine wpList_fop rfl _ _ _ _ _ rfl rfl _ _ _ rfl rfl ?_; intro r4 n4 h4; clear t4))
              have hE := ((aLeft_of (aE_of HTJ.out HU.out HPJ.out h1 h2 h3) h4)).neg
              go_ret
              rw [hE.out] at h9
              exact ⟨_, rfl, h9, below_drewN ((Below.refl _ _).alloc (Nat.le_refl _) _) _⟩
  · go_enter Try.func37, Try.ntmps37
    go_wp2_with fail
    refine (all_areFinite _ 2 _ _ (fun j => if j = 0 then x else y) _ (by omega) (row_two w x y _)).mono ?_
    rw [HB.out]
    rintro e w' ⟨rfl, q, rfl⟩
    go_wp2_with (refine wpList_wide rfl _ _ _ rfl (by kernel_rfl) (by kernel_rfl) _ rfl ?_; intro r n hr)
    obtain rfl := FIs.word HVY.out hr
    clear hr
    refine (abs_any _ hyl _).mono ?_
    rw [HYA.out]
    rintro e w' ⟨rfl, rfl⟩
    go_wp2_with (refine wpList_wide rfl _ _ _ rfl (by kernel_rfl) (by kernel_rfl) _ rfl ?_; intro r2 n2 hr2)
    obtain rfl := FIs.word HVX.out hr2
    clear hr2
    refine (abs_any _ hxl _).mono ?_
    rw [HXB.out]
    rintro e w' ⟨rfl, rfl⟩
    have t1 : True := trivial; have t2 : True := trivial
    go_wp2_with (first | (have _t := t1; refine wpList_fop rfl _ _ _ _ _ rfl rfl _ _ _ rfl rfl ?_; intro r1 n1 h1; clear t1) | (have _t := t2; refine wpList_fop rfl _ _ _ _ _ rfl rfl _ _ _ rfl rfl ?_; intro r2 n2 h2; clear t2))
    have HT0 : Hid (FIs .f64 r2 T) := by
      refine Lib.hid ?_
      rw [HP.out.t]
      exact aT_of HP.out.fa HP.out.fb h2
    clear h1 h2 hx0 hy0
    go_loopw [7, 42] (fun v i wr => ∃ (t j m : Nat), v = .float .f64 t ∧ i = .int .i64 (j : Int) ∧ j ≤ 3 ∧ FIs .f64 t (aIter T j) ∧ wr = (w.alloc (.cells #[.float .f32 x, .float .f32 y] 34)).drewN m) (fun _ i _ => 3 - (intOf i).toNat)
    case atStart => exact ⟨_, 0, _, rfl, rfl, by omega, HT0.out, rfl⟩
    case round =>
      obtain ⟨t, j, m, rfl, rfl, hj, ht, rfl⟩ := hrel
      have HTJ := Lib.hid ht
      clear ht
      by_cases hj3 : j < 3
      · have t1 : True := trivial; have t2 : True := trivial; have t3 : True := trivial; have t4 : True := trivial
        go_wp2_with (first | (go_at_call 54; refine (mathSqrt_any _ _).mono ?_; rintro e w' ⟨rs, ns, rfl, hrs, rfl⟩) | (have _t := t1; refine wpList_fop rfl _ _ _ _ _ rfl rfl _ _ _ rfl rfl ?_; intro r1 n1 h1; clear t1) | (have _t := t2; refine wpList_fop rfl _ _ _ _ _ rfl rfl _ _ _ rfl rfl ?_; intro r2 n2 h2; clear t2) | (have _t := t3; refine wpList_fop rfl _ _ _ _ _ rfl rfl _ _ _ rfl rfl ?_; intro r3 n3 h3; clear t3) | (have _t := t4; refine wpList_fop rfl _ _ _ _ _ rfl rfl _ _ _ rfl rfl ?_; intro r4 n4 h4; clear t4))
        have hstep := Lib.hid (aStep_of HTJ.out h1 h2 hrs h3 h4)
        clear h1 h2 h3 h4 hrs
        go_roundw
        case rel => exact ⟨_, j + 1, _, rfl, by go_num, by omega, hstep.out, rfl⟩
        case measure => simp [intOf]; omega
      · obtain rfl : j = 3 := by omega
        clear hj3 hj
        have t1 : True := trivial
        go_wp2_with (first | (have _t := t1; refine wpList_fop rfl _ _ _ _ _ rfl rfl _ _ _ rfl rfl ?_; intro r1 n1 h1; clear t1))
        have HU := Lib.hid h1
        clear h1
        go_loopw [9, 10] (fun v i wr => ∃ (p j m : Nat), v = .float .f64 p ∧ i = .float .f64 (fl (15 - 2 * (j : Int))) ∧ j ≤ 8 ∧ FIs .f64 p (aP (val .f64 r1) j) ∧ wr = (w.alloc (.cells #[.float .f32 x, .float .f32 y] 34)).drewN m) (fun _ i _ => 8 - jOf i)
        case atStart => exact ⟨_, 0, _, rfl, by rw [HK0.out], by omega, FIs.mk val_zero64 (by decide), rfl⟩
        case round =>
          obtain ⟨p, j, m2, rfl, rfl, hj, hpj, rfl⟩ := hrel
          have HPJ := Lib.hid hpj
          clear hpj
          by_cases hj8 : j < 8
          · have hge := a_ge j hj8
            have hdec := run_float_arith (P := Try.prog) (op := .sub) (t := 39) (k := .f64) (h := a_dec j hj8)
            have Hj := Lib.hid (jOf_lt j hj8)
            have t1 : True := trivial; have t2 : True := trivial; have t3 : True := trivial
            go_wp2_with (first | (have _t := t1; refine wpList_fop rfl _ _ _ _ _ rfl rfl _ _ _ rfl rfl ?_; intro r1 n1 h1; clear t1) | (have _t := t2; refine wpList_fop rfl _ _ _ _ _ rfl rfl _ _ _ rfl rfl ?_; intro r2 n2 h2; clear t2) | (have _t := t3; refine wpList_fop rfl _ _ _ _ _ rfl rfl _ _ _ rfl rfl ?_; intro r3 n3 h3; clear t3))
            have hstep := Lib.hid (aP_step hj8 rfl HPJ.out h1 h2 h3)
            clear h1 h2 h3
            go_roundw
            case rel => exact ⟨_, j + 1, _, rfl, rfl, by omega, hstep.out, rfl⟩
            case measure => exact Hj.out
          · obtain rfl : j = 8 := by omega
            clear hj8 hj
            have hge := a_end
            have hxn := HXN.out
            have hyn := HYN.out
            rcases xn with _ | _ <;> rcases yn with _ | _
            · have t1 : True := trivial; have t2 : True := trivial; have t3 : True := trivial; have t4 : True := trivial
              go_wp2_with (first | (refine wpList_narrow rfl _ _ _ rfl (by kernel_rfl) (by kernel_rfl) _ rfl (by rw [((aOver_of (aE_of HTJ.out HU.out HPJ.out h1 h2 h3) h4)).out]; exact HFIT.out true false false) ?_; intro r9 n9 h9) | (have _t := t1; refine wpList_fop rfl _ _ _ _ _ rfl rfl _ _ _ rfl rfl ?_; intro r1 n1 h1; clear t1) | (have _t := t2; refine wpList_fop rfl _ _ _ _ _ rfl rfl _ _ _ rfl rfl ?_; intro r2 n2 h2; clear t2) | (have _t := t3; refine wpList_fop rfl _ _ _ _ _ rfl rfl _ _ _ rfl rfl ?_; intro r3 n3 h3; clear t3) | (have _t := t4; refine wpList_fop rfl _ _ _ _ _ rfl rfl _ _ _ rfl rfl ?_; intro r4 n4 h4; clear t4))
              have hE := (aOver_of (aE_of HTJ.out HU.out HPJ.out h1 h2 h3) h4)
              go_ret
              rw [hE.out] at h9
              exact ⟨_, rfl, h9, below_drewN ((Below.refl _ _).alloc (Nat.le_refl _) _) _⟩
            · have t1 : True := trivial; have t2 : True := trivial; have t3 : True := trivial; have t4 : True := trivial
              go_wp2_with (first | (refine wpList_narrow rfl _ _ _ rfl (by kernel_rfl) (by kernel_rfl) _ rfl (by rw [(((aOver_of (aE_of HTJ.out HU.out HPJ.out h1 h2 h3) h4)).neg).out]; exact HFIT.out true false true) ?_; intro r9 n9 h9) | (have _t := t1; refine wpList_fop rfl _ _ _ _ _ rfl rfl _ _ _ rfl rfl ?_; intro r1 n1 h1; clear t1) | (have _t := t2; refine wpList_fop rfl _ _ _ _ _ rfl rfl _ _ _ rfl rfl ?_; intro r2 n2 h2; clear t2) | (have _t := t3; refine wpList_fop rfl _ _ _ _ _ rfl rfl _ _ _ rfl rfl ?_; intro r3 n3 h3; clear t3) | (have _t := t4; refine wpList_fop rfl _ _ _ _ _ rfl rfl _ _ _ rfl rfl ?_; intro r4 n4 h4; clear t4))
              have hE := ((aOver_of (aE_of HTJ.out HU.out HPJ.out h1 h2 h3) h4)).neg
              go_ret
              rw [hE.out] at h9
              exact ⟨_, rfl, h9, below_drewN ((Below.refl _ _).alloc (Nat.le_refl _) _) _⟩
            · have t1 : True := trivial; have t2 : True := trivial; have t3 : True := trivial; have t4 : True := trivial; have t5 : True := trivial
              go_wp2_with (first | (refine wpList_narrow rfl _ _ _ rfl (by kernel_rfl) (by kernel_rfl) _ rfl (by rw [((aLeft_of (aOver_of (aE_of HTJ.out HU.out HPJ.out h1 h2 h3) h4) h5)).out]; exact HFIT.out true true false) ?_; intro r9 n9 h9) | (have _t := t1; refine wpList_fop rfl _ _ _ _ _ rfl rfl _ _ _ rfl rfl ?_; intro r1 n1 h1; clear t1) | (have _t := t2; refine wpList_fop rfl _ _ _ _ _ rfl rfl _ _ _ rfl rfl ?_; intro r2 n2 h2; clear t2) | (have _t := t3; refine wpList_fop rfl _ _ _ _ _ rfl rfl _ _ _ rfl rfl ?_; intro r3 n3 h3; clear t3) | (have _t := t4; refine wpList_fop rfl _ _ _ _ _ rfl rfl _ _ _ rfl rfl ?_; intro r4 n4 h4; clear t4) | (have _t := t5; refine wpList_fop rfl _ _ _ _ _ rfl rfl _ _ _ rfl rfl ?_; intro r5 n5 h5; clear t5))
              have hE := (aLeft_of (aOver_of (aE_of HTJ.out HU.out HPJ.out h1 h2 h3) h4) h5)
              go_ret
              rw [hE.out] at h9
              exact ⟨_, rfl, h9, below_drewN ((Below.refl _ _).alloc (Nat.le_refl _) _) _⟩
            · have t1 : True := trivial; have t2 : True := trivial; have t3 : True := trivial; have t4 : True := trivial; have t5 : True := trivial
              go_wp2_with (first | (refine wpList_narrow rfl _ _ _ rfl (by kernel_rfl) (by kernel_rfl) _ rfl (by rw [(((aLeft_of (aOver_of (aE_of HTJ.out HU.out HPJ.out h1 h2 h3) h4) h5)).neg).out]; exact HFIT.out true true true) ?_; intro r9 n9 h9) | (have _t := t1; refine wpList_fop rfl _ _ _ _ _ rfl rfl _ _ _ rfl rfl ?_; intro r1 n1 h1; clear t1) | (have _t := t2; refine wpList_fop rfl _ _ _ _ _ rfl rfl _ _ _ rfl rfl ?_; intro r2 n2 h2; clear t2) | (have _t := t3; refine wpList_fop rfl _ _ _ _ _ rfl rfl _ _ _ rfl rfl ?_; intro r3 n3 h3; clear t3) | (have _t := t4; refine wpList_fop rfl _ _ _ _ _ rfl rfl _ _ _ rfl rfl ?_; intro r4 n4 h4; clear t4) | (have _t := t5; refine wpList_fop rfl _ _ _ _ _ rfl rfl _ _ _ rfl rfl ?_; intro r5 n5 h5; clear t5))
              have hE := ((aLeft_of (aOver_of (aE_of HTJ.out HU.out HPJ.out h1 h2 h3) h4) h5)).neg
              go_ret
              rw [hE.out] at h9
              exact ⟨_, rfl, h9, below_drewN ((Below.refl _ _).alloc (Nat.le_refl _) _) _⟩
end Go.Proofs.Ytecncnkbgfjdcaa
set_option linter.unusedVariables false
set_option linter.unusedSimpArgs false
namespace Go.Proofs.Ytecncnkbgfjdcaa
open Ieee Go.RowKit near

/-- A finite float32, widened. -/
structure FinW (x r : Nat) : Prop where
  num : (FloatKind.f32.decode x).isNaN = false
  lt : rg FloatKind.f32.format x < 2139095040
  wide : WideOf x r
  fin : Fin64 r
  l64 : r < 18446744073709551616
  eq : fwide (val .f32 x) = some r
theorem finB_iff (x : Nat) : (finB (val .f32 x) = true ∧ (FloatKind.f32.decode x).isNaN = false ∧ rg FloatKind.f32.format x < 2139095040) ∨ (finB (val .f32 x) = false ∧ ∀ r, FIs .f64 r (fwide (val .f32 x)) → ¬ Fin64 r) := by
  cases hn : (FloatKind.f32.decode x).isNaN with
  | true =>
    right
    refine ⟨by rw [val_none hn]; decide, fun r hr hf => ?_⟩
    have h1 := hr.out
    rw [val_none hn] at h1
    have := val_eq_none h1
    rw [hf.num] at this
    cases this
  | false =>
    have hle := not_nan_rg hn
    rw [inf32] at hle
    by_cases hi : rg FloatKind.f32.format x = 2139095040
    · right
      refine ⟨finB_inf hn hi, fun r hr hf => ?_⟩
      have := (wide_of hn hr).inf.2 hi
      unfold Fin64 at hf
      omega
    · left
      exact ⟨finB_num hn (by omega), rfl, by omega⟩
theorem finW_of {x r : Nat} (hn : (FloatKind.f32.decode x).isNaN = false) (hlt : rg FloatKind.f32.format x < 2139095040) (hr : FIs .f64 r (fwide (val .f32 x))) : FinW x r := by
  have W := wide_of hn hr
  refine ⟨hn, hlt, W, ?_, hr.lt64, ?_⟩
  · have h1 := not_nan_rg (k := .f64) W.num
    rw [inf64] at h1
    unfold Fin64
    rcases Nat.lt_or_ge (rg FloatKind.f64.format r) 9218868437227405312 with h | h
    · exact h
    · have := W.inf.1 (by omega)
      omega
  · rw [val_some hn]
    show some (FloatKind.f64.encode (FloatKind.f32.decode x)) = some r
    rw [W.word]
theorem wide_is (x : Nat) (hn : (FloatKind.f32.decode x).isNaN = false) : FIs .f64 (FloatKind.f64.encode (FloatKind.f32.decode x)) (fwide (val .f32 x)) := by
  rw [val_some hn]
  exact FIs.mk (val_some (write_not_nan .f64 _ hn)) (Ieee.Format.write_lt _ _)

theorem rg_abs {r : Nat} : rg FloatKind.f64.format (rg FloatKind.f64.format r) = rg FloatKind.f64.format r := by unfold rg; rw [sw64]; omega
theorem fin_abs {r : Nat} (h : Fin64 r) : Fin64 (rg FloatKind.f64.format r) := by unfold Fin64; rw [rg_abs]; exact h
theorem ub_absN (N M : Nat) (hNM : N ≤ M) {z r : Nat} (h : FinW z r) (hu : UB (fwide (val .f32 z)) N) : UB (some (rg FloatKind.f64.format r)) M := by
  intro c hc
  obtain rfl := Option.some.inj hc
  rw [rg_abs]
  rw [h.eq] at hu
  exact (hu.mono hNM) r rfl
theorem pt_of {y x ry rx : Nat} (hy : FinW y ry) (hx : FinW x rx) (hne : ¬ (rg FloatKind.f32.format x = 0 ∧ rg FloatKind.f32.format y = 0)) :
    Pt (rg FloatKind.f64.format ry) (rg FloatKind.f64.format rx) (decide (rg FloatKind.f64.format rx < rg FloatKind.f64.format ry))
      (if decide (rg FloatKind.f64.format rx < rg FloatKind.f64.format ry) then fop .quo .f64 (some (rg FloatKind.f64.format rx)) (some (rg FloatKind.f64.format ry)) else fop .quo .f64 (some (rg FloatKind.f64.format ry)) (some (rg FloatKind.f64.format rx))) := by
  have fy : rg FloatKind.f64.format ry < 9218868437227405312 := hy.fin
  have fx : rg FloatKind.f64.format rx < 9218868437227405312 := hx.fin
  have ub : ∀ {z r : Nat}, FinW z r → UB (some (rg FloatKind.f64.format r)) 1300 := fun h => ub_absN 1202 1300 (by omega) h (UB.wide h.lt)
  refine ⟨fin_abs hy.fin, fin_abs hx.fin, ?_, rfl, ?_⟩
  · rw [order_pos (by omega) (by omega)]
    rcases Nat.lt_trichotomy (rg FloatKind.f64.format ry) (rg FloatKind.f64.format rx) with h | h | h
    · rw [if_pos h, decide_eq_false (by omega)]; rfl
    · rw [if_neg (by omega), if_pos h, decide_eq_false (by omega)]; rfl
    · rw [if_neg (by omega), if_neg (by omega), decide_eq_true h]; rfl
  · by_cases h : rg FloatKind.f64.format rx < rg FloatKind.f64.format ry
    · rw [decide_eq_true h, if_pos rfl]
      exact a0_fv (fin_abs hy.fin) (fin_abs hx.fin) (ub hx) (by rw [rg_abs]; omega) (by rw [rg_abs, rg_abs]; omega)
    · rw [decide_eq_false h, if_neg (by decide)]
      refine a0_fv (fin_abs hx.fin) (fin_abs hy.fin) (ub hy) ?_ (by rw [rg_abs, rg_abs]; omega)
      rw [rg_abs]
      rcases Nat.eq_zero_or_pos (rg FloatKind.f64.format rx) with h0 | h0
      · exact absurd ⟨hx.wide.zero.1 h0, hy.wide.zero.1 (by omega)⟩ hne
      · exact h0
theorem lt0_wide {x r : Nat} (h : FinW x r) : (FloatKind.f64.format.order r 0 == some .lt) = (FloatKind.f32.format.order x 0 == some .lt) := by
  rw [order_lt_zero .f64 h.wide.num, order_lt_zero .f32 h.num, h.wide.sign]
  congr 1
  by_cases h0 : rg FloatKind.f32.format x = 0
  · rw [decide_eq_false (by simpa using h.wide.zero.2 h0), decide_eq_false (by simpa using h0)]
  · rw [decide_eq_true (show rg FloatKind.f64.format r ≠ 0 from fun e => h0 (h.wide.zero.1 e)), decide_eq_true h0]
theorem eq0_wide {x r : Nat} (h : FinW x r) : (FloatKind.f64.format.order r 0 == some .eq) = decide (rg FloatKind.f32.format x = 0) := by
  rw [order_eq_zero .f64 h.wide.num]
  by_cases h0 : rg FloatKind.f32.format x = 0
  · rw [decide_eq_true h0, decide_eq_true (h.wide.zero.2 h0)]
  · rw [decide_eq_false h0, decide_eq_false (fun e => h0 (h.wide.zero.1 e))]

end Go.Proofs.Ytecncnkbgfjdcaa
