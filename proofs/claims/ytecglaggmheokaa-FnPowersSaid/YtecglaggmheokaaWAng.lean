/- AngleTurns: the walk of the reference. -/
import Derived.Test.YtecglaggmheokaaWTen
import Derived.Test.YtecglaggmheokaaWSine3
import Derived.Deep.RegionWith
set_option linter.unusedVariables false
set_option linter.unusedSimpArgs false
namespace Go.Proofs.Ytecglaggmheokaa
open Ieee Go.RowKit near

theorem val_eight : val .f64 4620693217682128896 = some eight64 := by decide +kernel
theorem val_2pi : val .f64 4618760256179416344 = some twoPi64 := by decide +kernel
theorem val_quarter : val .f64 4598175219545276416 = some quarter64 := by decide +kernel
theorem aStep_of {t r1 r2 rs r3 r4 : Nat} {T : Option Nat} (ht : FIs .f64 t T) (h1 : FIs .f64 r1 (fop .mul .f64 (val .f64 t) (val .f64 t))) (h2 : FIs .f64 r2 (fop .add .f64 (val .f64 4607182418800017408) (val .f64 r1)))
    (hs : FIs .f64 rs (fsqrt (val .f64 r2))) (h3 : FIs .f64 r3 (fop .add .f64 (val .f64 4607182418800017408) (val .f64 rs))) (h4 : FIs .f64 r4 (fop .quo .f64 (val .f64 t) (val .f64 r3))) : FIs .f64 r4 (aStep T) := by
  rw [h3.out, hs.out, h2.out, h1.out, ht.out, val_one64] at h4; exact h4
theorem aP_step {u p a b c : Nat} {U : Option Nat} {j : Nat} (hj : j < 8) (hu : val .f64 u = U) (hp : FIs .f64 p (aP U j)) (ha : FIs .f64 a (fop .quo .f64 (val .f64 4607182418800017408) (val .f64 (fl (15 - 2 * (j : Int))))))
    (hb : FIs .f64 b (fop .mul .f64 (val .f64 u) (val .f64 p))) (hc : FIs .f64 c (fop .sub .f64 (val .f64 a) (val .f64 b))) : FIs .f64 c (aP U (j + 1)) := by
  rw [ha.out, hb.out, hu, hp.out, val_one64, a_val j (by omega)] at hc; exact hc
theorem aE_of {t u p a b c : Nat} {T : Option Nat} (ht : FIs .f64 t T) (hu : FIs .f64 u (fop .mul .f64 (val .f64 t) (val .f64 t))) (hp : FIs .f64 p (aP (val .f64 u) 8)) (ha : FIs .f64 a (fop .mul .f64 (val .f64 t) (val .f64 p)))
    (hb : FIs .f64 b (fop .mul .f64 (val .f64 4620693217682128896) (val .f64 a))) (hc : FIs .f64 c (fop .quo .f64 (val .f64 b) (val .f64 4618760256179416344))) : FIs .f64 c (aE T) := by
  rw [hu.out, ht.out] at hp
  rw [hb.out, ha.out, ht.out, hp.out, val_eight, val_2pi] at hc; exact hc
theorem aOver_of {c d : Nat} {E : Option Nat} (hc : FIs .f64 c E) (hd : FIs .f64 d (fop .sub .f64 (val .f64 4598175219545276416) (val .f64 c))) : FIs .f64 d (aOver true E) := by rw [hc.out, val_quarter] at hd; exact hd
theorem aLeft_of {c d : Nat} {E : Option Nat} (hc : FIs .f64 c E) (hd : FIs .f64 d (fop .sub .f64 (val .f64 4602678819172646912) (val .f64 c))) : FIs .f64 d (aLeft true E) := by rw [hc.out, val_half] at hd; exact hd
theorem aT_of {q a b : Nat} (ha : Fin64 a) (hb : Fin64 b) (h : FIs .f64 q (fop .quo .f64 (val .f64 b) (val .f64 a))) : FIs .f64 q (fop .quo .f64 (some b) (some a)) := by rw [ha.val, hb.val] at h; exact h

/-- Two points' parts that are numbers, not both nought: a = |y|, b = |x|. -/
structure Pt (a b : Nat) (o : Bool) (T : Option Nat) : Prop where
  fa : Fin64 a
  fb : Fin64 b
  gt : (FloatKind.f64.format.order a b == some .gt) = o
  t : T = if o then fop .quo .f64 (some b) (some a) else fop .quo .f64 (some a) (some b)
  fv : FV T 1075
def jOf (v : Value) : Nat := ((List.range 9).find? fun (j : Nat) => bitsOf v == fl (15 - 2 * ((j : Nat) : Int))).getD 8
theorem jOf_all : ∀ j : Nat, j < 9 → jOf (.float .f64 (fl (15 - 2 * (j : Int)))) = j := by decide +kernel
theorem jOf_lt (j : Nat) (h : j < 8) : 8 - jOf (.float .f64 (fl (15 - 2 * ((j + 1 : Nat) : Int)))) < 8 - jOf (.float .f64 (fl (15 - 2 * (j : Int)))) := by
  rw [jOf_all _ (by omega), jOf_all _ (by omega)]; omega

theorem angWide_nan1 (y x : Nat) (h : ¬ Fin64 y) (w : World) : Calls Try.prog 89 #[.float .f64 y, .float .f64 x] w fun e w' => RetF .f64 none w e w' := by
  have H := Lib.hid (sub_self_none h)
  clear h
  have key : ∀ r, FIs .f64 r (fop .sub .f64 (val .f64 y) (val .f64 y)) → (FloatKind.f64.format.order r 0 != some .eq) = true := by
    intro r hr
    rw [order_val, hr.out, H.out]; rfl
  have HK := Lib.hid key
  clear key
  go_enter Try.func89, Try.ntmps89
  go_wp2_with (first | (refine wpList_fop rfl _ _ _ _ _ rfl rfl _ _ _ rfl rfl ?_; intro r n h; have hne := HK.out r h; clear h) | (go_at_call 59; refine (nan_any _).mono ?_; rintro e w' ⟨rfl, rfl⟩))
  go_ret
  exact ⟨_, _, rfl, FIs.mk val_nan64 (by decide), rfl⟩
theorem angWide_nan2 (y x : Nat) (hy : Fin64 y) (h : ¬ Fin64 x) (w : World) : Calls Try.prog 89 #[.float .f64 y, .float .f64 x] w fun e w' => RetF .f64 none w e w' := by
  have hq0 := sub_self64 hy
  have hne0 : (FloatKind.f64.format.order 0 0 != some .eq) = false := by decide +kernel
  have H := Lib.hid (sub_self_none h)
  clear h hy
  have key : ∀ r, FIs .f64 r (fop .sub .f64 (val .f64 x) (val .f64 x)) → (FloatKind.f64.format.order r 0 != some .eq) = true := by
    intro r hr
    rw [order_val, hr.out, H.out]; rfl
  have HK := Lib.hid key
  clear key
  have tok : True := trivial
  go_enter Try.func89, Try.ntmps89
  go_wp2_with (first | (have _t := tok; refine wpList_det rfl _ _ _ _ _ rfl rfl _ _ _ _ rfl rfl hq0 ?_; clear tok) | (refine wpList_fop rfl _ _ _ _ _ rfl rfl _ _ _ rfl rfl ?_; intro r n h; have hne := HK.out r h; clear h) | (go_at_call 59; refine (nan_any _).mono ?_; rintro e w' ⟨rfl, rfl⟩))
  go_ret
  exact ⟨_, _, rfl, FIs.mk val_nan64 (by decide), rfl⟩
theorem angWide_zero (y x : Nat) (hy : Fin64 y) (hx : Fin64 x) (hx0 : (FloatKind.f64.format.order x 0 == some .eq) = true) (hy0 : (FloatKind.f64.format.order y 0 == some .eq) = true) (w : World) :
    Calls Try.prog 89 #[.float .f64 y, .float .f64 x] w fun e w' => RetF .f64 (some 0) w e w' := by
  have hq0 := sub_self64 hy
  have hq1 := sub_self64 hx
  have hne0 : (FloatKind.f64.format.order 0 0 != some .eq) = false := by decide +kernel
  clear hx hy
  go_enter Try.func89, Try.ntmps89
  go_wp2_with (first | (refine wpList_det rfl _ _ _ _ _ rfl rfl _ _ _ _ rfl rfl hq0 ?_) | (refine wpList_det rfl _ _ _ _ _ rfl rfl _ _ _ _ rfl rfl hq1 ?_))
  go_ret
  exact ⟨_, 0, rfl, FIs.mk val_zero64 (by decide), rfl⟩
set_option maxHeartbeats 8000000 in
theorem angWide_fin1 (y x a b : Nat) (hya : y % 9223372036854775808 = a) (hxb : x % 9223372036854775808 = b) (hyl : y < 18446744073709551616) (hxl : x < 18446744073709551616) (hy : Fin64 y) (hx : Fin64 x) (hx0 : (FloatKind.f64.format.order x 0 == some .eq) = false) {T : Option Nat} {o xn yn : Bool} (hp : Pt a b o T)
    (hxn : (FloatKind.f64.format.order x 0 == some .lt) = xn) (hyn : (FloatKind.f64.format.order y 0 == some .lt) = yn) (w : World) :
    Calls Try.prog 89 #[.float .f64 y, .float .f64 x] w fun e w' => RetF .f64 (aA o xn yn T) w e w' := by
  have hq0 := sub_self64 hy
  have hq1 := sub_self64 hx
  have hne0 : (FloatKind.f64.format.order 0 0 != some .eq) = false := by decide +kernel
  have hgt := hp.gt
  have HP := Lib.hid hp
  have HXN := Lib.hid hxn
  have HYN := Lib.hid hyn
  have HYA := Lib.hid hya
  have HXB := Lib.hid hxb
  have hneg := @neg_run Try.prog
  clear hx hy hp hxn hyn hya hxb
  rcases o with _ | _
  · go_enter Try.func89, Try.ntmps89
    have t1 : True := trivial
    go_wp2_with (first | (refine wpList_det rfl _ _ _ _ _ rfl rfl _ _ _ _ rfl rfl hq0 ?_) | (refine wpList_det rfl _ _ _ _ _ rfl rfl _ _ _ _ rfl rfl hq1 ?_) | (go_at_call_of 75 (Value.float .f64 y); refine (abs_any y hyl _).mono ?_; rw [HYA.out]; rintro e w' ⟨rfl, rfl⟩) | (go_at_call_of 75 (Value.float .f64 x); refine (abs_any x hxl _).mono ?_; rw [HXB.out]; rintro e w' ⟨rfl, rfl⟩) | (have _t := t1; refine wpList_fop rfl _ _ _ _ _ rfl rfl _ _ _ rfl rfl ?_; intro r1 n1 h1; clear t1))
    have HT0 : Hid (FIs .f64 r1 T) := by
      refine Lib.hid ?_
      rw [HP.out.t]
      exact aT_of HP.out.fb HP.out.fa h1
    clear h1 hq0 hq1 hne0 hx0
    go_loopw [8, 9] (fun v i wr => ∃ (t j m : Nat), v = .float .f64 t ∧ i = .int .i64 (j : Int) ∧ j ≤ 3 ∧ FIs .f64 t (aIter T j) ∧ wr = w.drewN m) (fun _ i _ => 3 - (intOf i).toNat)
    case atStart => exact ⟨_, 0, _, rfl, rfl, by omega, HT0.out, rfl⟩
    case round =>
      obtain ⟨t, j, m, rfl, rfl, hj, ht, rfl⟩ := hrel
      have HTJ := Lib.hid ht
      clear ht
      by_cases hj3 : j < 3
      · have t1 : True := trivial; have t2 : True := trivial; have t3 : True := trivial; have t4 : True := trivial
        go_wp2_with (first | (go_at_call 56; refine (mathSqrt_any _ _).mono ?_; rintro e w' ⟨rs, ns, rfl, hrs, rfl⟩) | (have _t := t1; refine wpList_fop rfl _ _ _ _ _ rfl rfl _ _ _ rfl rfl ?_; intro r1 n1 h1; clear t1) | (have _t := t2; refine wpList_fop rfl _ _ _ _ _ rfl rfl _ _ _ rfl rfl ?_; intro r2 n2 h2; clear t2) | (have _t := t3; refine wpList_fop rfl _ _ _ _ _ rfl rfl _ _ _ rfl rfl ?_; intro r3 n3 h3; clear t3) | (have _t := t4; refine wpList_fop rfl _ _ _ _ _ rfl rfl _ _ _ rfl rfl ?_; intro r4 n4 h4; clear t4))
        have hstep := Lib.hid (aStep_of HTJ.out h1 h2 hrs h3 h4)
        clear h1 h2 h3 h4 hrs
        go_roundw
        case rel => exact ⟨_, j + 1, _, rfl, by go_num, by omega, hstep.out, rfl⟩
        case measure => simp [intOf]; omega
      · obtain rfl : j = 3 := by omega
        clear hj3 hj
        have t1 : True := trivial
        go_wp2_with (first | (have _t := t1; refine wpList_fop rfl _ _ _ _ _ rfl rfl _ _ _ rfl rfl ?_; intro r1 n1 h1; clear t1))
        have HU := Lib.hid h1
        clear h1
        go_loopw [11, 12] (fun v i wr => ∃ (p j m : Nat), v = .float .f64 p ∧ i = .int .i64 (15 - 2 * (j : Int)) ∧ j ≤ 8 ∧ FIs .f64 p (aP (val .f64 r1) j) ∧ wr = w.drewN m) (fun _ i _ => (intOf i + 2).toNat)
        case atStart => exact ⟨_, 0, _, rfl, rfl, by omega, FIs.mk val_zero64 (by decide), rfl⟩
        case round =>
          obtain ⟨p, j, m2, rfl, rfl, hj, hpj, rfl⟩ := hrel
          have HPJ := Lib.hid hpj
          clear hpj
          by_cases hj8 : j < 8
          · have t1 : True := trivial; have t2 : True := trivial; have t3 : True := trivial
            go_wp2_with (first | (have _t := t1; refine wpList_fop rfl _ _ _ _ _ rfl rfl _ _ _ rfl rfl ?_; intro r1 n1 h1; clear t1) | (have _t := t2; refine wpList_fop rfl _ _ _ _ _ rfl rfl _ _ _ rfl rfl ?_; intro r2 n2 h2; clear t2) | (have _t := t3; refine wpList_fop rfl _ _ _ _ _ rfl rfl _ _ _ rfl rfl ?_; intro r3 n3 h3; clear t3))
            have hstep := Lib.hid (aP_step hj8 rfl HPJ.out h1 h2 h3)
            clear h1 h2 h3
            go_roundw
            case rel => exact ⟨_, j + 1, _, rfl, by go_num, by omega, hstep.out, rfl⟩
            case measure => simp [intOf]; omega
          · obtain rfl : j = 8 := by omega
            clear hj8 hj
            have hxn := HXN.out
            have hyn := HYN.out
            rcases xn with _ | _ <;> rcases yn with _ | _
            · have t1 : True := trivial; have t2 : True := trivial; have t3 : True := trivial
              go_wp2_with (first | (have _t := t1; refine wpList_fop rfl _ _ _ _ _ rfl rfl _ _ _ rfl rfl ?_; intro r1 n1 h1; clear t1) | (have _t := t2; refine wpList_fop rfl _ _ _ _ _ rfl rfl _ _ _ rfl rfl ?_; intro r2 n2 h2; clear t2) | (have _t := t3; refine wpList_fop rfl _ _ _ _ _ rfl rfl _ _ _ rfl rfl ?_; intro r3 n3 h3; clear t3))
              have hE := (aE_of HTJ.out HU.out HPJ.out h1 h2 h3)
              go_ret
              exact ⟨_, _, rfl, hE, rfl⟩
            · have t1 : True := trivial; have t2 : True := trivial; have t3 : True := trivial
              go_wp2_with (first | (have _t := t1; refine wpList_fop rfl _ _ _ _ _ rfl rfl _ _ _ rfl rfl ?_; intro r1 n1 h1; clear t1) | (have _t := t2; refine wpList_fop rfl _ _ _ _ _ rfl rfl _ _ _ rfl rfl ?_; intro r2 n2 h2; clear t2) | (have _t := t3; refine wpList_fop rfl _ _ _ _ _ rfl rfl _ _ _ rfl rfl ?_; intro r3 n3 h3; clear t3))
              have hE := ((aE_of HTJ.out HU.out HPJ.out h1 h2 h3)).neg
              go_ret
              exact ⟨_, _, rfl, hE, rfl⟩
            · have t1 : True := trivial; have t2 : True := trivial; have t3 : True := trivial; have t4 : True := trivial
              go_wp2_with (first | (have _t := t1; refine wpList_fop rfl _ _ _ _ _ rfl rfl _ _ _ rfl rfl ?_; intro r1 n1 h1; clear t1) | (have _t := t2; refine wpList_fop rfl _ _ _ _ _ rfl rfl _ _ _ rfl rfl ?_; intro r2 n2 h2; clear t2) | (have _t := t3; refine wpList_fop rfl _ _ _ _ _ rfl rfl _ _ _ rfl rfl ?_; intro r3 n3 h3; clear t3) | (have _t := t4; refine wpList_fop rfl _ _ _ _ _ rfl rfl _ _ _ rfl rfl ?_; intro r4 n4 h4; clear t4))
              have hE := (aLeft_of (aE_of HTJ.out HU.out HPJ.out h1 h2 h3) h4)
              go_ret
              exact ⟨_, _, rfl, hE, rfl⟩
            · have t1 : True := trivial; have t2 : True := trivial; have t3 : True := trivial; have t4 : True := trivial
              go_wp2_with (first | (have _t := t1; refine wpList_fop rfl _ _ _ _ _ rfl rfl _ _ _ rfl rfl ?_; intro r1 n1 h1; clear t1) | (have _t := t2; refine wpList_fop rfl _ _ _ _ _ rfl rfl _ _ _ rfl rfl ?_; intro r2 n2 h2; clear t2) | (have _t := t3; refine wpList_fop rfl _ _ _ _ _ rfl rfl _ _ _ rfl rfl ?_; intro r3 n3 h3; clear t3) | (have _t := t4; refine wpList_fop rfl _ _ _ _ _ rfl rfl _ _ _ rfl rfl ?_; intro r4 n4 h4; clear t4))
              have hE := ((aLeft_of (aE_of HTJ.out HU.out HPJ.out h1 h2 h3) h4)).neg
              go_ret
              exact ⟨_, _, rfl, hE, rfl⟩
  · go_enter Try.func89, Try.ntmps89
    have t1 : True := trivial
    go_wp2_with (first | (refine wpList_det rfl _ _ _ _ _ rfl rfl _ _ _ _ rfl rfl hq0 ?_) | (refine wpList_det rfl _ _ _ _ _ rfl rfl _ _ _ _ rfl rfl hq1 ?_) | (go_at_call_of 75 (Value.float .f64 y); refine (abs_any y hyl _).mono ?_; rw [HYA.out]; rintro e w' ⟨rfl, rfl⟩) | (go_at_call_of 75 (Value.float .f64 x); refine (abs_any x hxl _).mono ?_; rw [HXB.out]; rintro e w' ⟨rfl, rfl⟩) | (have _t := t1; refine wpList_fop rfl _ _ _ _ _ rfl rfl _ _ _ rfl rfl ?_; intro r1 n1 h1; clear t1))
    have HT0 : Hid (FIs .f64 r1 T) := by
      refine Lib.hid ?_
      rw [HP.out.t]
      exact aT_of HP.out.fa HP.out.fb h1
    clear h1 hq0 hq1 hne0 hx0
    go_loopw [8, 9] (fun v i wr => ∃ (t j m : Nat), v = .float .f64 t ∧ i = .int .i64 (j : Int) ∧ j ≤ 3 ∧ FIs .f64 t (aIter T j) ∧ wr = w.drewN m) (fun _ i _ => 3 - (intOf i).toNat)
    case atStart => exact ⟨_, 0, _, rfl, rfl, by omega, HT0.out, rfl⟩
    case round =>
      obtain ⟨t, j, m, rfl, rfl, hj, ht, rfl⟩ := hrel
      have HTJ := Lib.hid ht
      clear ht
      by_cases hj3 : j < 3
      · have t1 : True := trivial; have t2 : True := trivial; have t3 : True := trivial; have t4 : True := trivial
        go_wp2_with (first | (go_at_call 56; refine (mathSqrt_any _ _).mono ?_; rintro e w' ⟨rs, ns, rfl, hrs, rfl⟩) | (have _t := t1; refine wpList_fop rfl _ _ _ _ _ rfl rfl _ _ _ rfl rfl ?_; intro r1 n1 h1; clear t1) | (have _t := t2; refine wpList_fop rfl _ _ _ _ _ rfl rfl _ _ _ rfl rfl ?_; intro r2 n2 h2; clear t2) | (have _t := t3; refine wpList_fop rfl _ _ _ _ _ rfl rfl _ _ _ rfl rfl ?_; intro r3 n3 h3; clear t3) | (have _t := t4; refine wpList_fop rfl _ _ _ _ _ rfl rfl _ _ _ rfl rfl ?_; intro r4 n4 h4; clear t4))
        have hstep := Lib.hid (aStep_of HTJ.out h1 h2 hrs h3 h4)
        clear h1 h2 h3 h4 hrs
        go_roundw
        case rel => exact ⟨_, j + 1, _, rfl, by go_num, by omega, hstep.out, rfl⟩
        case measure => simp [intOf]; omega
      · obtain rfl : j = 3 := by omega
        clear hj3 hj
        have t1 : True := trivial
        go_wp2_with (first | (have _t := t1; refine wpList_fop rfl _ _ _ _ _ rfl rfl _ _ _ rfl rfl ?_; intro r1 n1 h1; clear t1))
        have HU := Lib.hid h1
        clear h1
        go_loopw [11, 12] (fun v i wr => ∃ (p j m : Nat), v = .float .f64 p ∧ i = .int .i64 (15 - 2 * (j : Int)) ∧ j ≤ 8 ∧ FIs .f64 p (aP (val .f64 r1) j) ∧ wr = w.drewN m) (fun _ i _ => (intOf i + 2).toNat)
        case atStart => exact ⟨_, 0, _, rfl, rfl, by omega, FIs.mk val_zero64 (by decide), rfl⟩
        case round =>
          obtain ⟨p, j, m2, rfl, rfl, hj, hpj, rfl⟩ := hrel
          have HPJ := Lib.hid hpj
          clear hpj
          by_cases hj8 : j < 8
          · have t1 : True := trivial; have t2 : True := trivial; have t3 : True := trivial
            go_wp2_with (first | (have _t := t1; refine wpList_fop rfl _ _ _ _ _ rfl rfl _ _ _ rfl rfl ?_; intro r1 n1 h1; clear t1) | (have _t := t2; refine wpList_fop rfl _ _ _ _ _ rfl rfl _ _ _ rfl rfl ?_; intro r2 n2 h2; clear t2) | (have _t := t3; refine wpList_fop rfl _ _ _ _ _ rfl rfl _ _ _ rfl rfl ?_; intro r3 n3 h3; clear t3))
            have hstep := Lib.hid (aP_step hj8 rfl HPJ.out h1 h2 h3)
            clear h1 h2 h3
            go_roundw
            case rel => exact ⟨_, j + 1, _, rfl, by go_num, by omega, hstep.out, rfl⟩
            case measure => simp [intOf]; omega
          · obtain rfl : j = 8 := by omega
            clear hj8 hj
            have hxn := HXN.out
            have hyn := HYN.out
            rcases xn with _ | _ <;> rcases yn with _ | _
            · have t1 : True := trivial; have t2 : True := trivial; have t3 : True := trivial; have t4 : True := trivial
              go_wp2_with (first | (have _t := t1; refine wpList_fop rfl _ _ _ _ _ rfl rfl _ _ _ rfl rfl ?_; intro r1 n1 h1; clear t1) | (have _t := t2; refine wpList_fop rfl _ _ _ _ _ rfl rfl _ _ _ rfl rfl ?_; intro r2 n2 h2; clear t2) | (have _t := t3; refine wpList_fop rfl _ _ _ _ _ rfl rfl _ _ _ rfl rfl ?_; intro r3 n3 h3; clear t3) | (have _t := t4; refine wpList_fop rfl _ _ _ _ _ rfl rfl _ _ _ rfl rfl ?_; intro r4 n4 h4; clear t4))
              have hE := (aOver_of (aE_of HTJ.out HU.out HPJ.out h1 h2 h3) h4)
              go_ret
              exact ⟨_, _, rfl, hE, rfl⟩
            · have t1 : True := trivial; have t2 : True := trivial; have t3 : True := trivial; have t4 : True := trivial
              go_wp2_with (first | (have _t := t1; refine wpList_fop rfl _ _ _ _ _ rfl rfl _ _ _ rfl rfl ?_; intro r1 n1 h1; clear t1) | (have _t := t2; refine wpList_fop rfl _ _ _ _ _ rfl rfl _ _ _ rfl rfl ?_; intro r2 n2 h2; clear t2) | (have _t := t3; refine wpList_fop rfl _ _ _ _ _ rfl rfl _ _ _ rfl rfl ?_; intro r3 n3 h3; clear t3) | (have _t := t4; refine wpList_fop rfl _ _ _ _ _ rfl rfl _ _ _ rfl rfl ?_; intro r4 n4 h4; clear t4))
              have hE := ((aOver_of (aE_of HTJ.out HU.out HPJ.out h1 h2 h3) h4)).neg
              go_ret
              exact ⟨_, _, rfl, hE, rfl⟩
            · have t1 : True := trivial; have t2 : True := trivial; have t3 : True := trivial; have t4 : True := trivial; have t5 : True := trivial
              go_wp2_with (first | (have _t := t1; refine wpList_fop rfl _ _ _ _ _ rfl rfl _ _ _ rfl rfl ?_; intro r1 n1 h1; clear t1) | (have _t := t2; refine wpList_fop rfl _ _ _ _ _ rfl rfl _ _ _ rfl rfl ?_; intro r2 n2 h2; clear t2) | (have _t := t3; refine wpList_fop rfl _ _ _ _ _ rfl rfl _ _ _ rfl rfl ?_; intro r3 n3 h3; clear t3) | (have _t := t4; refine wpList_fop rfl _ _ _ _ _ rfl rfl _ _ _ rfl rfl ?_; intro r4 n4 h4; clear t4) | (have _t := t5; refine wpList_fop rfl _ _ _ _ _ rfl rfl _ _ _ rfl rfl ?_; intro r5 n5 h5; clear t5))
              have hE := (aLeft_of (aOver_of (aE_of HTJ.out HU.out HPJ.out h1 h2 h3) h4) h5)
              go_ret
              exact ⟨_, _, rfl, hE, rfl⟩
            · have t1 : True := trivial; have t2 : True := trivial; have t3 : True := trivial; have t4 : True := trivial; have t5 : True := trivial
              go_wp2_with (first | (have _t := t1; refine wpList_fop rfl _ _ _ _ _ rfl rfl _ _ _ rfl rfl ?_; intro r1 n1 h1; clear t1) | (have _t := t2; refine wpList_fop rfl _ _ _ _ _ rfl rfl _ _ _ rfl rfl ?_; intro r2 n2 h2; clear t2) | (have _t := t3; refine wpList_fop rfl _ _ _ _ _ rfl rfl _ _ _ rfl rfl ?_; intro r3 n3 h3; clear t3) | (have _t := t4; refine wpList_fop rfl _ _ _ _ _ rfl rfl _ _ _ rfl rfl ?_; intro r4 n4 h4; clear t4) | (have _t := t5; refine wpList_fop rfl _ _ _ _ _ rfl rfl _ _ _ rfl rfl ?_; intro r5 n5 h5; clear t5))
              have hE := ((aLeft_of (aOver_of (aE_of HTJ.out HU.out HPJ.out h1 h2 h3) h4) h5)).neg
              go_ret
              exact ⟨_, _, rfl, hE, rfl⟩
set_option maxHeartbeats 8000000 in
theorem angWide_fin2 (y x a b : Nat) (hya : y % 9223372036854775808 = a) (hxb : x % 9223372036854775808 = b) (hyl : y < 18446744073709551616) (hxl : x < 18446744073709551616) (hy : Fin64 y) (hx : Fin64 x) (hx0 : (FloatKind.f64.format.order x 0 == some .eq) = true) (hy0 : (FloatKind.f64.format.order y 0 == some .eq) = false) {T : Option Nat} {o xn yn : Bool} (hp : Pt a b o T)
    (hxn : (FloatKind.f64.format.order x 0 == some .lt) = xn) (hyn : (FloatKind.f64.format.order y 0 == some .lt) = yn) (w : World) :
    Calls Try.prog 89 #[.float .f64 y, .float .f64 x] w fun e w' => RetF .f64 (aA o xn yn T) w e w' := by
  have hq0 := sub_self64 hy
  have hq1 := sub_self64 hx
  have hne0 : (FloatKind.f64.format.order 0 0 != some .eq) = false := by decide +kernel
  have hgt := hp.gt
  have HP := Lib.hid hp
  have HXN := Lib.hid hxn
  have HYN := Lib.hid hyn
  have HYA := Lib.hid hya
  have HXB := Lib.hid hxb
  have hneg := @neg_run Try.prog
  clear hx hy hp hxn hyn hya hxb
  rcases o with _ | _
  · go_enter Try.func89, Try.ntmps89
    have t1 : True := trivial
    go_wp2_with (first | (refine wpList_det rfl _ _ _ _ _ rfl rfl _ _ _ _ rfl rfl hq0 ?_) | (refine wpList_det rfl _ _ _ _ _ rfl rfl _ _ _ _ rfl rfl hq1 ?_) | (go_at_call_of 75 (Value.float .f64 y); refine (abs_any y hyl _).mono ?_; rw [HYA.out]; rintro e w' ⟨rfl, rfl⟩) | (go_at_call_of 75 (Value.float .f64 x); refine (abs_any x hxl _).mono ?_; rw [HXB.out]; rintro e w' ⟨rfl, rfl⟩) | (have _t := t1; refine wpList_fop rfl _ _ _ _ _ rfl rfl _ _ _ rfl rfl ?_; intro r1 n1 h1; clear t1))
    have HT0 : Hid (FIs .f64 r1 T) := by
      refine Lib.hid ?_
      rw [HP.out.t]
      exact aT_of HP.out.fb HP.out.fa h1
    clear h1 hq0 hq1 hne0 hx0 hy0
    go_loopw [8, 9] (fun v i wr => ∃ (t j m : Nat), v = .float .f64 t ∧ i = .int .i64 (j : Int) ∧ j ≤ 3 ∧ FIs .f64 t (aIter T j) ∧ wr = w.drewN m) (fun _ i _ => 3 - (intOf i).toNat)
    case atStart => exact ⟨_, 0, _, rfl, rfl, by omega, HT0.out, rfl⟩
    case round =>
      obtain ⟨t, j, m, rfl, rfl, hj, ht, rfl⟩ := hrel
      have HTJ := Lib.hid ht
      clear ht
      by_cases hj3 : j < 3
      · have t1 : True := trivial; have t2 : True := trivial; have t3 : True := trivial; have t4 : True := trivial
        go_wp2_with (first | (go_at_call 56; refine (mathSqrt_any _ _).mono ?_; rintro e w' ⟨rs, ns, rfl, hrs, rfl⟩) | (have _t := t1; refine wpList_fop rfl _ _ _ _ _ rfl rfl _ _ _ rfl rfl ?_; intro r1 n1 h1; clear t1) | (have _t := t2; refine wpList_fop rfl _ _ _ _ _ rfl rfl _ _ _ rfl rfl ?_; intro r2 n2 h2; clear t2) | (have _t := t3; refine wpList_fop rfl _ _ _ _ _ rfl rfl _ _ _ rfl rfl ?_; intro r3 n3 h3; clear t3) | (have _t := t4; refine wpList_fop rfl _ _ _ _ _ rfl rfl _ _ _ rfl rfl ?_; intro r4 n4 h4; clear t4))
        have hstep := Lib.hid (aStep_of HTJ.out h1 h2 hrs h3 h4)
        clear h1 h2 h3 h4 hrs
        go_roundw
        case rel => exact ⟨_, j + 1, _, rfl, by go_num, by omega, hstep.out, rfl⟩
        case measure => simp [intOf]; omega
      · obtain rfl : j = 3 := by omega
        clear hj3 hj
        have t1 : True := trivial
        go_wp2_with (first | (have _t := t1; refine wpList_fop rfl _ _ _ _ _ rfl rfl _ _ _ rfl rfl ?_; intro r1 n1 h1; clear t1))
        have HU := Lib.hid h1
        clear h1
        go_loopw [11, 12] (fun v i wr => ∃ (p j m : Nat), v = .float .f64 p ∧ i = .int .i64 (15 - 2 * (j : Int)) ∧ j ≤ 8 ∧ FIs .f64 p (aP (val .f64 r1) j) ∧ wr = w.drewN m) (fun _ i _ => (intOf i + 2).toNat)
        case atStart => exact ⟨_, 0, _, rfl, rfl, by omega, FIs.mk val_zero64 (by decide), rfl⟩
        case round =>
          obtain ⟨p, j, m2, rfl, rfl, hj, hpj, rfl⟩ := hrel
          have HPJ := Lib.hid hpj
          clear hpj
          by_cases hj8 : j < 8
          · have t1 : True := trivial; have t2 : True := trivial; have t3 : True := trivial
            go_wp2_with (first | (have _t := t1; refine wpList_fop rfl _ _ _ _ _ rfl rfl _ _ _ rfl rfl ?_; intro r1 n1 h1; clear t1) | (have _t := t2; refine wpList_fop rfl _ _ _ _ _ rfl rfl _ _ _ rfl rfl ?_; intro r2 n2 h2; clear t2) | (have _t := t3; refine wpList_fop rfl _ _ _ _ _ rfl rfl _ _ _ rfl rfl ?_; intro r3 n3 h3; clear t3))
            have hstep := Lib.hid (aP_step hj8 rfl HPJ.out h1 h2 h3)
            clear h1 h2 h3
            go_roundw
            case rel => exact ⟨_, j + 1, _, rfl, by go_num, by omega, hstep.out, rfl⟩
            case measure => simp [intOf]; omega
          · obtain rfl : j = 8 := by omega
            clear hj8 hj
            have hxn := HXN.out
            have hyn := HYN.out
            rcases xn with _ | _ <;> rcases yn with _ | _
            · have t1 : True := trivial; have t2 : True := trivial; have t3 : True := trivial
              go_wp2_with (first | (have _t := t1; refine wpList_fop rfl _ _ _ _ _ rfl rfl _ _ _ rfl rfl ?_; intro r1 n1 h1; clear t1) | (have _t := t2; refine wpList_fop rfl _ _ _ _ _ rfl rfl _ _ _ rfl rfl ?_; intro r2 n2 h2; clear t2) | (have _t := t3; refine wpList_fop rfl _ _ _ _ _ rfl rfl _ _ _ rfl rfl ?_; intro r3 n3 h3; clear t3))
              have hE := (aE_of HTJ.out HU.out HPJ.out h1 h2 h3)
              go_ret
              exact ⟨_, _, rfl, hE, rfl⟩
            · have t1 : True := trivial; have t2 : True := trivial; have t3 : True := trivial
              go_wp2_with (first | (have _t := t1; refine wpList_fop rfl _ _ _ _ _ rfl rfl _ _ _ rfl rfl ?_; intro r1 n1 h1; clear t1) | (have _t := t2; refine wpList_fop rfl _ _ _ _ _ rfl rfl _ _ _ rfl rfl ?_; intro r2 n2 h2; clear t2) | (have _t := t3; refine wpList_fop rfl _ _ _ _ _ rfl rfl _ _ _ rfl rfl ?_; intro r3 n3 h3; clear t3))
              have hE := ((aE_of HTJ.out HU.out HPJ.out h1 h2 h3)).neg
              go_ret
              exact ⟨_, _, rfl, hE, rfl⟩
            · have t1 : True := trivial; have t2 : True := trivial; have t3 : True := trivial; have t4 : True := trivial
              go_wp2_with (first | (have _t := t1; refine wpList_fop rfl _ _ _ _ _ rfl rfl _ _ _ rfl rfl ?_; intro r1 n1 h1; clear t1) | (have _t := t2; refine wpList_fop rfl _ _ _ _ _ rfl rfl _ _ _ rfl rfl ?_; intro r2 n2 h2; clear t2) | (have _t := t3; refine wpList_fop rfl _ _ _ _ _ rfl rfl _ _ _ rfl rfl ?_; intro r3 n3 h3; clear t3) | (have _t := t4; refine wpList_fop rfl _ _ _ _ _ rfl rfl _ _ _ rfl rfl ?_; intro r4 n4 h4; clear t4))
              have hE := (aLeft_of (aE_of HTJ.out HU.out HPJ.out h1 h2 h3) h4)
              go_ret
              exact ⟨_, _, rfl, hE, rfl⟩
            · have t1 : True := trivial; have t2 : True := trivial; have t3 : True := trivial; have t4 : True := trivial
              go_wp2_with (first | (have _t := t1; refine wpList_fop rfl _ _ _ _ _ rfl rfl _ _ _ rfl rfl ?_; intro r1 n1 h1; clear t1) | (have _t := t2; refine wpList_fop rfl _ _ _ _ _ rfl rfl _ _ _ rfl rfl ?_; intro r2 n2 h2; clear t2) | (have _t := t3; refine wpList_fop rfl _ _ _ _ _ rfl rfl _ _ _ rfl rfl ?_; intro r3 n3 h3; clear t3) | (have _t := t4; refine wpList_fop rfl _ _ _ _ _ rfl rfl _ _ _ rfl rfl ?_; intro r4 n4 h4; clear t4))
              have hE := ((aLeft_of (aE_of HTJ.out HU.out HPJ.out h1 h2 h3) h4)).neg
              go_ret
              exact ⟨_, _, rfl, hE, rfl⟩
  · go_enter Try.func89, Try.ntmps89
    have t1 : True := trivial
    go_wp2_with (first | (refine wpList_det rfl _ _ _ _ _ rfl rfl _ _ _ _ rfl rfl hq0 ?_) | (refine wpList_det rfl _ _ _ _ _ rfl rfl _ _ _ _ rfl rfl hq1 ?_) | (go_at_call_of 75 (Value.float .f64 y); refine (abs_any y hyl _).mono ?_; rw [HYA.out]; rintro e w' ⟨rfl, rfl⟩) | (go_at_call_of 75 (Value.float .f64 x); refine (abs_any x hxl _).mono ?_; rw [HXB.out]; rintro e w' ⟨rfl, rfl⟩) | (have _t := t1; refine wpList_fop rfl _ _ _ _ _ rfl rfl _ _ _ rfl rfl ?_; intro r1 n1 h1; clear t1))
    have HT0 : Hid (FIs .f64 r1 T) := by
      refine Lib.hid ?_
      rw [HP.out.t]
      exact aT_of HP.out.fa HP.out.fb h1
    clear h1 hq0 hq1 hne0 hx0 hy0
    go_loopw [8, 9] (fun v i wr => ∃ (t j m : Nat), v = .float .f64 t ∧ i = .int .i64 (j : Int) ∧ j ≤ 3 ∧ FIs .f64 t (aIter T j) ∧ wr = w.drewN m) (fun _ i _ => 3 - (intOf i).toNat)
    case atStart => exact ⟨_, 0, _, rfl, rfl, by omega, HT0.out, rfl⟩
    case round =>
      obtain ⟨t, j, m, rfl, rfl, hj, ht, rfl⟩ := hrel
      have HTJ := Lib.hid ht
      clear ht
      by_cases hj3 : j < 3
      · have t1 : True := trivial; have t2 : True := trivial; have t3 : True := trivial; have t4 : True := trivial
        go_wp2_with (first | (go_at_call 56; refine (mathSqrt_any _ _).mono ?_; rintro e w' ⟨rs, ns, rfl, hrs, rfl⟩) | (have _t := t1; refine wpList_fop rfl _ _ _ _ _ rfl rfl _ _ _ rfl rfl ?_; intro r1 n1 h1; clear t1) | (have _t := t2; refine wpList_fop rfl _ _ _ _ _ rfl rfl _ _ _ rfl rfl ?_; intro r2 n2 h2; clear t2) | (have _t := t3; refine wpList_fop rfl _ _ _ _ _ rfl rfl _ _ _ rfl rfl ?_; intro r3 n3 h3; clear t3) | (have _t := t4; refine wpList_fop rfl _ _ _ _ _ rfl rfl _ _ _ rfl rfl ?_; intro r4 n4 h4; clear t4))
        have hstep := Lib.hid (aStep_of HTJ.out h1 h2 hrs h3 h4)
        clear h1 h2 h3 h4 hrs
        go_roundw
        case rel => exact ⟨_, j + 1, _, rfl, by go_num, by omega, hstep.out, rfl⟩
        case measure => simp [intOf]; omega
      · obtain rfl : j = 3 := by omega
        clear hj3 hj
        have t1 : True := trivial
        go_wp2_with (first | (have _t := t1; refine wpList_fop rfl _ _ _ _ _ rfl rfl _ _ _ rfl rfl ?_; intro r1 n1 h1; clear t1))
        have HU := Lib.hid h1
        clear h1
        go_loopw [11, 12] (fun v i wr => ∃ (p j m : Nat), v = .float .f64 p ∧ i = .int .i64 (15 - 2 * (j : Int)) ∧ j ≤ 8 ∧ FIs .f64 p (aP (val .f64 r1) j) ∧ wr = w.drewN m) (fun _ i _ => (intOf i + 2).toNat)
        case atStart => exact ⟨_, 0, _, rfl, rfl, by omega, FIs.mk val_zero64 (by decide), rfl⟩
        case round =>
          obtain ⟨p, j, m2, rfl, rfl, hj, hpj, rfl⟩ := hrel
          have HPJ := Lib.hid hpj
          clear hpj
          by_cases hj8 : j < 8
          · have t1 : True := trivial; have t2 : True := trivial; have t3 : True := trivial
            go_wp2_with (first | (have _t := t1; refine wpList_fop rfl _ _ _ _ _ rfl rfl _ _ _ rfl rfl ?_; intro r1 n1 h1; clear t1) | (have _t := t2; refine wpList_fop rfl _ _ _ _ _ rfl rfl _ _ _ rfl rfl ?_; intro r2 n2 h2; clear t2) | (have _t := t3; refine wpList_fop rfl _ _ _ _ _ rfl rfl _ _ _ rfl rfl ?_; intro r3 n3 h3; clear t3))
            have hstep := Lib.hid (aP_step hj8 rfl HPJ.out h1 h2 h3)
            clear h1 h2 h3
            go_roundw
            case rel => exact ⟨_, j + 1, _, rfl, by go_num, by omega, hstep.out, rfl⟩
            case measure => simp [intOf]; omega
          · obtain rfl : j = 8 := by omega
            clear hj8 hj
            have hxn := HXN.out
            have hyn := HYN.out
            rcases xn with _ | _ <;> rcases yn with _ | _
            · have t1 : True := trivial; have t2 : True := trivial; have t3 : True := trivial; have t4 : True := trivial
              go_wp2_with (first | (have _t := t1; refine wpList_fop rfl _ _ _ _ _ rfl rfl _ _ _ rfl rfl ?_; intro r1 n1 h1; clear t1) | (have _t := t2; refine wpList_fop rfl _ _ _ _ _ rfl rfl _ _ _ rfl rfl ?_; intro r2 n2 h2; clear t2) | (have _t := t3; refine wpList_fop rfl _ _ _ _ _ rfl rfl _ _ _ rfl rfl ?_; intro r3 n3 h3; clear t3) | (have _t := t4; refine wpList_fop rfl _ _ _ _ _ rfl rfl _ _ _ rfl rfl ?_; intro r4 n4 h4; clear t4))
              have hE := (aOver_of (aE_of HTJ.out HU.out HPJ.out h1 h2 h3) h4)
              go_ret
              exact ⟨_, _, rfl, hE, rfl⟩
            · have t1 : True := trivial; have t2 : True := trivial; have t3 : True := trivial; have t4 : True := trivial
              go_wp2_with (first | (have _t := t1; refine wpList_fop rfl _ _ _ _ _ rfl rfl _ _ _ rfl rfl ?_; intro r1 n1 h1; clear t1) | (have _t := t2; refine wpList_fop rfl _ _ _ _ _ rfl rfl _ _ _ rfl rfl ?_; intro r2 n2 h2; clear t2) | (have _t := t3; refine wpList_fop rfl _ _ _ _ _ rfl rfl _ _ _ rfl rfl ?_; intro r3 n3 h3; clear t3) | (have _t := t4; refine wpList_fop rfl _ _ _ _ _ rfl rfl _ _ _ rfl rfl ?_; intro r4 n4 h4; clear t4))
              have hE := ((aOver_of (aE_of HTJ.out HU.out HPJ.out h1 h2 h3) h4)).neg
              go_ret
              exact ⟨_, _, rfl, hE, rfl⟩
            · have t1 : True := trivial; have t2 : True := trivial; have t3 : True := trivial; have t4 : True := trivial; have t5 : True := trivial
              go_wp2_with (first | (have _t := t1; refine wpList_fop rfl _ _ _ _ _ rfl rfl _ _ _ rfl rfl ?_; intro r1 n1 h1; clear t1) | (have _t := t2; refine wpList_fop rfl _ _ _ _ _ rfl rfl _ _ _ rfl rfl ?_; intro r2 n2 h2; clear t2) | (have _t := t3; refine wpList_fop rfl _ _ _ _ _ rfl rfl _ _ _ rfl rfl ?_; intro r3 n3 h3; clear t3) | (have _t := t4; refine wpList_fop rfl _ _ _ _ _ rfl rfl _ _ _ rfl rfl ?_; intro r4 n4 h4; clear t4) | (have _t := t5; refine wpList_fop rfl _ _ _ _ _ rfl rfl _ _ _ rfl rfl ?_; intro r5 n5 h5; clear t5))
              have hE := (aLeft_of (aOver_of (aE_of HTJ.out HU.out HPJ.out h1 h2 h3) h4) h5)
              go_ret
              exact ⟨_, _, rfl, hE, rfl⟩
            · have t1 : True := trivial; have t2 : True := trivial; have t3 : True := trivial; have t4 : True := trivial; have t5 : True := trivial
              go_wp2_with (first | (have _t := t1; refine wpList_fop rfl _ _ _ _ _ rfl rfl _ _ _ rfl rfl ?_; intro r1 n1 h1; clear t1) | (have _t := t2; refine wpList_fop rfl _ _ _ _ _ rfl rfl _ _ _ rfl rfl ?_; intro r2 n2 h2; clear t2) | (have _t := t3; refine wpList_fop rfl _ _ _ _ _ rfl rfl _ _ _ rfl rfl ?_; intro r3 n3 h3; clear t3) | (have _t := t4; refine wpList_fop rfl _ _ _ _ _ rfl rfl _ _ _ rfl rfl ?_; intro r4 n4 h4; clear t4) | (have _t := t5; refine wpList_fop rfl _ _ _ _ _ rfl rfl _ _ _ rfl rfl ?_; intro r5 n5 h5; clear t5))
              have hE := ((aLeft_of (aOver_of (aE_of HTJ.out HU.out HPJ.out h1 h2 h3) h4) h5)).neg
              go_ret
              exact ⟨_, _, rfl, hE, rfl⟩
end Go.Proofs.Ytecglaggmheokaa
