/- LogNumber: contracts and the law. -/
import Derived.Test.YtecglaggmheokaaWLog2
import Derived.Test.YtecglaggmheokaaWCls
import Derived.Test.YtecglaggmheokaaFLogB
set_option linter.unusedVariables false
set_option linter.unusedSimpArgs false
namespace Go.Proofs.Ytecglaggmheokaa
open Ieee Go.RowKit near

/-- A number taken from itself: nothing is left of a finite one, and an infinity is no number then. -/
theorem sub_self_num {x : Nat} (h : rg FloatKind.f32.format x < 2139095040) : fop .sub .f32 (some x) (some x) = some 0 := by
  rcases read_cases .f32 x with ⟨_, m, e, hd, _⟩ | ⟨h1, _⟩ | ⟨h1, _⟩
  · show ((FloatKind.f32.decode x).sum (FloatKind.f32.decode x).opposite).map FloatKind.f32.format.write = some 0
    rw [hd]
    unfold Datum.opposite Datum.sum
    dsimp only
    rw [Int.min_self, Int.sub_self]
    have h2 : signed (sgn FloatKind.f32.format x) m (0 : Int).toNat + signed (!sgn FloatKind.f32.format x) m (0 : Int).toNat = 0 := by
      unfold signed
      cases sgn FloatKind.f32.format x
      · rw [if_neg (by decide), if_pos (by decide)]; omega
      · rw [if_pos rfl, if_neg (by decide)]; omega
    rw [h2, if_pos rfl]
    have h3 : (sgn FloatKind.f32.format x && !sgn FloatKind.f32.format x) = false := by cases sgn FloatKind.f32.format x <;> rfl
    rw [h3]
    show some (FloatKind.f32.format.nearest false (0 : Int).natAbs e) = some 0
    rw [show (0 : Int).natAbs = 0 from rfl, nearest_exact _ _ _ _ 0 (by rw [inf32]; omega) (by rw [units_zero, Nat.zero_mul, Nat.zero_mul])]
    rfl
  · rw [inf32] at h1; omega
  · rw [inf32] at h1; omega
theorem sub_self_inf {x : Nat} (h : rg FloatKind.f32.format x = 2139095040) : fop .sub .f32 (some x) (some x) = none := by
  rcases read_cases .f32 x with ⟨h1, _⟩ | ⟨h1, hd⟩ | ⟨h1, _⟩
  · rw [inf32] at h1; omega
  · show ((FloatKind.f32.decode x).sum (FloatKind.f32.decode x).opposite).map FloatKind.f32.format.write = none
    rw [hd]
    unfold Datum.opposite Datum.sum
    cases sgn FloatKind.f32.format x <;> rfl
  · rw [inf32] at h1; omega
theorem finB_num {x : Nat} (hn : (FloatKind.f32.decode x).isNaN = false) (h : rg FloatKind.f32.format x < 2139095040) : finB (val .f32 x) = true := by
  rw [val_some hn]; unfold finB; rw [sub_self_num h]; decide +kernel
theorem finB_inf {x : Nat} (hn : (FloatKind.f32.decode x).isNaN = false) (h : rg FloatKind.f32.format x = 2139095040) : finB (val .f32 x) = false := by
  rw [val_some hn]; unfold finB; rw [sub_self_inf h]; rfl

/-- The kinds of what a logarithm is asked of. -/
def LW (r : Nat) : Option Nat :=
  if (FloatKind.f64.decode r).isNaN then none else if rg FloatKind.f64.format r = 0 then some 18442240474082181120
  else if sgn FloatKind.f64.format r then none else if rg FloatKind.f64.format r = 9218868437227405312 then some 9218868437227405312 else logV r

theorem pos_rg {r : Nat} (h : r < 18446744073709551616) (hs : sgn FloatKind.f64.format r = false) : rg FloatKind.f64.format r = r := by
  have := word_of .f64 r h
  rw [hs] at this
  exact this

theorem fits_inf (s : Bool) : fitsNarrow (some (FloatKind.f64.format.word s 9218868437227405312)) := by
  intro b hb _ hi
  obtain rfl := Option.some.inj hb
  exfalso
  revert hi
  cases s <;> decide +kernel
theorem fits_none : fitsNarrow none := by intro b hb; cases hb
theorem val_ninf : val .f64 18442240474082181120 = some 18442240474082181120 := by decide +kernel
theorem val_pinf : val .f64 9218868437227405312 = some 9218868437227405312 := by decide +kernel

theorem fits_LW {x r : Nat} (hr : FIs .f64 r (fwide (val .f32 x))) : fitsNarrow (LW r) := by
  unfold LW
  cases hn : (FloatKind.f32.decode x).isNaN with
  | true =>
    have h1 := hr.out
    rw [val_none hn] at h1
    rw [if_pos (val_eq_none h1)]; exact fits_none
  | false =>
    have W := wide_of hn hr
    rw [if_neg (by rw [W.num]; decide)]
    split
    · exact fits_inf true
    · split
      · exact fits_none
      · split
        · exact fits_inf false
        · rename_i h1 h2 h3
          have hs : sgn FloatKind.f64.format r = false := by cases h : sgn FloatKind.f64.format r; rfl; exact absurd h h2
          have hm := wide_mid hn W (fun h => h1 (W.zero.2 h)) (fun h => h3 (W.inf.2 h))
          rw [pos_rg hr.lt64 hs] at hm
          exact fits_of_UB (logV_ub (by omega) (by omega)) (by omega)

theorem run_neq_self {P : Program} : True := trivial

theorem isInf_yes (y : Nat) (h : (FloatKind.f64.format.order y 9218868437227405311 == some .gt) = true) (w : World) : Calls Try.prog 92 #[.float .f64 y, .int .i64 1] w fun e w' => e = .returned (.bool true) ∧ w = w' := by
  go_enter Try.func92, Try.ntmps92
  go_wp2_with fail
  go_ret
  exact ⟨rfl, rfl⟩
theorem l01LogWide_nan (r : Nat) (h : (FloatKind.f64.decode r).isNaN = true) (w : World) : Calls Try.prog 81 #[.float .f64 r] w fun e w' => RetF .f64 none w e w' := by
  have hself := self_nan .f64 h
  clear h
  go_enter Try.func81, Try.ntmps81
  go_wp2_with (go_at_call 59; refine (nan_any _).mono ?_; rintro e w' ⟨rfl, rfl⟩)
  go_ret
  exact ⟨_, 0, rfl, FIs.mk val_nan64 (by decide), rfl⟩
theorem l01LogWide_neg (r : Nat) (hself : (FloatKind.f64.format.order r r != some .eq) = false) (hlt0 : (FloatKind.f64.format.order r 0 == some .lt) = true) (w : World) : Calls Try.prog 81 #[.float .f64 r] w fun e w' => RetF .f64 none w e w' := by
  go_enter Try.func81, Try.ntmps81
  go_wp2_with (go_at_call 59; refine (nan_any _).mono ?_; rintro e w' ⟨rfl, rfl⟩)
  go_ret
  exact ⟨_, 0, rfl, FIs.mk val_nan64 (by decide), rfl⟩
theorem l01LogWide_zero (r : Nat) (hself : (FloatKind.f64.format.order r r != some .eq) = false) (hlt0 : (FloatKind.f64.format.order r 0 == some .lt) = false)
    (heq0 : (FloatKind.f64.format.order r 0 == some .eq) = true) (w : World) : Calls Try.prog 81 #[.float .f64 r] w fun e w' => RetF .f64 (some 18442240474082181120) w e w' := by
  go_enter Try.func81, Try.ntmps81
  go_wp2_with (go_at_call 58; refine (inf_neg _).mono ?_; rintro e w' ⟨rfl, rfl⟩)
  go_ret
  exact ⟨_, 0, rfl, FIs.mk val_ninf (by decide), rfl⟩
theorem l01LogWide_inf (w : World) : Calls Try.prog 81 #[.float .f64 9218868437227405312] w fun e w' => RetF .f64 (some 9218868437227405312) w e w' := by
  have hself : (FloatKind.f64.format.order 9218868437227405312 9218868437227405312 != some .eq) = false := by decide +kernel
  have hlt0 : (FloatKind.f64.format.order 9218868437227405312 0 == some .lt) = false := by decide +kernel
  have heq0 : (FloatKind.f64.format.order 9218868437227405312 0 == some .eq) = false := by decide +kernel
  have hmx := Lib.hid (show (FloatKind.f64.format.order 9218868437227405312 9218868437227405311 == some .gt) = true by decide +kernel)
  go_enter Try.func81, Try.ntmps81
  go_wp2_with (go_at_call 92; refine (isInf_yes _ hmx.out _).mono ?_; rintro e w' ⟨rfl, rfl⟩)
  go_ret
  exact ⟨_, 0, rfl, FIs.mk val_pinf (by decide), rfl⟩
theorem l01LogWide_any (x r : Nat) (hr : FIs .f64 r (fwide (val .f32 x))) (w : World) : Calls Try.prog 81 #[.float .f64 r] w fun e w' => RetF .f64 (LW r) w e w' := by
  unfold LW
  cases hn : (FloatKind.f32.decode x).isNaN with
  | true =>
    have h1 := hr.out
    rw [val_none hn] at h1
    have h2 := val_eq_none h1
    rw [if_pos h2]
    exact l01LogWide_nan r h2 w
  | false =>
    have W := wide_of hn hr
    rw [if_neg (by rw [W.num]; decide)]
    have hself := self_num .f64 W.num
    have hlt := order_lt_zero .f64 W.num
    have heq := order_eq_zero .f64 W.num
    by_cases h1 : rg FloatKind.f64.format r = 0
    · rw [if_pos h1]
      rw [decide_eq_false (by simpa using h1)] at hlt
      rw [decide_eq_true h1] at heq
      exact l01LogWide_zero r hself hlt heq w
    · rw [if_neg h1]
      rw [decide_eq_true (show rg FloatKind.f64.format r ≠ 0 from h1)] at hlt
      cases h2 : sgn FloatKind.f64.format r with
      | true =>
        rw [if_pos rfl]
        rw [h2] at hlt
        exact l01LogWide_neg r hself hlt w
      | false =>
        rw [if_neg (by decide)]
        have hp := pos_rg hr.lt64 h2
        by_cases h3 : rg FloatKind.f64.format r = 9218868437227405312
        · rw [if_pos h3]
          obtain rfl : r = 9218868437227405312 := hp ▸ h3
          exact l01LogWide_inf w
        · rw [if_neg h3]
          have hm := wide_mid hn W (fun h => h1 (W.zero.2 h)) (fun h => h3 (W.inf.2 h))
          rw [hp] at hm
          exact l01LogWide_pos r ⟨by omega, by omega⟩ w
theorem l01Log_any (x : Nat) (w : World) : Calls Try.prog 57 #[.float .f32 x] w fun e w' => ∃ r, FIs .f64 r (fwide (val .f32 x)) ∧ RetF .f32 (fnarrow (LW r)) w e w' := by
  go_enter Try.func57, Try.ntmps57
  go_wp2_with (refine wpList_wide rfl _ _ _ rfl (by kernel_rfl) (by kernel_rfl) _ rfl ?_; intro r n hr)
  have hfit := Lib.hid (fits_LW hr)
  have HR := Lib.hid hr
  refine (l01LogWide_any x r hr _).mono ?_
  clear hr
  rintro e w' ⟨r2, n2, rfl, hr2, rfl⟩
  go_wp2_with fail
  refine (l01Narrow_any r2 (by rw [hr2.out]; exact hfit.out) _).mono ?_
  rw [hr2.out]
  rintro e w' ⟨r3, n3, rfl, hr3, rfl⟩
  go_wp2_with fail
  go_ret
  exact ⟨r, HR.out, _, _, rfl, hr3, rfl⟩
/-- What LogNumber answers. -/
def LN (x : Nat) : Option Nat :=
  if (FloatKind.f32.decode x).isNaN then none else if rg FloatKind.f32.format x = 0 then some 4286578688
  else if sgn FloatKind.f32.format x then none else if rg FloatKind.f32.format x = 2139095040 then some 2139095040 else fnarrow (logV (FloatKind.f64.encode (FloatKind.f32.decode x)))
theorem LN_of {x r : Nat} (hr : FIs .f64 r (fwide (val .f32 x))) : fnarrow (LW r) = LN x := by
  unfold LW LN
  cases hn : (FloatKind.f32.decode x).isNaN with
  | true =>
    have h1 := hr.out
    rw [val_none hn] at h1
    rw [if_pos (val_eq_none h1), if_pos rfl]; rfl
  | false =>
    have W := wide_of hn hr
    rw [if_neg (by rw [W.num]; exact Bool.false_ne_true), if_neg Bool.false_ne_true, W.sign]
    by_cases h1 : rg FloatKind.f32.format x = 0
    · rw [if_pos h1, if_pos (W.zero.2 h1)]; decide +kernel
    · rw [if_neg h1, if_neg (fun h => h1 (W.zero.1 h))]
      split
      · rfl
      · by_cases h3 : rg FloatKind.f32.format x = 2139095040
        · rw [if_pos h3, if_pos (W.inf.2 h3)]; decide +kernel
        · rw [if_neg h3, if_neg (fun h => h3 (W.inf.1 h)), ← W.word]
theorem specLogN_any (x : Nat) (w : World) : Calls Try.prog 28 #[.float .f32 x] w fun e w' => RetF .f32 (LN x) w e w' := by
  go_enter Try.func28, Try.ntmps28
  go_wp2_with (go_at_call 57; refine (l01Log_any x _).mono ?_; rintro e w' ⟨r0, hr0, r, n, rfl, hr, rfl⟩)
  go_ret
  rw [LN_of hr0] at hr
  exact ⟨_, _, rfl, hr, rfl⟩
theorem implLogN_zero (x : Nat) (heq0 : (FloatKind.f32.format.order x 0 == some .eq) = true) (w : World) : Calls Try.prog 29 #[.float .f32 x] w fun e w' => RetF .f32 (some 4286578688) w e w' := by
  go_enter Try.func29, Try.ntmps29
  go_wp2_with (first | (go_at_call 58; refine (inf_neg _).mono ?_; rintro e w' ⟨rfl, rfl⟩) | (refine wpList_narrow rfl _ _ _ rfl (by kernel_rfl) (by kernel_rfl) _ rfl (by rw [val_ninf]; exact fits_inf true) ?_; intro r3 n3 hr3))
  go_ret
  rw [val_ninf, show fnarrow (some 18442240474082181120) = some 4286578688 by decide +kernel] at hr3
  exact ⟨_, _, rfl, hr3, rfl⟩
theorem implLogN_nan (x : Nat) (heq0 : (FloatKind.f32.format.order x 0 == some .eq) = false) (hself : (FloatKind.f32.format.order x x != some .eq) = true) (w : World) : Calls Try.prog 29 #[.float .f32 x] w fun e w' => RetF .f32 none w e w' := by
  go_enter Try.func29, Try.ntmps29
  go_wp2_with (first | (go_at_call 59; refine (nan_any _).mono ?_; rintro e w' ⟨rfl, rfl⟩) | (refine wpList_narrow rfl _ _ _ rfl (by kernel_rfl) (by kernel_rfl) _ rfl (by rw [val_nan64]; exact fits_none) ?_; intro r3 n3 hr3))
  go_ret
  rw [val_nan64] at hr3
  exact ⟨_, _, rfl, hr3, rfl⟩
theorem implLogN_neg (x : Nat) (heq0 : (FloatKind.f32.format.order x 0 == some .eq) = false) (hself : (FloatKind.f32.format.order x x != some .eq) = false) (hlt0 : (FloatKind.f32.format.order x 0 == some .lt) = true) (w : World) : Calls Try.prog 29 #[.float .f32 x] w fun e w' => RetF .f32 none w e w' := by
  go_enter Try.func29, Try.ntmps29
  go_wp2_with (first | (go_at_call 59; refine (nan_any _).mono ?_; rintro e w' ⟨rfl, rfl⟩) | (refine wpList_narrow rfl _ _ _ rfl (by kernel_rfl) (by kernel_rfl) _ rfl (by rw [val_nan64]; exact fits_none) ?_; intro r3 n3 hr3))
  go_ret
  rw [val_nan64] at hr3
  exact ⟨_, _, rfl, hr3, rfl⟩
theorem implLogN_inf (x : Nat) (hx : x < 4294967296) (hv : val .f32 x = some 2139095040) (heq0 : (FloatKind.f32.format.order x 0 == some .eq) = false) (hself : (FloatKind.f32.format.order x x != some .eq) = false)
    (hlt0 : (FloatKind.f32.format.order x 0 == some .lt) = false) (hfin : finB (val .f32 x) = false) (w : World) : Calls Try.prog 29 #[.float .f32 x] w fun e w' => RetF .f32 (some 2139095040) w e w' := by
  have HV := Lib.hid hv
  have HF := Lib.hid hfin
  clear hv hfin
  go_enter Try.func29, Try.ntmps29
  go_wp2_with (go_at_call 60; refine (implIsFinite_any x _).mono ?_; rw [HF.out]; rintro e w' ⟨rfl, n, rfl⟩)
  go_ret
  exact ⟨_, _, rfl, FIs.mk HV.out hx, rfl⟩
theorem implLogN_pos (x : Nat) (y : Nat) (hv : fwide (val .f32 x) = some y) (hm : Mid y) (heq0 : (FloatKind.f32.format.order x 0 == some .eq) = false) (hself : (FloatKind.f32.format.order x x != some .eq) = false)
    (hlt0 : (FloatKind.f32.format.order x 0 == some .lt) = false) (hfin : finB (val .f32 x) = true) (w : World) : Calls Try.prog 29 #[.float .f32 x] w fun e w' => RetF .f32 (fnarrow (logV y)) w e w' := by
  have HV := Lib.hid hv
  have HF := Lib.hid hfin
  have HM := Lib.hid hm
  clear hv hfin hm
  go_enter Try.func29, Try.ntmps29
  go_wp2_with (first | (go_at_call 60; refine (implIsFinite_any x _).mono ?_; rw [HF.out]; rintro e w' ⟨rfl, n, rfl⟩) | (refine wpList_wide rfl _ _ _ rfl (by kernel_rfl) (by kernel_rfl) _ rfl ?_; intro r n hr))
  obtain rfl : r = y := by
    have := hr.out
    rw [HV.out] at this
    exact (val_eq_some this).1.symm
  refine (implLog_pos r HM.out _).mono ?_
  rintro e w' ⟨r2, n2, rfl, hr2, rfl⟩
  have hfit := Lib.hid (fits_of_UB (logV_ub (by have := HM.out.lo; omega) (by have := HM.out.hi; omega)) (show 1090 ≤ 1201 by omega))
  clear hr
  go_wp2_with (refine wpList_narrow rfl _ _ _ rfl (by kernel_rfl) (by kernel_rfl) _ rfl (by rw [hr2.out]; exact hfit.out) ?_; intro r3 n3 hr3)
  go_ret
  rw [hr2.out] at hr3
  exact ⟨_, _, rfl, hr3, rfl⟩
theorem implLogN_any (x : Nat) (hx : x < 4294967296) (w : World) : Calls Try.prog 29 #[.float .f32 x] w fun e w' => RetF .f32 (LN x) w e w' := by
  unfold LN
  cases hn : (FloatKind.f32.decode x).isNaN with
  | true =>
    rw [if_pos rfl]
    exact implLogN_nan x (by rw [order_nan_zero .f32 hn]; rfl) (self_nan .f32 hn) w
  | false =>
    rw [if_neg (by decide)]
    have hself := self_num .f32 hn
    have hlt := order_lt_zero .f32 hn
    have heq := order_eq_zero .f32 hn
    have hle := not_nan_rg hn
    rw [inf32] at hle
    by_cases h1 : rg FloatKind.f32.format x = 0
    · rw [if_pos h1]
      rw [decide_eq_true h1] at heq
      exact implLogN_zero x heq w
    · rw [if_neg h1]
      rw [decide_eq_false h1] at heq
      rw [decide_eq_true (show rg FloatKind.f32.format x ≠ 0 from h1)] at hlt
      cases h2 : sgn FloatKind.f32.format x with
      | true =>
        rw [if_pos rfl]
        rw [h2] at hlt
        exact implLogN_neg x heq hself hlt w
      | false =>
        rw [if_neg (by decide)]
        rw [h2] at hlt
        have hp : rg FloatKind.f32.format x = x := by
          have := word_of .f32 x hx
          rw [h2] at this
          exact this
        by_cases h3 : rg FloatKind.f32.format x = 2139095040
        · rw [if_pos h3]
          exact implLogN_inf x hx (by rw [val_some hn, ← hp, h3]) heq hself hlt (finB_inf hn h3) w
        · rw [if_neg h3]
          have hr : FIs .f64 (FloatKind.f64.encode (FloatKind.f32.decode x)) (fwide (val .f32 x)) := by
            rw [val_some hn]
            exact FIs.mk (val_some (write_not_nan .f64 _ hn)) (Ieee.Format.write_lt _ _)
          have W := wide_of hn hr
          have hm := wide_mid hn W h1 h3
          have hp2 := pos_rg hr.lt64 (W.sign.trans h2)
          rw [hp2] at hm
          exact implLogN_pos x _ (by rw [val_some hn]; rfl) ⟨by omega, by omega⟩ heq hself hlt (finB_num hn (by omega)) w
set_option maxHeartbeats 800000 in
/-- FnExactLogNumber: over the contracts of both sides: results of one value. -/
theorem fnExactLogNumber_core (x : Nat) (v : Option Nat)
    (hS : ∀ w : World, Calls Try.prog 28 #[.float .f32 x] w fun e w' => RetF .f32 v w e w')
    (hI : ∀ w : World, Calls Try.prog 29 #[.float .f32 x] w fun e w' => RetF .f32 v w e w') (w : World) :
    Calls Try.prog 8 #[.float .f32 x] w fun e w' => e = .returned (.bool true) ∧ Below w.heap.size w w' := by
  have HS := Lib.hid hS
  have HI := Lib.hid hI
  clear hS hI
  go_enter Try.func8, Try.ntmps8
  go_wp2_with fail
  refine (HS.out _).mono ?_
  rintro e w1 ⟨r1, n1, rfl, hr1, rfl⟩
  go_wp2_with fail
  refine (HI.out _).mono ?_
  rintro e w2 ⟨r2, n2, rfl, hr2, rfl⟩
  have tok : True := trivial
  go_wp2_with (first | (have _t := tok; refine wpList_wide rfl _ _ _ rfl (by kernel_rfl) (by kernel_rfl) _ rfl ?_; intro a1 m1 ha1; clear tok) | (refine wpList_wide rfl _ _ _ rfl (by kernel_rfl) (by kernel_rfl) _ rfl ?_; intro a2 m2 ha2))
  rw [hr2.out] at ha1
  rw [hr1.out] at ha2
  refine (sameFloat_same _ _ _ ha1 ha2 _).mono ?_
  rintro e w5 ⟨rfl, n5, rfl⟩
  go_wp2_with fail
  go_ret
  exact ⟨rfl, below_drewN_self _ _⟩
theorem fnExactLogNumber_walk (x : Nat) (wf : (Lit.float .f32 x).wf = true) (w : World) : Calls Try.prog 8 #[.float .f32 x] w fun e w' => e = .returned (.bool true) ∧ Below w.heap.size w w' :=
  fnExactLogNumber_core x _ (fun w => specLogN_any x w) (fun w => implLogN_any x (by simpa [Lit.wf] using wf) w) w
end Go.Proofs.Ytecglaggmheokaa
