/- PhasorOf: the other inputs, and the law. -/
import Derived.Test.YtecglaggmheokaaWPhas2
import Derived.Test.YtecglaggmheokaaSameF
set_option linter.unusedVariables false
set_option linter.unusedSimpArgs false
namespace Go.Proofs.Ytecglaggmheokaa
open Ieee Go.RowKit near

/-- A complex64 is answered whose parts have these values. -/
def RetC (v1 v2 : Option Nat) (w : World) (e : Ending) (w' : World) : Prop := ∃ r1 r2 n, e = .returned (.complex .f32 r1 r2) ∧ FIs .f32 r1 v1 ∧ FIs .f32 r2 v2 ∧ w' = w.drewN n

theorem f2f_run (b : Nat) (W : World) : ∃ r n, (Conv.floatToFloat .f32 b .f64).run Try.prog W = .ok (.float .f64 r) (W.drewN n) ∧ FIs .f64 r (fwide (val .f32 b)) := by
  have hd : (Try.prog).underlying 26 = some (.float .f64) := by kernel_rfl
  have hs : (Try.prog).underlying 22 = some (.float .f32) := by kernel_rfl
  obtain ⟨r, n, h, hf⟩ := run_wide (P := Try.prog) 22 26 (by kernel_rfl) (by kernel_rfl) b W
  refine ⟨r, n, ?_, hf⟩
  rw [← h]
  simp [convert, run_underlying hs, run_underlying hd]
theorem cwide_run (a b : Nat) (W : World) : ∃ r1 r2 n, (convert 36 39 (.complex .f32 a b)).run Try.prog W = .ok (.complex .f64 r1 r2) (W.drewN n) ∧ FIs .f64 r1 (fwide (val .f32 a)) ∧ FIs .f64 r2 (fwide (val .f32 b)) := by
  have hd : (Try.prog).underlying 39 = some (.complex .f64) := by kernel_rfl
  have hs : (Try.prog).underlying 36 = some (.complex .f32) := by kernel_rfl
  obtain ⟨r1, n1, h1, f1⟩ := f2f_run a W
  obtain ⟨r2, n2, h2, f2⟩ := f2f_run b (W.drewN n1)
  refine ⟨r1, r2, n1 + n2, ?_, f1, f2⟩
  simp [convert, run_underlying hs, run_underlying hd, Conv.complexToComplex, h1, h2]
theorem wpList_cwide {ops : Array Oper} {rest : List Oper} {o : Oper} {a : Act} {w : World} {Q : Exit → Act → World → Prop} (hw : Region.wanted o (yielded ops a.tmps) = true)
    (x : Operand) (ho : o.op = .convert 36 39 x) (b c : Nat) (hx : a.eval x = .complex .f32 b c)
    (h : ∀ r1 r2 n, FIs .f64 r1 (fwide (val .f32 b)) → FIs .f64 r2 (fwide (val .f32 c)) → wpList Try.prog ops Q rest (a.put o.dst (.complex .f64 r1 r2)) (w.drewN n)) : wpList Try.prog ops Q (o :: rest) a w :=
  wpList_step fun K hK => by
    rw [if_pos hw]
    obtain ⟨r1, r2, n, hr, hf1, hf2⟩ := cwide_run b c w
    unfold Oper.wp execOp
    simp only [ho, hx, Sem.run_bind, Sem.run_pure, hr, Result.andThen_ok]
    exact hK _ _ (h r1 r2 n hf1 hf2)
theorem real_run (ts : Array TypeId) (t : TypeId) (a b : Nat) (W : World) : (Builtin.real_ ts t #[.complex .f64 a b]).run Try.prog W = .ok (.float .f64 a) W := rfl
theorem imag_run (ts : Array TypeId) (t : TypeId) (a b : Nat) (W : World) : (Builtin.imag_ ts t #[.complex .f64 a b]).run Try.prog W = .ok (.float .f64 b) W := rfl
theorem sameComplex_same (a1 a2 b1 b2 : Nat) (v1 v2 : Option Nat) (ha1 : FIs .f64 a1 v1) (ha2 : FIs .f64 a2 v2) (hb1 : FIs .f64 b1 v1) (hb2 : FIs .f64 b2 v2) (w : World) :
    Calls Try.prog 36 #[.complex .f64 a1 a2, .complex .f64 b1 b2] w fun e w' => e = .returned (.bool true) ∧ ∃ n, w' = w.drewN n := by
  have HA := Lib.hid ha1
  have HB := Lib.hid ha2
  have HC := Lib.hid hb1
  have HD := Lib.hid hb2
  clear ha1 ha2 hb1 hb2
  have hre := real_run
  have him := imag_run
  have tok : True := trivial
  go_enter Try.func36, Try.ntmps36
  go_wp2_with (go_at_call 17; first | (have _t := tok; refine (sameFloat_same _ _ _ HA.out HC.out _).mono ?_; rintro e w' ⟨rfl, n1, rfl⟩; clear tok) | (refine (sameFloat_same _ _ _ HB.out HD.out _).mono ?_; rintro e w' ⟨rfl, n2, rfl⟩))
  go_ret
  exact ⟨rfl, _, rfl⟩
theorem l01Phasor_nan (x : Nat) (h : ¬ Fin64 x) (w : World) : Calls Try.prog 67 #[.float .f64 x] w fun e w' => RetC none none w e w' := by
  have H := Lib.hid (sub_self_none h)
  clear h
  have key : ∀ r, FIs .f64 r (fop .sub .f64 (val .f64 x) (val .f64 x)) → (FloatKind.f64.format.order r 0 != some .eq) = true := by
    intro r hr
    rw [order_val, hr.out, H.out]; rfl
  have HK := Lib.hid key
  have hcx := complex_run
  clear key
  go_enter Try.func67, Try.ntmps67
  go_wp2_with (first | (refine wpList_fop rfl _ _ _ _ _ rfl rfl _ _ _ rfl rfl ?_; intro r n h; have hne := HK.out r h; clear h) | (go_at_call 45; refine (l01From_any 2143289344 (by omega) _).mono ?_; rintro e w' ⟨rfl, rfl⟩))
  go_ret
  exact ⟨_, _, _, rfl, FIs.mk nan_bits (by decide), FIs.mk nan_bits (by decide), rfl⟩
theorem val_one32 : val .f32 1065353216 = some 1065353216 := by decide +kernel
theorem l01Phasor_huge (x : Nat) (h : Fin64 x) (hge : 4841369599423283200 ≤ rg FloatKind.f64.format x) (w : World) : Calls Try.prog 67 #[.float .f64 x] w fun e w' => RetC (some 1065353216) (some 0) w e w' := by
  have hq0 := sub_self64 h
  have hne : (FloatKind.f64.format.order 0 0 != some .eq) = false := by decide +kernel
  have hg1 := huge_pos h
  have hg2 := huge_neg h
  rw [decide_eq_true hge, Bool.and_true] at hg1 hg2
  clear h hge
  generalize sgn FloatKind.f64.format x = s at *
  cases s
  all_goals
    simp only [Bool.not_true, Bool.not_false] at hg1 hg2
    go_enter Try.func67, Try.ntmps67
    go_wp2_with (refine wpList_det rfl _ _ _ _ _ rfl rfl _ _ _ _ rfl rfl hq0 ?_)
    go_ret
    exact ⟨_, _, 0, rfl, FIs.mk val_one32 (by decide), FIs.mk val_zero32 (by decide), rfl⟩
theorem implPhas_nan (x : Nat) (h : ¬ Fin64 x) (w : World) : Calls Try.prog 35 #[.float .f64 x] w fun e w' => RetC none none w e w' := by
  have H := Lib.hid (sub_self_none h)
  clear h
  have key : ∀ r, FIs .f64 r (fop .sub .f64 (val .f64 x) (val .f64 x)) → (FloatKind.f64.format.order r 0 != some .eq) = true := by
    intro r hr
    rw [order_val, hr.out, H.out]; rfl
  have HK := Lib.hid key
  have hcx := complex_run
  clear key
  go_enter Try.func35, Try.ntmps35
  go_wp2_with (first | (go_at_call 59; refine (nan_any _).mono ?_; rintro e w' ⟨rfl, rfl⟩) | (refine wpList_narrow rfl _ _ _ rfl (by kernel_rfl) (by kernel_rfl) _ rfl (by rw [val_nan64]; exact fits_none) ?_; intro r0 n0 hr0) | (refine wpList_fop rfl _ _ _ _ _ rfl rfl _ _ _ rfl rfl ?_; intro r n h; have hne := HK.out r h; clear h))
  go_ret
  rw [val_nan64] at hr0
  exact ⟨_, _, _, rfl, hr0, hr0, by first | rfl | simp⟩
theorem implPhas_huge (x : Nat) (hx : x < 18446744073709551616) (h : Fin64 x) (hge : 4841369599423283200 ≤ rg FloatKind.f64.format x) (w : World) : Calls Try.prog 35 #[.float .f64 x] w fun e w' => RetC (some 1065353216) (some 0) w e w' := by
  have hq0 := Det.mk (sub_self64 h)
  have hne : (FloatKind.f64.format.order 0 0 != some .eq) = false := by decide +kernel
  have hb : decide (4841369599423283200 ≤ rg FloatKind.f64.format x) = true := decide_eq_true hge
  have HX := Lib.hid hx
  have HF := Lib.hid h
  clear h hge hx
  go_enter Try.func35, Try.ntmps35
  go_wp2_with (first | (go_at_call 59; refine (nan_any _).mono ?_; rintro e w' ⟨rfl, rfl⟩) | (refine wpList_narrow rfl _ _ _ rfl (by kernel_rfl) (by kernel_rfl) _ rfl (by rw [val_nan64]; exact fits_none) ?_; intro r0 n0 hr0; clear hr0) | (refine wpList_detH rfl _ _ _ _ _ rfl rfl _ _ _ rfl rfl hq0 ?_) | (go_at_call 65; refine (isHuge_any x HX.out HF.out _).mono ?_; rw [hb]; rintro e w' ⟨rfl, rfl⟩))
  go_ret
  exact ⟨_, _, _, rfl, FIs.mk val_one32 (by decide), FIs.mk val_zero32 (by decide), by first | rfl | simp⟩
/-- Both sides answer complex numbers of the same values. -/
theorem phas_both (x : Nat) (hx : x < 18446744073709551616) : ∃ v1 v2, (∀ w : World, Calls Try.prog 67 #[.float .f64 x] w fun e w' => RetC v1 v2 w e w') ∧ (∀ w : World, Calls Try.prog 35 #[.float .f64 x] w fun e w' => RetC v1 v2 w e w') := by
  by_cases h1 : Fin64 x
  · by_cases h2 : 4841369599423283200 ≤ rg FloatKind.f64.format x
    · exact ⟨_, _, fun w => l01Phasor_huge x h1 h2 w, fun w => implPhas_huge x hx h1 h2 w⟩
    · have hlt : rg FloatKind.f64.format x < 4841369599423283200 := by omega
      obtain ⟨n, tr, W, y0, z, hc⟩ := cut_all hlt
      obtain ⟨v1, y1, v2, y2, v3, y3, b1, b2, b3, hp⟩ := prep hc.ub hc.num
      obtain ⟨q, T, T2, S, C, S0, C0, s, c, s0, c0, ph⟩ := ph_ex hp.u hp.f1.num
      have hre : FIs .f32 (phRe q c s0 c0 s) (some (phRe q c s0 c0 s)) := by
        unfold phRe
        split
        · exact ph.ns0.num
        · split
          · exact ph.nc0.num
          · split
            · exact ph.ns.num
            · exact ph.nc.num
      have him : FIs .f32 (phIm q s c s0 c0) (some (phIm q s c s0 c0)) := by
        unfold phIm
        split
        · exact ph.nc.num
        · split
          · exact ph.ns0.num
          · split
            · exact ph.nc0.num
            · exact ph.ns.num
      refine ⟨some (phRe q c s0 c0 s), some (phIm q s c s0 c0), fun w => (l01Phasor_small x n tr W y0 z hc hlt hp ph w).mono ?_, fun w => (implPhas_small x hx n tr W y0 z hc hlt hp ph w).mono ?_⟩
      · rintro e w' ⟨rfl, m, rfl⟩
        exact ⟨_, _, m, rfl, hre, him, rfl⟩
      · rintro e w' ⟨rfl, m, rfl⟩
        exact ⟨_, _, m, rfl, hre, him, rfl⟩
  · exact ⟨_, _, fun w => l01Phasor_nan x h1 w, fun w => implPhas_nan x h1 w⟩
theorem specPhas_any (x : Nat) (v1 v2 : Option Nat) (h : ∀ w : World, Calls Try.prog 67 #[.float .f64 x] w fun e w' => RetC v1 v2 w e w') (w : World) : Calls Try.prog 34 #[.float .f64 x] w fun e w' => RetC v1 v2 w e w' := by
  have H := Lib.hid h
  clear h
  go_enter Try.func34, Try.ntmps34
  go_wp2_with (go_at_call 67; refine (H.out _).mono ?_; rintro e w' ⟨r1, r2, n, rfl, h1, h2, rfl⟩)
  go_ret
  exact ⟨_, _, _, rfl, h1, h2, rfl⟩
set_option maxHeartbeats 800000 in
theorem fnExactPhasorOf_walk (x : Nat) (wf : (Lit.float .f64 x).wf = true) (w : World) : Calls Try.prog 11 #[.float .f64 x] w fun e w' => e = .returned (.bool true) ∧ Below w.heap.size w w' := by
  obtain ⟨v1, v2, hS0, hI⟩ := phas_both x (by simpa [Lit.wf] using wf)
  have HS := Lib.hid (specPhas_any x v1 v2 hS0)
  have HI := Lib.hid hI
  clear hS0 hI wf
  go_enter Try.func11, Try.ntmps11
  go_wp2_with fail
  refine (HS.out _).mono ?_
  rintro e w1 ⟨r1, r2, n1, rfl, h1, h2, rfl⟩
  go_wp2_with fail
  refine (HI.out _).mono ?_
  rintro e w2 ⟨q1, q2, n2, rfl, g1, g2, rfl⟩
  have tok : True := trivial
  go_wp2_with (first | (have _t := tok; refine wpList_cwide rfl _ rfl _ _ rfl ?_; intro a1 a2 m1 ha1 ha2; clear tok) | (refine wpList_cwide rfl _ rfl _ _ rfl ?_; intro b1 b2 m2 hb1 hb2))
  rw [g1.out] at ha1
  rw [g2.out] at ha2
  rw [h1.out] at hb1
  rw [h2.out] at hb2
  refine (sameComplex_same _ _ _ _ _ _ ha1 ha2 hb1 hb2 _).mono ?_
  rintro e w5 ⟨rfl, n5, rfl⟩
  go_wp2_with fail
  go_ret
  exact ⟨rfl, below_drewN_self _ _⟩
end Go.Proofs.Ytecglaggmheokaa
