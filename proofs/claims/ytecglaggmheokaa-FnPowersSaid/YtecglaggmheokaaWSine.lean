/- The sine: contracts of the reference's and of the program's. -/
import Derived.Test.YtecglaggmheokaaFSine2
set_option linter.unusedVariables false
set_option linter.unusedSimpArgs false
namespace Go.Proofs.Ytecglaggmheokaa
open Ieee Go.RowKit near

theorem wpList_det {P : Program} {ops : Array Oper} {rest : List Oper} {o : Oper} {a : Act} {w : World} {Q : Exit → Act → World → Prop} (hw : Region.wanted o (yielded ops a.tmps) = true)
    (op : BinOp) (xt yt : TypeId) (x y : Operand) (ho : o.op = .binOp op xt x y yt) (hop : isArith op = true) (k : FloatKind) (bx by' r : Nat)
    (hx : a.eval x = .float k bx) (hy : a.eval y = .float k by') (hb : floatBits op k bx by' = some r)
    (h : wpList P ops Q rest (a.put o.dst (.float k r)) w) : wpList P ops Q (o :: rest) a w :=
  wpList_step fun K hK => by
    rw [if_pos hw]
    have hr := run_float_arith (P := P) w op xt k bx by' r hb
    have hne : isArith op = true := hop
    unfold Oper.wp execOp
    cases op <;> simp only [isArith] at hne <;> first | (cases hne; done) | skip
    all_goals
      simp only [ho, hx, hy, eqGuard, Bool.not_false, if_true, Sem.run_bind, Sem.run_pure, hr, Result.andThen_ok]
      exact hK _ _ h

theorem neg_run {P : Program} (r : Nat) (W : World) : (Op.unary UnOp.neg (Value.float .f64 r)).run P W = .ok (.float .f64 (Op.negFloat .f64 r)) W := rfl
theorem sS_step {u s a b c : Nat} {U : Option Nat} {j : Nat} (hj : j < 8) (hu : val .f64 u = U) (hs : FIs .f64 s (sS U j)) (ha : FIs .f64 a (fop .mul .f64 (val .f64 u) (val .f64 s)))
    (hb : FIs .f64 b (fop .quo .f64 (val .f64 a) (val .f64 (sC j)))) (hc : FIs .f64 c (fop .sub .f64 (val .f64 4607182418800017408) (val .f64 b))) : FIs .f64 c (sS U (j + 1)) := by
  rw [hb.out, ha.out, hu, hs.out, val_one64, sC_val j hj] at hc
  exact hc

theorem sC_of : ∀ j : Nat, j < 8 → floatOfInt .f64 (wrap64 (2 * (8 - (j : Int)) * (2 * (8 - (j : Int)) + 1))) = sC j := by decide +kernel
/-- The end of the sine, where its loop has ended. -/
theorem sineT_of {y0 v1 y1 v2 y2 v3 y3 : Nat} {b1 b2 b3 : Bool} (hp : Prep y0 v1 y1 v2 y2 v3 y3 b1 b2 b3) {a u s r : Nat}
    (ha : FIs .f64 a (fop .mul .f64 (val .f64 y3) (val .f64 4618760256179416344))) (hu : FIs .f64 u (fop .mul .f64 (val .f64 a) (val .f64 a)))
    (hs : FIs .f64 s (sS (val .f64 u) 8)) (hr : FIs .f64 r (fop .mul .f64 (val .f64 a) (val .f64 s))) :
    sineT (sP1 (some y0)) = if b2 then fneg (val .f64 r) else val .f64 r := by
  have h2pi : val .f64 4618760256179416344 = some twoPi64 := by decide +kernel
  rw [ha.out, h2pi] at hu
  rw [hu.out] at hs
  rw [hs.out, ha.out, h2pi] at hr
  rw [hp.f3.val] at hu hs hr
  unfold sineT sR
  rw [hp.p1, hp.p2, hp.n2, hp.p3, hr.out]

set_option maxHeartbeats 4000000 in
theorem l01SineWide_small (x : Nat) (n : Int) (tr W y0 : Nat) (z : Bool) (hc : Cut x n tr W y0 z) (hlt : rg FloatKind.f64.format x < 4841369599423283200) (w : World) :
    Calls Try.prog 83 #[.float .f64 x] w fun e w' => RetF .f64 (sineT (sP1 (some y0))) w e w' := by
  obtain ⟨v1, y1, v2, y2, v3, y3, b1, b2, b3, hp⟩ := prep hc.ub hc.num
  have hq0 := sub_self64 hc.x0
  have hne : (FloatKind.f64.format.order 0 0 != some .eq) = false := by decide +kernel
  have hg1 := huge_pos hc.x0
  have hg2 := huge_neg hc.x0
  rw [decide_eq_false (by omega), Bool.and_false] at hg1 hg2
  have hconv := fun W => run_convert_float_int (P := Try.prog) W 26 2 .f64 .i64 x n (by kernel_rfl) (by kernel_rfl) hc.toInt
  have hnear : floatBits .sub .f64 x (floatOfInt .f64 n) = some y0 := by rw [show floatOfInt .f64 n = W from hc.near]; exact hc.sub
  have hqa := hp.a1
  have hqb := hp.a2
  have hqc := hp.a3
  have hc1 := hp.c1
  have hc2 := hp.c2
  have hc3 := hp.c3
  have he1 := hp.e1
  have he2 := hp.e2
  have he3 := hp.e3
  have HP := Lib.hid hp
  have hneg := @neg_run Try.prog
  clear hp hc hlt
  rcases b1 with _ | _ <;> rcases b2 with _ | _ <;> rcases b3 with _ | _
  all_goals
    simp only [if_true, Bool.false_eq_true, if_false] at he1 he2 he3
    subst he1 he2 he3
    go_enter Try.func83, Try.ntmps83
    have t1 : True := trivial; have t2 : True := trivial
    go_wp2_with (first | (refine wpList_det rfl _ _ _ _ _ rfl rfl _ _ _ _ rfl rfl hq0 ?_) | (refine wpList_det rfl _ _ _ _ _ rfl rfl _ _ _ _ rfl rfl hnear ?_) | (refine wpList_det rfl _ _ _ _ _ rfl rfl _ _ _ _ rfl rfl hqa ?_) | (refine wpList_det rfl _ _ _ _ _ rfl rfl _ _ _ _ rfl rfl hqb ?_) | (refine wpList_det rfl _ _ _ _ _ rfl rfl _ _ _ _ rfl rfl hqc ?_) | (have _t := t1; refine wpList_fop rfl _ _ _ _ _ rfl rfl _ _ _ rfl rfl ?_; intro r1 n1 h1; clear t1) | (have _t := t2; refine wpList_fop rfl _ _ _ _ _ rfl rfl _ _ _ rfl rfl ?_; intro r2 n2 h2; clear t2))
    clear hq0 hne hg1 hg2 hconv hnear hqa hqb hqc hc1 hc2 hc3
    have HA := Lib.hid h1
    have HU := Lib.hid h2
    clear h1 h2
    go_loopw [7, 8] (fun v i wr => ∃ (s j m : Nat), v = .float .f64 s ∧ i = .int .i64 (8 - (j : Int)) ∧ j ≤ 8 ∧ FIs .f64 s (sS (val .f64 r2) j) ∧ wr = w.drewN m) (fun _ i _ => (intOf i).toNat)
    case atStart => exact ⟨_, 0, _, rfl, rfl, by omega, FIs.mk val_one64 (by decide), rfl⟩
    case round =>
      obtain ⟨s, j, m, rfl, rfl, hj, hs, rfl⟩ := hrel
      by_cases hj8 : j < 8
      · have t1 : True := trivial; have t2 : True := trivial; have t3 : True := trivial
        go_wp2_with (first | (have _t := t1; refine wpList_fop rfl _ _ _ _ _ rfl rfl _ _ _ rfl rfl ?_; intro r1 n1 h1; clear t1) | (have _t := t2; refine wpList_fop rfl _ _ _ _ _ rfl rfl _ _ _ rfl rfl ?_; intro r2 n2 h2; clear t2) | (have _t := t3; refine wpList_fop rfl _ _ _ _ _ rfl rfl _ _ _ rfl rfl ?_; intro r3 n3 h3; clear t3))
        rw [sC_of j hj8] at h2
        have hstep := Lib.hid (sS_step hj8 rfl hs h1 h2 h3)
        go_roundw
        case rel => exact ⟨_, j + 1, _, rfl, by go_num, by omega, hstep.out, rfl⟩
        case measure => simp [intOf]; omega
      · obtain rfl : j = 8 := by omega
        have t1 : True := trivial
        go_wp2_with (first | (have _t := t1; refine wpList_fop rfl _ _ _ _ _ rfl rfl _ _ _ rfl rfl ?_; intro r1 n1 h1; clear t1))
        go_ret
        have := sineT_of HP.out HA.out HU.out hs h1
        refine ⟨_, _, rfl, ?_, rfl⟩
        rw [this]
        first | exact FIs.mk rfl h1.lt64 | exact (FIs.mk rfl h1.lt64 : FIs .f64 _ _).neg
end Go.Proofs.Ytecglaggmheokaa
