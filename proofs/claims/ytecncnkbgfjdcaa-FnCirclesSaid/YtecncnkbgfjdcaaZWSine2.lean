/- The sine: contracts of the reference's and of the program's. -/
import Derived.Test.YtecncnkbgfjdcaaZFAng
import Derived.Test.YtecncnkbgfjdcaaZWNum
set_option linter.unusedVariables false
set_option linter.unusedSimpArgs false
namespace Go.Proofs.Ytecncnkbgfjdcaa
open Ieee Go.RowKit near

theorem wpList_det {P : Program} {ops : Array Oper} {rest : List Oper} {o : Oper} {a : Act} {w : World} {Q : Exit → Act → World → Prop} (hw : Region.wanted o (yielded ops a.tmps) = true)
    (op : BinOp) (xt yt : TypeId) (x y : Operand) (ho : o.op = .binOp op xt x y yt) (hop : isArith op = true) (k : FloatKind) (bx by' r : Nat)
    (hx : a.eval x = .float k bx) (hy : a.eval y = .float k by') (hb : floatBits op k bx by' = some r)
    (h : wpList P ops Q rest (a.put o.dst (.float k r)) w) : wpList P ops Q (o :: rest) a w :=
  wpList_step fun K hK => by
    rw [if_pos hw]
    have hr := run_float_arith (P := P) w op xt k bx by' r hb
    have hne : isArith op = true := hop
    unfold Oper.wp execOp
    cases op <;> simp only [isArith] at hne <;> first | (cases hne; done) | skip
    all_goals
      simp only [ho, hx, hy, eqGuard, Bool.not_false, if_true, Sem.run_bind, Sem.run_pure, hr, Result.andThen_ok]
      exact hK _ _ h

theorem neg_run {P : Program} (r : Nat) (W : World) : (Op.unary UnOp.neg (Value.float .f64 r)).run P W = .ok (.float .f64 (Op.negFloat .f64 r)) W := rfl
theorem sS_step {u s a b c : Nat} {U : Option Nat} {j : Nat} (hj : j < 8) (hu : val .f64 u = U) (hs : FIs .f64 s (sS U j)) (ha : FIs .f64 a (fop .mul .f64 (val .f64 u) (val .f64 s)))
    (hb : FIs .f64 b (fop .quo .f64 (val .f64 a) (val .f64 (sC j)))) (hc : FIs .f64 c (fop .sub .f64 (val .f64 4607182418800017408) (val .f64 b))) : FIs .f64 c (sS U (j + 1)) := by
  rw [hb.out, ha.out, hu, hs.out, val_one64, sC_val j hj] at hc
  exact hc

theorem sC_of : ∀ j : Nat, j < 8 → floatOfInt .f64 (wrap64 (2 * (8 - (j : Int)) * (2 * (8 - (j : Int)) + 1))) = sC j := by decide +kernel
/-- The end of the sine, where its loop has ended. -/
theorem sineT_of {y0 v1 y1 v2 y2 v3 y3 : Nat} {b1 b2 b3 : Bool} (hp : Prep y0 v1 y1 v2 y2 v3 y3 b1 b2 b3) {a u s r : Nat}
    (ha : FIs .f64 a (fop .mul .f64 (val .f64 y3) (val .f64 4618760256179416344))) (hu : FIs .f64 u (fop .mul .f64 (val .f64 a) (val .f64 a)))
    (hs : FIs .f64 s (sS (val .f64 u) 8)) (hr : FIs .f64 r (fop .mul .f64 (val .f64 a) (val .f64 s))) :
    sineT (sP1 (some y0)) = if b2 then fneg (val .f64 r) else val .f64 r := by
  have h2pi : val .f64 4618760256179416344 = some twoPi64 := by decide +kernel
  rw [ha.out, h2pi] at hu
  rw [hu.out] at hs
  rw [hs.out, ha.out, h2pi] at hr
  rw [hp.f3.val] at hu hs hr
  unfold sineT sR
  rw [hp.p1, hp.p2, hp.n2, hp.p3, hr.out]

end Go.Proofs.Ytecncnkbgfjdcaa
set_option linter.unusedVariables false
set_option linter.unusedSimpArgs false
namespace Go.Proofs.Ytecncnkbgfjdcaa
open Ieee Go.RowKit near

theorem integral_entry (name : String) (way : Toward) (x : Nat) (h : Fin64 x) : Extern.MathFloor.toIntegral name way #[.float .f64 x] = pure (.float .f64 (FloatKind.f64.encode ((FloatKind.f64.decode x).integral way))) := by
  obtain ⟨f, h0⟩ : ∃ f : Bool → Nat → Sem Value, Extern.MathFloor.toIntegral name way #[.float .f64 x] = (match FloatKind.f64.decode x with
    | .nan s t => f s t
    | d => pure (.float .f64 (FloatKind.f64.encode (d.integral way)))) := ⟨_, rfl⟩
  obtain ⟨s, m, e, hd⟩ := h.read
  rw [h0, hd]
theorem trunc_any (x : Nat) (n : Int) (tr W y0 : Nat) (z : Bool) (hc : Cut x n tr W y0 z) (w : World) : Calls Try.prog 52 #[.float .f64 x] w fun e w' => e = .returned (.float .f64 tr) ∧ w = w' := by
  have hext := fun W => run_callFunc_extern (P := Try.prog) Try.func64 (by kernel_rfl) (by kernel_rfl) (by kernel_rfl) (e := Extern.MathFloor.toIntegral "math.archTrunc" .zero) (by kernel_rfl) #[.float .f64 x] W
  have hrun : ∀ W, (callFunc 64 #[.float .f64 x]).run Try.prog W = .ok (.value (.float .f64 tr)) W := by
    intro W
    rw [hext W]
    rw [integral_entry _ _ x hc.x0, hc.trunc]
    rfl
  clear hext hc
  go_enter Try.func52, Try.ntmps52
  go_wp2_with fail
  go_ret
  exact ⟨rfl, rfl⟩
theorem part_any (x : Nat) (n : Int) (tr W y0 : Nat) (z : Bool) (hc : Cut x n tr W y0 z) {v1 y1 v2 y2 v3 y3 : Nat} {b1 b2 b3 : Bool} (hp : Prep y0 v1 y1 v2 y2 v3 y3 b1 b2 b3) (w : World) :
    Calls Try.prog 35 #[.float .f64 x] w fun e w' => e = .returned (.float .f64 y1) ∧ w = w' := by
  have hz := hc.zero
  have hw := hc.word
  have hq0 := hc.sub
  have hqa := hp.a1
  have hc1 := hp.c1
  have he1 := hp.e1
  have HC := Lib.hid hc
  clear hp hc
  rcases z with _ | _ <;> rcases b1 with _ | _
  all_goals
    simp only [if_true, Bool.false_eq_true, if_false] at he1 hw
    subst he1 hw
    go_enter Try.func35, Try.ntmps35
    go_wp2_with (first | (go_at_call 52; refine (trunc_any x _ _ _ _ _ HC.out _).mono ?_; rintro e w' ⟨rfl, rfl⟩) | (refine wpList_det rfl _ _ _ _ _ rfl rfl _ _ _ _ rfl rfl hq0 ?_) | (refine wpList_det rfl _ _ _ _ _ rfl rfl _ _ _ _ rfl rfl hqa ?_))
    go_ret
    exact ⟨rfl, rfl⟩
theorem sS_step7 {u s r1 r2 r3 r4 r5 r6 r7 : Nat} {U : Option Nat} {j : Nat} (hj : j < 8) (hu : val .f64 u = U) (hs : FIs .f64 s (sS U j)) (h1 : FIs .f64 r1 (fop .mul .f64 (val .f64 u) (val .f64 s)))
    (h2 : FIs .f64 r2 (fop .mul .f64 (val .f64 4611686018427387904) (val .f64 (fl (8 - (j : Int)))))) (h3 : FIs .f64 r3 (fop .mul .f64 (val .f64 4611686018427387904) (val .f64 (fl (8 - (j : Int))))))
    (h4 : FIs .f64 r4 (fop .add .f64 (val .f64 r3) (val .f64 4607182418800017408))) (h5 : FIs .f64 r5 (fop .mul .f64 (val .f64 r2) (val .f64 r4)))
    (h6 : FIs .f64 r6 (fop .quo .f64 (val .f64 r1) (val .f64 r5))) (h7 : FIs .f64 r7 (fop .sub .f64 (val .f64 4607182418800017408) (val .f64 r6))) : FIs .f64 r7 (sS U (j + 1)) := by
  rw [← floatBits_val, s_two j hj] at h2 h3
  rw [← floatBits_val, h3.eq, s_inc j hj] at h4
  rw [← floatBits_val, h2.eq, h4.eq, s_mul j hj] at h5
  rw [h5.eq] at h6
  exact sS_step hj hu hs h1 h6 h7

/-- Which round the counter 8, 7, .. tells. -/
def j8_of (v : Value) : Nat := ((List.range 9).find? fun (j : Nat) => bitsOf v == fl (8 - ((j : Nat) : Int))).getD 8
theorem j8_of_all : ∀ j : Nat, j < 9 → j8_of (.float .f64 (fl (8 - (j : Int)))) = j := by decide +kernel
theorem j8_lt (j : Nat) (h : j < 8) : 8 - j8_of (.float .f64 (fl (8 - ((j + 1 : Nat) : Int)))) < 8 - j8_of (.float .f64 (fl (8 - (j : Int)))) := by
  rw [j8_of_all _ (by omega), j8_of_all _ (by omega)]; omega

set_option maxHeartbeats 4000000 in
theorem implSine_small (x : Nat) (n : Int) (tr W y0 : Nat) (z : Bool) (hc : Cut x n tr W y0 z) (w : World) :
    Calls Try.prog 36 #[.float .f64 x] w fun e w' => RetF .f64 (sineT (sP1 (some y0))) w e w' := by
  obtain ⟨v1, y1, v2, y2, v3, y3, b1, b2, b3, hp⟩ := prep hc.ub hc.num
  have hqb := hp.a2
  have hqc := hp.a3
  have hc2 := hp.c2
  have hc3 := hp.c3
  have he2 := hp.e2
  have he3 := hp.e3
  have HP := Lib.hid hp
  have HC := Lib.hid hc
  have hneg := @neg_run Try.prog
  clear hp hc
  rcases b2 with _ | _ <;> rcases b3 with _ | _
  all_goals
    simp only [if_true, Bool.false_eq_true, if_false] at he2 he3
    subst he2 he3
    go_enter Try.func36, Try.ntmps36
    have t1 : True := trivial; have t2 : True := trivial
    go_wp2_with (first | (go_at_call 35; refine (part_any x _ _ _ _ _ HC.out HP.out _).mono ?_; rintro e w' ⟨rfl, rfl⟩) | (refine wpList_det rfl _ _ _ _ _ rfl rfl _ _ _ _ rfl rfl hqb ?_) | (refine wpList_det rfl _ _ _ _ _ rfl rfl _ _ _ _ rfl rfl hqc ?_) | (have _t := t1; refine wpList_fop rfl _ _ _ _ _ rfl rfl _ _ _ rfl rfl ?_; intro r1 n1 h1; clear t1) | (have _t := t2; refine wpList_fop rfl _ _ _ _ _ rfl rfl _ _ _ rfl rfl ?_; intro r2 n2 h2; clear t2))
    clear hqb hqc hc2 hc3
    have HA := Lib.hid h1
    have HU := Lib.hid h2
    clear h1 h2
    go_loopw [7, 8] (fun v i wr => ∃ (s j m : Nat), v = .float .f64 s ∧ i = .float .f64 (fl (8 - (j : Int))) ∧ j ≤ 8 ∧ FIs .f64 s (sS (val .f64 r2) j) ∧ wr = w.drewN m) (fun _ i _ => 8 - j8_of i)
    case atStart => exact ⟨_, 0, _, rfl, congrArg _ s_start, by omega, FIs.mk val_one64 (by decide), rfl⟩
    case round =>
      obtain ⟨s, j, m, rfl, rfl, hj, hs, rfl⟩ := hrel
      by_cases hj8 : j < 8
      · have hge := s_ge j hj8
        have hks := run_float_arith (P := Try.prog) (op := .sub) (t := 39) (k := .f64) (h := s_dec j hj8)
        have Hj := Lib.hid (j8_lt j hj8)
        have t1 : True := trivial; have t2 : True := trivial; have t3 : True := trivial; have t4 : True := trivial; have t5 : True := trivial; have t6 : True := trivial; have t7 : True := trivial
        go_wp2_with (first | (have _t := t1; refine wpList_fop rfl _ _ _ _ _ rfl rfl _ _ _ rfl rfl ?_; intro r1 n1 h1; clear t1) | (have _t := t2; refine wpList_fop rfl _ _ _ _ _ rfl rfl _ _ _ rfl rfl ?_; intro r2 n2 h2; clear t2) | (have _t := t3; refine wpList_fop rfl _ _ _ _ _ rfl rfl _ _ _ rfl rfl ?_; intro r3 n3 h3; clear t3) | (have _t := t4; refine wpList_fop rfl _ _ _ _ _ rfl rfl _ _ _ rfl rfl ?_; intro r4 n4 h4; clear t4) | (have _t := t5; refine wpList_fop rfl _ _ _ _ _ rfl rfl _ _ _ rfl rfl ?_; intro r5 n5 h5; clear t5) | (have _t := t6; refine wpList_fop rfl _ _ _ _ _ rfl rfl _ _ _ rfl rfl ?_; intro r6 n6 h6; clear t6) | (have _t := t7; refine wpList_fop rfl _ _ _ _ _ rfl rfl _ _ _ rfl rfl ?_; intro r7 n7 h7; clear t7))
        have hstep := Lib.hid (sS_step7 hj8 rfl hs h1 h2 h3 h4 h5 h6 h7)
        go_roundw
        case rel => exact ⟨_, j + 1, _, rfl, rfl, by omega, hstep.out, rfl⟩
        case measure => exact Hj.out
      · obtain rfl : j = 8 := by omega
        have hge := s_end
        have t1 : True := trivial
        go_wp2_with (first | (have _t := t1; refine wpList_fop rfl _ _ _ _ _ rfl rfl _ _ _ rfl rfl ?_; intro r1 n1 h1; clear t1))
        go_ret
        have := sineT_of HP.out HA.out HU.out hs h1
        refine ⟨_, _, rfl, ?_, rfl⟩
        rw [this]
        first | exact FIs.mk rfl h1.lt64 | exact (FIs.mk rfl h1.lt64 : FIs .f64 _ _).neg
end Go.Proofs.Ytecncnkbgfjdcaa
