/- The walk's laws for float operations whose result may be a NaN with open bits: the result is known by its value. -/
import Derived.Test.YtecncnkbgfjdcaaZFConv
import Derived.WalkKit
import Derived.Deep.Draws
import Derived.Below
set_option linter.unusedVariables false
set_option linter.unusedSimpArgs false
namespace Go.Proofs.Ytecncnkbgfjdcaa
open Go.RowKit

def isArith : BinOp → Bool
  | .add | .sub | .mul | .quo => true
  | _ => false

section
variable {P : Program}
theorem run_fop (op : BinOp) (hop : isArith op = true) (t : TypeId) (k : FloatKind) (x y : Nat) (w : World) :
    ∃ r n, (binOp op t (.float k x) (.float k y)).run P w = .ok (.float k r) (w.drewN n) ∧ FIs k r (fop op k (val k x) (val k y)) := by
  cases hb : floatBits op k x y with
  | some r =>
    refine ⟨r, 0, ?_, ?_⟩
    · rw [World.drewN_zero]; exact run_float_arith w op t k x y r hb
    · rw [← floatBits_val, hb]; exact FIs.mk (val_some (floatBits_not_nan hb)) (floatBits_lt hb)
  | none =>
    refine ⟨(Question.nanBits k x y).cut (w.tape w.drawn (.nanBits k x y)), 1, ?_, ?_⟩
    · unfold floatBits at hb
      cases op <;> simp only [isArith] at hop <;> first | (cases hop; done) | skip
      all_goals
        simp only at hb
        simp [binOp, Op.floatArith, hb, Question.forced]
        rfl
    · rw [← floatBits_val, hb]; exact FIs.mk (val_nanCut k x y _) (nanCut_lt k x y _)

theorem run_wide (src dst : TypeId) (hs : (P.underlying src).isSome = true) (hd : P.underlying dst = some (.float .f64)) (b : Nat) (w : World) :
    ∃ r n, (convert src dst (.float .f32 b)).run P w = .ok (.float .f64 r) (w.drewN n) ∧ FIs .f64 r (fwide (val .f32 b)) := by
  cases hn : (FloatKind.f32.decode b).isNaN with
  | true =>
    refine ⟨(Question.nanConv .f64 b).cut (w.tape w.drawn (.nanConv .f64 b)), 1, ?_, ?_⟩
    · obtain ⟨u, hs'⟩ := Option.isSome_iff_exists.1 hs
      have hd' : ∃ s f, FloatKind.f32.decode b = .nan s f := by
        revert hn; cases FloatKind.f32.decode b <;> simp [Ieee.Datum.isNaN]
      obtain ⟨s, f, hd'⟩ := hd'
      cases u <;> simp [convert, run_underlying hs', run_underlying hd, Conv.floatToFloat, hd', Question.forced] <;> rfl
    · rw [val_none hn]; exact FIs.mk (val_nanConvCut .f64 b _) (nanConvCut_lt .f64 b _)
  | false =>
    refine ⟨FloatKind.f64.encode (FloatKind.f32.decode b), 0, ?_, ?_⟩
    · rw [World.drewN_zero]
      exact run_convert_float_float w src dst .f32 .f64 b _ hs hd (wide_bits hn)
    · rw [val_some hn]; exact FIs.mk (val_some (write_not_nan .f64 _ hn)) (Ieee.Format.write_lt _ _)

theorem run_narrow (src dst : TypeId) (hs : (P.underlying src).isSome = true) (hd : P.underlying dst = some (.float .f32)) (b : Nat) (w : World) (hfit : fitsNarrow (val .f64 b)) :
    ∃ r n, (convert src dst (.float .f64 b)).run P w = .ok (.float .f32 r) (w.drewN n) ∧ FIs .f32 r (fnarrow (val .f64 b)) := by
  cases hn : (FloatKind.f64.decode b).isNaN with
  | true =>
    refine ⟨(Question.nanConv .f32 b).cut (w.tape w.drawn (.nanConv .f32 b)), 1, ?_, ?_⟩
    · obtain ⟨u, hs'⟩ := Option.isSome_iff_exists.1 hs
      have hd' : ∃ s f, FloatKind.f64.decode b = .nan s f := by
        revert hn; cases FloatKind.f64.decode b <;> simp [Ieee.Datum.isNaN]
      obtain ⟨s, f, hd'⟩ := hd'
      cases u <;> simp [convert, run_underlying hs', run_underlying hd, Conv.floatToFloat, hd', Question.forced] <;> rfl
    · rw [val_none hn]; exact FIs.mk (val_nanConvCut .f32 b _) (nanConvCut_lt .f32 b _)
  | false =>
    refine ⟨FloatKind.f32.encode (FloatKind.f64.decode b), 0, ?_, ?_⟩
    · rw [World.drewN_zero]
      rw [val_some hn] at hfit
      exact run_convert_float_float w src dst .f64 .f32 b _ hs hd (narrow_bits hn hfit)
    · rw [val_some hn]; exact FIs.mk (val_some (write_not_nan .f32 _ hn)) (Ieee.Format.write_lt _ _)

theorem wpList_fop {ops : Array Oper} {rest : List Oper} {o : Oper} {a : Act} {w : World} {Q : Exit → Act → World → Prop} (hw : Region.wanted o (yielded ops a.tmps) = true)
    (op : BinOp) (xt yt : TypeId) (x y : Operand) (ho : o.op = .binOp op xt x y yt) (hop : isArith op = true) (k : FloatKind) (bx by' : Nat)
    (hx : a.eval x = .float k bx) (hy : a.eval y = .float k by')
    (h : ∀ r n, FIs k r (fop op k (val k bx) (val k by')) → wpList P ops Q rest (a.put o.dst (.float k r)) (w.drewN n)) : wpList P ops Q (o :: rest) a w :=
  wpList_step fun K hK => by
    rw [if_pos hw]
    obtain ⟨r, n, hr, hf⟩ := run_fop (P := P) op hop xt k bx by' w
    have hne : isArith op = true := hop
    unfold Oper.wp execOp
    cases op <;> simp only [isArith] at hne <;> first | (cases hne; done) | skip
    all_goals
      simp only [ho, hx, hy, eqGuard, Bool.not_false, if_true, Sem.run_bind, Sem.run_pure, hr, Result.andThen_ok]
      exact hK _ _ (h r n hf)

/-- float64(x) of a float32: exact; a NaN stays one. -/
theorem wpList_wide {ops : Array Oper} {rest : List Oper} {o : Oper} {a : Act} {w : World} {Q : Exit → Act → World → Prop} (hw : Region.wanted o (yielded ops a.tmps) = true)
    (src dst : TypeId) (x : Operand) (ho : o.op = .convert src dst x) (hs : (P.underlying src).isSome = true) (hd : P.underlying dst = some (.float .f64)) (b : Nat) (hx : a.eval x = .float .f32 b)
    (h : ∀ r n, FIs .f64 r (fwide (val .f32 b)) → wpList P ops Q rest (a.put o.dst (.float .f64 r)) (w.drewN n)) : wpList P ops Q (o :: rest) a w :=
  wpList_step fun K hK => by
    rw [if_pos hw]
    obtain ⟨r, n, hr, hf⟩ := run_wide (P := P) src dst hs hd b w
    unfold Oper.wp execOp
    simp only [ho, hx, Sem.run_bind, Sem.run_pure, hr, Result.andThen_ok]
    exact hK _ _ (h r n hf)

/-- float32(x) of a float64 that does not pass float32's greatest number. -/
theorem wpList_narrow {ops : Array Oper} {rest : List Oper} {o : Oper} {a : Act} {w : World} {Q : Exit → Act → World → Prop} (hw : Region.wanted o (yielded ops a.tmps) = true)
    (src dst : TypeId) (x : Operand) (ho : o.op = .convert src dst x) (hs : (P.underlying src).isSome = true) (hd : P.underlying dst = some (.float .f32)) (b : Nat) (hx : a.eval x = .float .f64 b)
    (hfit : fitsNarrow (val .f64 b))
    (h : ∀ r n, FIs .f32 r (fnarrow (val .f64 b)) → wpList P ops Q rest (a.put o.dst (.float .f32 r)) (w.drewN n)) : wpList P ops Q (o :: rest) a w :=
  wpList_step fun K hK => by
    rw [if_pos hw]
    obtain ⟨r, n, hr, hf⟩ := run_narrow (P := P) src dst hs hd b w hfit
    unfold Oper.wp execOp
    simp only [ho, hx, Sem.run_bind, Sem.run_pure, hr, Result.andThen_ok]
    exact hK _ _ (h r n hf)
end
end Go.Proofs.Ytecncnkbgfjdcaa
