/- The laws' own sameComplex answers true at words of the same values; complex64 as complex128. -/
import Derived.Test.YtdbcajiagjeplaaDoorSameF
import Derived.Test.YtdbcajiagjeplaaDoorFWalk
set_option linter.unusedVariables false
set_option linter.unusedSimpArgs false
namespace Go.Proofs.YtdbcajiagjeplaaDoor
open Ieee Go.RowKit near

theorem f2f_run (b : Nat) (W : World) : ∃ r n, (Conv.floatToFloat .f32 b .f64).run Tryd.prog W = .ok (.float .f64 r) (W.drewN n) ∧ FIs .f64 r (fwide (val .f32 b)) := by
  have hd : (Tryd.prog).underlying 58 = some (.float .f64) := by kernel_rfl
  have hs : (Tryd.prog).underlying 55 = some (.float .f32) := by kernel_rfl
  obtain ⟨r, n, h, hf⟩ := run_wide (P := Tryd.prog) 55 58 (by kernel_rfl) (by kernel_rfl) b W
  refine ⟨r, n, ?_, hf⟩
  rw [← h]
  simp [convert, run_underlying hs, run_underlying hd]
theorem cwide_run (a b : Nat) (W : World) : ∃ r1 r2 n, (convert 66 68 (.complex .f32 a b)).run Tryd.prog W = .ok (.complex .f64 r1 r2) (W.drewN n) ∧ FIs .f64 r1 (fwide (val .f32 a)) ∧ FIs .f64 r2 (fwide (val .f32 b)) := by
  have hd : (Tryd.prog).underlying 68 = some (.complex .f64) := by kernel_rfl
  have hs : (Tryd.prog).underlying 66 = some (.complex .f32) := by kernel_rfl
  obtain ⟨r1, n1, h1, f1⟩ := f2f_run a W
  obtain ⟨r2, n2, h2, f2⟩ := f2f_run b (W.drewN n1)
  refine ⟨r1, r2, n1 + n2, ?_, f1, f2⟩
  simp [convert, run_underlying hs, run_underlying hd, Conv.complexToComplex, h1, h2]
theorem wpList_cwide {ops : Array Oper} {rest : List Oper} {o : Oper} {a : Act} {w : World} {Q : Exit → Act → World → Prop} (hw : Region.wanted o (yielded ops a.tmps) = true)
    (x : Operand) (ho : o.op = .convert 66 68 x) (b c : Nat) (hx : a.eval x = .complex .f32 b c)
    (h : ∀ r1 r2 n, FIs .f64 r1 (fwide (val .f32 b)) → FIs .f64 r2 (fwide (val .f32 c)) → wpList Tryd.prog ops Q rest (a.put o.dst (.complex .f64 r1 r2)) (w.drewN n)) : wpList Tryd.prog ops Q (o :: rest) a w :=
  wpList_step fun K hK => by
    rw [if_pos hw]
    obtain ⟨r1, r2, n, hr, hf1, hf2⟩ := cwide_run b c w
    unfold Oper.wp execOp
    simp only [ho, hx, Sem.run_bind, Sem.run_pure, hr, Result.andThen_ok]
    exact hK _ _ (h r1 r2 n hf1 hf2)
theorem real_run (ts : Array TypeId) (t : TypeId) (a b : Nat) (W : World) : (Builtin.real_ ts t #[.complex .f64 a b]).run Tryd.prog W = .ok (.float .f64 a) W := rfl
theorem imag_run (ts : Array TypeId) (t : TypeId) (a b : Nat) (W : World) : (Builtin.imag_ ts t #[.complex .f64 a b]).run Tryd.prog W = .ok (.float .f64 b) W := rfl
theorem sameComplex_same (a1 a2 b1 b2 : Nat) (v1 v2 : Option Nat) (ha1 : FIs .f64 a1 v1) (ha2 : FIs .f64 a2 v2) (hb1 : FIs .f64 b1 v1) (hb2 : FIs .f64 b2 v2) (w : World) :
    Calls Tryd.prog 56 #[.complex .f64 a1 a2, .complex .f64 b1 b2] w fun e w' => e = .returned (.bool true) ∧ ∃ n, w' = w.drewN n := by
  have HA := Lib.hid ha1
  have HB := Lib.hid ha2
  have HC := Lib.hid hb1
  have HD := Lib.hid hb2
  clear ha1 ha2 hb1 hb2
  have hre := real_run
  have him := imag_run
  have tok : True := trivial
  go_enter Tryd.func56, Tryd.ntmps56
  go_wp2_with (go_at_call 48; first | (have _t := tok; refine (sameFloat_same _ _ _ HA.out HC.out _).mono ?_; rintro e w' ⟨rfl, n1, rfl⟩; clear tok) | (refine (sameFloat_same _ _ _ HB.out HD.out _).mono ?_; rintro e w' ⟨rfl, n2, rfl⟩))
  go_ret
  exact ⟨rfl, _, rfl⟩
end Go.Proofs.YtdbcajiagjeplaaDoor
