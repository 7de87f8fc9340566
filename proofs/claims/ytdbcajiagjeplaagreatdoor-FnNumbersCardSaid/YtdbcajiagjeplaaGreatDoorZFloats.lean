/- Contracts of the laws' own helpers on []float32: eqFloat32S at equal slices, toFloat32S. -/
import Derived.Test.YtdbcajiagjeplaaGreatDoorZWNum
import Derived.Test.YtdbcajiagjeplaaGreatDoorZRow
import Derived.Deep.RegionWith
import Derived.Laws.Entries
set_option linter.unusedVariables false
set_option linter.unusedSimpArgs false
namespace Go.Proofs.YtdbcajiagjeplaaGreatDoor
open Go.RowKit

/-- The word that a NaN gets, widened in the world w. -/
def nanWide (w : World) (b : Nat) : Nat := (Question.nanConv .f64 b).cut (w.tape w.drawn (.nanConv .f64 b))
theorem nanWide_is (w : World) (b : Nat) : FIs .f64 (nanWide w b) none := FIs.mk (val_nanConvCut .f64 b _) (nanConvCut_lt .f64 b _)

theorem run_wide_nan {b : Nat} (hn : (FloatKind.f32.decode b).isNaN = true) (w : World) : (convert 24 44 (.float .f32 b)).run Tryz.prog w = .ok (.float .f64 (nanWide w b)) w.drew := by
  have hd' : ∃ s f, FloatKind.f32.decode b = .nan s f := by
    revert hn; cases FloatKind.f32.decode b <;> simp [Ieee.Datum.isNaN]
  obtain ⟨s, f, hd'⟩ := hd'
  simp [convert, run_underlying Tryz.underlying24, run_underlying Tryz.underlying44, Conv.floatToFloat, hd', Question.forced]
  rfl
theorem run_wide_num {b : Nat} (hn : (FloatKind.f32.decode b).isNaN = false) (w : World) : (convert 24 44 (.float .f32 b)).run Tryz.prog w = .ok (.float .f64 (FloatKind.f64.encode (FloatKind.f32.decode b))) w :=
  run_convert_float_float w _ _ .f32 .f64 b _ (by rw [Tryz.underlying24]; rfl) Tryz.underlying44 (wide_bits hn)
theorem wide_is {b : Nat} (hn : (FloatKind.f32.decode b).isNaN = false) : FIs .f64 (FloatKind.f64.encode (FloatKind.f32.decode b)) (fwide (val .f32 b)) := by
  rw [val_some hn]; exact FIs.mk (val_some (write_not_nan .f64 _ hn)) (Ieee.Format.write_lt _ _)

theorem quietB {P : Program} {f : FuncId} {args : Array Value} {w : World} {n : Nat} {v : Value} (h : Calls P f args (w.drewN n) fun e w' => e = .returned v ∧ ∃ q, w' = (w.drewN n).drewN q) :
    Calls P f args (w.drewN n) fun e w'' => e = .returned v ∧ ∃ m, w'' = w.drewN m := h.mono fun _ _ ⟨he, q, hq⟩ => ⟨he, n + q, by rw [hq, World.drewN_drewN]⟩
theorem quietC {P : Program} {f : FuncId} {args : Array Value} {w : World} {a n : Nat} {v : Value} (h : Calls P f args (w.drewN (a + n)) fun e w' => e = .returned v ∧ ∃ q, w' = (w.drewN (a + n)).drewN q) :
    Calls P f args (w.drewN (a + n)) fun e w'' => e = .returned v ∧ ∃ m, w'' = w.drewN (a + m) := h.mono fun _ _ ⟨he, q, hq⟩ => ⟨he, n + q, by rw [hq, World.drewN_drewN, Nat.add_assoc]⟩


theorem info_f32 : (Tryz.prog.info? 24).map (fun i => (i.zero, i.size, i.bytes)) = some (some (.float .f32 0), 1, 4) := by kernel_rfl
theorem below_drewN {B : Nat} {a w : World} (h : Below B a w) (n : Nat) : Below B a (w.drewN n) := ⟨h.os, h.tape, h.output, h.size, h.block⟩

/-- The first k elements have been copied. -/
def Copied (ys : List Value) (f : Nat → Value) (k : Nat) : Prop := ∀ j, j < k → ys[j]? = some (f j)
theorem Copied.set {ys : List Value} {f : Nat → Value} {k : Nat} (h : Copied ys f k) (hk : k < ys.length) : Copied (ys.set k (f k)) f (k + 1) := by
  intro j hj
  by_cases e : j = k
  · subst e; simp [hk]
  · rw [List.getElem?_set_ne (by omega)]; exact h j (by omega)
theorem Copied.row {w : World} {B n : Nat} {A : Option Addr} {ys : List Value} {f : Nat → Value} (h : Row w B A n (fun j => ys.getD j undef)) (hc : Copied ys f n) : Row w B A n f :=
  h.congr fun j hj => by rw [List.getD_eq_getElem?_getD, hc j hj]; rfl

@[go_sem] theorem run_store_f (P : Program) (w : World) (a : Addr) (m : Mode) (k : FloatKind) (b : Nat) : (store a (.float k b) m).run P w = stored P w a (.float k b) m := run_store P w a _ m rfl

end Go.Proofs.YtdbcajiagjeplaaGreatDoor
