/- TenthsOf: contracts of both sides; the law FnExactTenthsOf. -/
import Derived.Test.YtdbcajiagjeplaaGreatDoorZWPos
import Derived.Test.YtdbcajiagjeplaaGreatDoorZWSine2
import Derived.Laws.FloatArith
set_option linter.unusedVariables false
set_option linter.unusedSimpArgs false
namespace Go.Proofs.YtdbcajiagjeplaaGreatDoor
open Ieee Go.RowKit near

def c43 : Nat := 4631308968768463603
/-- The tenths before they are cut, of a number with the word y. -/
def TT (y : Nat) : Option Nat := fop .add .f64 (fop .mul .f64 (logV y) (some c43)) (some half64)
theorem TT_fv {y : Nat} (h1 : 870 * 4503599627370496 ≤ y) (h2 : y < 1160 * 4503599627370496) : FV (TT y) 1097 :=
  FV.add (FV.mul (logV_fv h1 h2) (FV.of_B (E := 1080) (by decide +kernel) (by decide +kernel)) (G := 1096) (by omega) (by omega) (by omega) (by omega)) fv_half (by omega) (by omega) (by omega) (by omega)
theorem val_c43 : val .f64 4631308968768463603 = some c43 := by decide +kernel
theorem val_half : val .f64 4602678819172646912 = some half64 := by decide +kernel
theorem TT_of {y rl a b : Nat} (hl : FIs .f64 rl (logV y)) (ha : FIs .f64 a (fop .mul .f64 (val .f64 rl) (val .f64 4631308968768463603))) (hb : FIs .f64 b (fop .add .f64 (val .f64 a) (val .f64 4602678819172646912))) : FIs .f64 b (TT y) := by
  rw [ha.out, hl.out, val_c43, val_half] at hb; exact hb

/-- The int64 that comes of it. -/
structure Ten (y t F : Nat) (n : Int) : Prop where
  tt : TT y = some t
  flo : Flo t F n
theorem ten_ex {y : Nat} (hm : Mid y) : ∃ t F n, Ten y t F n := by
  obtain ⟨hub, t, ht, hn⟩ := TT_fv (y := y) (by have := hm.lo; omega) (by have := hm.hi; omega)
  rw [ht] at hub
  obtain ⟨F, n, h⟩ := flo_ex (hub.mono (by omega)) hn
  exact ⟨t, F, n, ht, h⟩

/-- A number and a Bool are returned; what was there stands. -/
def GivesIB (n : Int) (ok : Bool) (w : World) (e : Ending) (w' : World) : Prop := e = .returned (.tuple #[.int .i64 n, .bool ok]) ∧ Below w.heap.size w w'
theorem below_drewN {B : Nat} {a w : World} (h : Below B a w) (n : Nat) : Below B a (w.drewN n) := ⟨h.os, h.tape, h.output, h.size, h.block⟩

theorem row_one (w : World) (x : Nat) (e : TypeId) : Row (w.alloc (.cells #[.float .f32 x] e)) (w.heap.size + 1) (some ⟨w.heap.size, 0, none⟩) 1 (fun j => .float .f32 ((fun _ => x) j)) := by
  intro _
  refine ⟨w.heap.size, 0, rfl, by omega, fun j hj => ?_⟩
  obtain rfl : j = 0 := by omega
  rw [World.cell?_alloc_at _ _ _ _ rfl]; rfl
theorem anyB_one (p : Nat → Bool) (x : Nat) : anyB p (fun _ => x) 1 = p x := by simp [anyB]
end Go.Proofs.YtdbcajiagjeplaaGreatDoor
