/- TenthsOf: contracts of both sides; the law FnExactTenthsOf. -/
import Derived.Test.YtecncnkbgfjdcaaZWPos
import Derived.Test.YtecncnkbgfjdcaaZWSine2
import Derived.Laws.FloatArith
set_option linter.unusedVariables false
set_option linter.unusedSimpArgs false
namespace Go.Proofs.Ytecncnkbgfjdcaa
open Ieee Go.RowKit near

def c43 : Nat := 4631308968768463603
/-- The tenths before they are cut, of a number with the word y. -/
def TT (y : Nat) : Option Nat := fop .add .f64 (fop .mul .f64 (logV y) (some c43)) (some half64)
theorem TT_fv {y : Nat} (h1 : 870 * 4503599627370496 ≤ y) (h2 : y < 1160 * 4503599627370496) : FV (TT y) 1097 :=
  FV.add (FV.mul (logV_fv h1 h2) (FV.of_B (E := 1080) (by decide +kernel) (by decide +kernel)) (G := 1096) (by omega) (by omega) (by omega) (by omega)) fv_half (by omega) (by omega) (by omega) (by omega)
theorem val_c43 : val .f64 4631308968768463603 = some c43 := by decide +kernel
theorem val_half : val .f64 4602678819172646912 = some half64 := by decide +kernel
theorem TT_of {y rl a b : Nat} (hl : FIs .f64 rl (logV y)) (ha : FIs .f64 a (fop .mul .f64 (val .f64 rl) (val .f64 4631308968768463603))) (hb : FIs .f64 b (fop .add .f64 (val .f64 a) (val .f64 4602678819172646912))) : FIs .f64 b (TT y) := by
  rw [ha.out, hl.out, val_c43, val_half] at hb; exact hb

/-- The int64 that comes of it. -/
structure Ten (y t F : Nat) (n : Int) : Prop where
  tt : TT y = some t
  flo : Flo t F n
theorem ten_ex {y : Nat} (hm : Mid y) : ∃ t F n, Ten y t F n := by
  obtain ⟨hub, t, ht, hn⟩ := TT_fv (y := y) (by have := hm.lo; omega) (by have := hm.hi; omega)
  rw [ht] at hub
  obtain ⟨F, n, h⟩ := flo_ex (hub.mono (by omega)) hn
  exact ⟨t, F, n, ht, h⟩

theorem floor_any (t F : Nat) (n : Int) (hc : Flo t F n) (w : World) : Calls Try.prog 40 #[.float .f64 t] w fun e w' => e = .returned (.float .f64 F) ∧ w = w' := by
  have hext := fun W => run_callFunc_extern (P := Try.prog) Try.func58 (by kernel_rfl) (by kernel_rfl) (by kernel_rfl) (e := Extern.MathFloor.toIntegral "math.archFloor" .down) (by kernel_rfl) #[.float .f64 t] W
  have hrun : ∀ W, (callFunc 58 #[.float .f64 t]).run Try.prog W = .ok (.value (.float .f64 F)) W := by
    intro W
    rw [hext W]
    rw [integral_entry _ _ t hc.fin, hc.word]
    rfl
  clear hext hc
  go_enter Try.func40, Try.ntmps40
  go_wp2_with fail
  go_ret
  exact ⟨rfl, rfl⟩
/-- A number and a Bool are returned; what was there stands. -/
def GivesIB (n : Int) (ok : Bool) (w : World) (e : Ending) (w' : World) : Prop := e = .returned (.tuple #[.int .i64 n, .bool ok]) ∧ Below w.heap.size w w'
theorem below_drewN {B : Nat} {a w : World} (h : Below B a w) (n : Nat) : Below B a (w.drewN n) := ⟨h.os, h.tape, h.output, h.size, h.block⟩

theorem row_one (w : World) (x : Nat) (e : TypeId) : Row (w.alloc (.cells #[.float .f32 x] e)) (w.heap.size + 1) (some ⟨w.heap.size, 0, none⟩) 1 (fun j => .float .f32 ((fun _ => x) j)) := by
  intro _
  refine ⟨w.heap.size, 0, rfl, by omega, fun j hj => ?_⟩
  obtain rfl : j = 0 := by omega
  rw [World.cell?_alloc_at _ _ _ _ rfl]; rfl
theorem anyB_one (p : Nat → Bool) (x : Nat) : anyB p (fun _ => x) 1 = p x := by simp [anyB]
set_option maxHeartbeats 1000000 in
theorem implTen_yes (x y t F : Nat) (n : Int) (hv : fwide (val .f32 x) = some y) (hm : Mid y) (ht : Ten y t F n) (hf : finB (val .f32 x) = true) (hl : leZ x = false) (w : World) :
    Calls Try.prog 22 #[.float .f32 x] w (GivesIB n true w) := by
  have HV := Lib.hid hv
  have HM := Lib.hid hm
  have HT := Lib.hid ht
  have hconv := fun W => run_convert_float_int (P := Try.prog) W 39 2 .f64 .i64 F n (by kernel_rfl) (by kernel_rfl) ht.flo.int
  have HP := Lib.hid (show (!anyB notPos (fun _ => x) 1) = true by rw [anyB_one]; unfold notPos notFin; rw [hf, hl]; rfl)
  clear hv hm ht hf hl
  go_enter Try.func22, Try.ntmps22
  go_wp2_with fail
  refine (all_arePositive _ 1 _ _ (fun _ => x) _ (by omega) (row_one w x _)).mono ?_
  rw [HP.out]
  rintro e w' ⟨rfl, q, rfl⟩
  go_wp2_with (refine wpList_wide rfl _ _ _ rfl (by kernel_rfl) (by kernel_rfl) _ rfl ?_; intro r n hr)
  obtain rfl : r = y := by
    have := hr.out
    rw [HV.out] at this
    exact (val_eq_some this).1.symm
  refine (implLog_pos r HM.out _).mono ?_
  rintro e w' ⟨rl, nl, rfl, hrl, rfl⟩
  clear hr
  have t1 : True := trivial; have t2 : True := trivial
  go_wp2_with (first | (have _t := t1; refine wpList_fop rfl _ _ _ _ _ rfl rfl _ _ _ rfl rfl ?_; intro r1 n1 h1; clear t1) | (have _t := t2; refine wpList_fop rfl _ _ _ _ _ rfl rfl _ _ _ rfl rfl ?_; intro r2 n2 h2; clear t2))
  have htt := TT_of hrl h1 h2
  rw [HT.out.tt] at htt
  obtain rfl := htt.eq
  refine (floor_any _ F _ HT.out.flo _).mono ?_
  rintro e w' ⟨rfl, rfl⟩
  clear h1 h2 hrl htt
  go_wp2_with fail
  go_ret2
  exact ⟨rfl, below_drewN ((Below.refl _ _).alloc (Nat.le_refl _) _) _⟩
theorem implTen_no (x : Nat) (hp : notPos x = true) (w : World) : Calls Try.prog 22 #[.float .f32 x] w (GivesIB 0 false w) := by
  have HP := Lib.hid (show (!anyB notPos (fun _ => x) 1) = false by rw [anyB_one, hp]; rfl)
  clear hp
  go_enter Try.func22, Try.ntmps22
  go_wp2_with fail
  refine (all_arePositive _ 1 _ _ (fun _ => x) _ (by omega) (row_one w x _)).mono ?_
  rw [HP.out]
  rintro e w' ⟨rfl, q, rfl⟩
  go_wp2_with fail
  go_ret2
  exact ⟨rfl, below_drewN ((Below.refl _ _).alloc (Nat.le_refl _) _) _⟩
end Go.Proofs.Ytecncnkbgfjdcaa
