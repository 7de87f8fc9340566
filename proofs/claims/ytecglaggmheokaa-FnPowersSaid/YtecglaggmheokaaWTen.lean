/- TenthsOf: contracts of both sides; the law FnExactTenthsOf. -/
import Derived.Test.YtecglaggmheokaaWPos
import Derived.Test.YtecglaggmheokaaWSine2
import Derived.Laws.FloatArith
set_option linter.unusedVariables false
set_option linter.unusedSimpArgs false
namespace Go.Proofs.Ytecglaggmheokaa
open Ieee Go.RowKit near

def c43 : Nat := 4631308968768463603
/-- The tenths before they are cut, of a number with the word y. -/
def TT (y : Nat) : Option Nat := fop .add .f64 (fop .mul .f64 (logV y) (some c43)) (some half64)
theorem TT_fv {y : Nat} (h1 : 870 * 4503599627370496 ≤ y) (h2 : y < 1160 * 4503599627370496) : FV (TT y) 1097 :=
  FV.add (FV.mul (logV_fv h1 h2) (FV.of_B (E := 1080) (by decide +kernel) (by decide +kernel)) (G := 1096) (by omega) (by omega) (by omega) (by omega)) fv_half (by omega) (by omega) (by omega) (by omega)
theorem val_c43 : val .f64 4631308968768463603 = some c43 := by decide +kernel
theorem val_half : val .f64 4602678819172646912 = some half64 := by decide +kernel
theorem TT_of {y rl a b : Nat} (hl : FIs .f64 rl (logV y)) (ha : FIs .f64 a (fop .mul .f64 (val .f64 rl) (val .f64 4631308968768463603))) (hb : FIs .f64 b (fop .add .f64 (val .f64 a) (val .f64 4602678819172646912))) : FIs .f64 b (TT y) := by
  rw [ha.out, hl.out, val_c43, val_half] at hb; exact hb

/-- The int64 that comes of it. -/
structure Ten (y t F : Nat) (n : Int) : Prop where
  tt : TT y = some t
  flo : Flo t F n
theorem ten_ex {y : Nat} (hm : Mid y) : ∃ t F n, Ten y t F n := by
  obtain ⟨hub, t, ht, hn⟩ := TT_fv (y := y) (by have := hm.lo; omega) (by have := hm.hi; omega)
  rw [ht] at hub
  obtain ⟨F, n, h⟩ := flo_ex (hub.mono (by omega)) hn
  exact ⟨t, F, n, ht, h⟩

theorem floor_any (t F : Nat) (n : Int) (hc : Flo t F n) (w : World) : Calls Try.prog 72 #[.float .f64 t] w fun e w' => e = .returned (.float .f64 F) ∧ w = w' := by
  have hext := fun W => run_callFunc_extern (P := Try.prog) Try.func87 (by kernel_rfl) (by kernel_rfl) (by kernel_rfl) (e := Extern.MathFloor.toIntegral "math.archFloor" .down) (by kernel_rfl) #[.float .f64 t] W
  have hrun : ∀ W, (callFunc 87 #[.float .f64 t]).run Try.prog W = .ok (.value (.float .f64 F)) W := by
    intro W
    rw [hext W]
    rw [integral_entry _ _ t hc.fin, hc.word]
    rfl
  clear hext hc
  go_enter Try.func72, Try.ntmps72
  go_wp2_with fail
  go_ret
  exact ⟨rfl, rfl⟩
/-- A number and a Bool are returned; what was there stands. -/
def GivesIB (n : Int) (ok : Bool) (w : World) (e : Ending) (w' : World) : Prop := e = .returned (.tuple #[.int .i64 n, .bool ok]) ∧ Below w.heap.size w w'
theorem below_drewN {B : Nat} {a w : World} (h : Below B a w) (n : Nat) : Below B a (w.drewN n) := ⟨h.os, h.tape, h.output, h.size, h.block⟩

set_option maxHeartbeats 1000000 in
theorem l01Tenths_pos (x y t F : Nat) (n : Int) (hv : fwide (val .f32 x) = some y) (hm : Mid y) (ht : Ten y t F n) (w : World) :
    Calls Try.prog 70 #[.float .f32 x] w fun e w' => e = .returned (.int .i64 n) ∧ ∃ q, w' = w.drewN q := by
  have HV := Lib.hid hv
  have HM := Lib.hid hm
  have HT := Lib.hid ht
  have hconv := fun W => run_convert_float_int (P := Try.prog) W 26 2 .f64 .i64 F n (by kernel_rfl) (by kernel_rfl) ht.flo.int
  clear hv hm ht
  go_enter Try.func70, Try.ntmps70
  go_wp2_with (refine wpList_wide rfl _ _ _ rfl (by kernel_rfl) (by kernel_rfl) _ rfl ?_; intro r n hr)
  obtain rfl : r = y := by
    have := hr.out
    rw [HV.out] at this
    exact (val_eq_some this).1.symm
  refine (l01LogWide_pos r HM.out _).mono ?_
  rintro e w' ⟨rl, nl, rfl, hrl, rfl⟩
  clear hr
  have t1 : True := trivial; have t2 : True := trivial
  go_wp2_with (first | (have _t := t1; refine wpList_fop rfl _ _ _ _ _ rfl rfl _ _ _ rfl rfl ?_; intro r1 n1 h1; clear t1) | (have _t := t2; refine wpList_fop rfl _ _ _ _ _ rfl rfl _ _ _ rfl rfl ?_; intro r2 n2 h2; clear t2))
  have htt := TT_of hrl h1 h2
  rw [HT.out.tt] at htt
  obtain rfl := htt.eq
  refine (floor_any _ F _ HT.out.flo _).mono ?_
  rintro e w' ⟨rfl, rfl⟩
  clear h1 h2 hrl htt
  go_wp2_with fail
  go_ret
  exact ⟨rfl, _, rfl⟩
theorem specTen_yes (x y t F : Nat) (n : Int) (hv : fwide (val .f32 x) = some y) (hm : Mid y) (ht : Ten y t F n) (hf : finB (val .f32 x) = true) (hl : leZ x = false) (w : World) :
    Calls Try.prog 37 #[.float .f32 x] w (GivesIB n true w) := by
  have HC := Lib.hid (fun W => l01Tenths_pos x y t F n hv hm ht W)
  have HF := Lib.hid hf
  unfold leZ at hl
  clear hv hm ht hf
  go_enter Try.func37, Try.ntmps37
  go_wp2_with (go_at_call 69; refine (specFinite_any x _).mono ?_; rw [HF.out]; rintro e w' ⟨rfl, q, rfl⟩)
  refine (HC.out _).mono ?_
  rintro e w' ⟨rfl, q2, rfl⟩
  go_wp2_with fail
  go_ret2
  exact ⟨rfl, below_drewN_self _ _⟩
theorem specTen_no1 (x : Nat) (hf : finB (val .f32 x) = false) (w : World) : Calls Try.prog 37 #[.float .f32 x] w (GivesIB 0 false w) := by
  have HF := Lib.hid hf
  clear hf
  go_enter Try.func37, Try.ntmps37
  go_wp2_with (go_at_call 69; refine (specFinite_any x _).mono ?_; rw [HF.out]; rintro e w' ⟨rfl, q, rfl⟩)
  go_ret2
  exact ⟨rfl, below_drewN_self _ _⟩
theorem specTen_no2 (x : Nat) (hf : finB (val .f32 x) = true) (hl : leZ x = true) (w : World) : Calls Try.prog 37 #[.float .f32 x] w (GivesIB 0 false w) := by
  have HF := Lib.hid hf
  unfold leZ at hl
  clear hf
  go_enter Try.func37, Try.ntmps37
  go_wp2_with (go_at_call 69; refine (specFinite_any x _).mono ?_; rw [HF.out]; rintro e w' ⟨rfl, q, rfl⟩)
  go_ret2
  exact ⟨rfl, below_drewN_self _ _⟩
theorem row_one (w : World) (x : Nat) (e : TypeId) : Row (w.alloc (.cells #[.float .f32 x] e)) (w.heap.size + 1) (some ⟨w.heap.size, 0, none⟩) 1 (fun j => .float .f32 ((fun _ => x) j)) := by
  intro _
  refine ⟨w.heap.size, 0, rfl, by omega, fun j hj => ?_⟩
  obtain rfl : j = 0 := by omega
  rw [World.cell?_alloc_at _ _ _ _ rfl]; rfl
theorem anyB_one (p : Nat → Bool) (x : Nat) : anyB p (fun _ => x) 1 = p x := by simp [anyB]
set_option maxHeartbeats 1000000 in
theorem implTen_yes (x y t F : Nat) (n : Int) (hv : fwide (val .f32 x) = some y) (hm : Mid y) (ht : Ten y t F n) (hf : finB (val .f32 x) = true) (hl : leZ x = false) (w : World) :
    Calls Try.prog 38 #[.float .f32 x] w (GivesIB n true w) := by
  have HV := Lib.hid hv
  have HM := Lib.hid hm
  have HT := Lib.hid ht
  have hconv := fun W => run_convert_float_int (P := Try.prog) W 26 2 .f64 .i64 F n (by kernel_rfl) (by kernel_rfl) ht.flo.int
  have HP := Lib.hid (show (!anyB notPos (fun _ => x) 1) = true by rw [anyB_one]; unfold notPos notFin; rw [hf, hl]; rfl)
  clear hv hm ht hf hl
  go_enter Try.func38, Try.ntmps38
  go_wp2_with fail
  refine (all_arePositive _ 1 _ _ (fun _ => x) _ (by omega) (row_one w x _)).mono ?_
  rw [HP.out]
  rintro e w' ⟨rfl, q, rfl⟩
  go_wp2_with (refine wpList_wide rfl _ _ _ rfl (by kernel_rfl) (by kernel_rfl) _ rfl ?_; intro r n hr)
  obtain rfl : r = y := by
    have := hr.out
    rw [HV.out] at this
    exact (val_eq_some this).1.symm
  refine (implLog_pos r HM.out _).mono ?_
  rintro e w' ⟨rl, nl, rfl, hrl, rfl⟩
  clear hr
  have t1 : True := trivial; have t2 : True := trivial
  go_wp2_with (first | (have _t := t1; refine wpList_fop rfl _ _ _ _ _ rfl rfl _ _ _ rfl rfl ?_; intro r1 n1 h1; clear t1) | (have _t := t2; refine wpList_fop rfl _ _ _ _ _ rfl rfl _ _ _ rfl rfl ?_; intro r2 n2 h2; clear t2))
  have htt := TT_of hrl h1 h2
  rw [HT.out.tt] at htt
  obtain rfl := htt.eq
  refine (floor_any _ F _ HT.out.flo _).mono ?_
  rintro e w' ⟨rfl, rfl⟩
  clear h1 h2 hrl htt
  go_wp2_with fail
  go_ret2
  exact ⟨rfl, below_drewN ((Below.refl _ _).alloc (Nat.le_refl _) _) _⟩
theorem implTen_no (x : Nat) (hp : notPos x = true) (w : World) : Calls Try.prog 38 #[.float .f32 x] w (GivesIB 0 false w) := by
  have HP := Lib.hid (show (!anyB notPos (fun _ => x) 1) = false by rw [anyB_one, hp]; rfl)
  clear hp
  go_enter Try.func38, Try.ntmps38
  go_wp2_with fail
  refine (all_arePositive _ 1 _ _ (fun _ => x) _ (by omega) (row_one w x _)).mono ?_
  rw [HP.out]
  rintro e w' ⟨rfl, q, rfl⟩
  go_wp2_with fail
  go_ret2
  exact ⟨rfl, below_drewN ((Below.refl _ _).alloc (Nat.le_refl _) _) _⟩
theorem fnExactTenthsOf_core (x : Nat) (n : Int) (ok : Bool) (hS : ∀ w : World, Calls Try.prog 37 #[.float .f32 x] w (GivesIB n ok w)) (hI : ∀ w : World, Calls Try.prog 38 #[.float .f32 x] w (GivesIB n ok w)) (w : World) :
    Calls Try.prog 12 #[.float .f32 x] w fun e w' => e = .returned (.bool true) ∧ Below w.heap.size w w' := by
  have HS := Lib.hid hS
  have HI := Lib.hid hI
  clear hS hI
  have hn : (n != n) = false := by simp
  have hok : (ok != ok) = false := by simp
  go_enter Try.func12, Try.ntmps12
  go_wp2_with fail
  refine (HS.out _).mono ?_
  rintro e w1 ⟨rfl, hb1⟩
  have H1 := Lib.hid hb1
  clear hb1
  go_wp2_with fail
  refine (HI.out _).mono ?_
  rintro e w2 ⟨rfl, hb2⟩
  have H2 := Lib.hid hb2
  clear hb2
  go_wp2_with fail
  go_ret
  exact ⟨rfl, H1.out.trans (H2.out.mono H1.out.size)⟩
theorem fnExactTenthsOf_walk (x : Nat) (wf : (Lit.float .f32 x).wf = true) (w : World) : Calls Try.prog 12 #[.float .f32 x] w fun e w' => e = .returned (.bool true) ∧ Below w.heap.size w w' := by
  have hx : x < 4294967296 := by simpa [Lit.wf] using wf
  cases hf : finB (val .f32 x) with
  | false => exact fnExactTenthsOf_core x 0 false (fun w => specTen_no1 x hf w) (fun w => implTen_no x (by unfold notPos notFin; rw [hf]; rfl) w) w
  | true =>
    cases hl : leZ x with
    | true => exact fnExactTenthsOf_core x 0 false (fun w => specTen_no2 x hf hl w) (fun w => implTen_no x (by unfold notPos; rw [hl, Bool.or_true]) w) w
    | false =>
      have hn : (FloatKind.f32.decode x).isNaN = false := by
        cases hn : (FloatKind.f32.decode x).isNaN with
        | false => rfl
        | true => rw [val_none hn] at hf; exact absurd hf (by decide)
      have hle := not_nan_rg hn
      rw [inf32] at hle
      have h3 : rg FloatKind.f32.format x ≠ 2139095040 := by
        intro h
        rw [finB_inf hn h] at hf; cases hf
      unfold leZ at hl
      rw [order_lt_zero .f32 hn, order_eq_zero .f32 hn] at hl
      have h1 : rg FloatKind.f32.format x ≠ 0 := by intro h; rw [decide_eq_true h, Bool.or_true] at hl; cases hl
      rw [decide_eq_true (show rg FloatKind.f32.format x ≠ 0 from h1), decide_eq_false h1, Bool.or_false, Bool.true_and] at hl
      have hr : FIs .f64 (FloatKind.f64.encode (FloatKind.f32.decode x)) (fwide (val .f32 x)) := by
        rw [val_some hn]
        exact FIs.mk (val_some (write_not_nan .f64 _ hn)) (Ieee.Format.write_lt _ _)
      have W := wide_of hn hr
      have hm := wide_mid hn W h1 h3
      have hp2 := pos_rg hr.lt64 (W.sign.trans hl)
      rw [hp2] at hm
      have hmid : Mid (FloatKind.f64.encode (FloatKind.f32.decode x)) := ⟨by omega, by omega⟩
      obtain ⟨t, F, n, ht⟩ := ten_ex hmid
      have hv : fwide (val .f32 x) = some (FloatKind.f64.encode (FloatKind.f32.decode x)) := by rw [val_some hn]; rfl
      have hl2 : leZ x = false := by
        unfold leZ
        rw [order_lt_zero .f32 hn, order_eq_zero .f32 hn, decide_eq_false h1, hl]; simp
      exact fnExactTenthsOf_core x n true (fun w => specTen_yes x _ t F n hv hmid ht hf hl2 w) (fun w => implTen_yes x _ t F n hv hmid ht hf hl2 w) w
end Go.Proofs.Ytecglaggmheokaa
