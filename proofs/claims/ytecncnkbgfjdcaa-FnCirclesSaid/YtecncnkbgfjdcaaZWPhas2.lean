/- PhasorOf of the program. -/
import Derived.Test.YtecncnkbgfjdcaaZWPhas
set_option linter.unusedVariables false
set_option linter.unusedSimpArgs false
namespace Go.Proofs.Ytecncnkbgfjdcaa
open Ieee Go.RowKit near

theorem nw_run {s c : Nat} (h : Nw s c) (W : World) : (convert 39 34 (.float .f64 s)).run Try.prog W = .ok (.float .f32 c) W := by
  have hb := narrow_bits (val_eq_some h.val).2 h.fits
  rw [show FloatKind.f32.encode (FloatKind.f64.decode s) = c from Option.some.inj h.word] at hb
  exact run_convert_float_float W 39 34 .f64 .f32 s c (by kernel_rfl) (by kernel_rfl) hb
set_option maxHeartbeats 4000000 in
theorem implPhas_small (x : Nat) (hx : x < 18446744073709551616) (n : Int) (tr W y0 : Nat) (z : Bool) (hc : Cut x n tr W y0 z) (hlt : rg FloatKind.f64.format x < 4841369599423283200) {v1 y1 v2 y2 v3 y3 : Nat} {b1 b2 b3 : Bool} (hp : Prep y0 v1 y1 v2 y2 v3 y3 b1 b2 b3)
    {q T T2 S C S0 C0 s c s0 c0 : Nat} (ph : Ph y1 q T T2 S C S0 C0 s c s0 c0) (w : World) :
    Calls Try.prog 16 #[.float .f64 x] w fun e w' => e = .returned (.complex .f32 (phRe q c s0 c0 s) (phIm q s c s0 c0)) ∧ ∃ n, w' = w.drewN n := by
  have hq0 := Det.mk (sub_self64 hc.x0)
  have hne : (FloatKind.f64.format.order 0 0 != some .eq) = false := by decide +kernel
  have hb : decide (4841369599423283200 ≤ rg FloatKind.f64.format x) = false := decide_eq_false (by omega)
  have HX := Lib.hid hx
  have HP := Lib.hid hp
  have HC := Lib.hid hc
  have HPH := Lib.hid ph
  have hcx := complex_run
  clear hp hc hlt ph hx
  go_enter Try.func16, Try.ntmps16
  go_wp2_with (first | (go_at_call 33; refine (nan_any _).mono ?_; rintro e w' ⟨rfl, rfl⟩) | (refine wpList_narrow rfl _ _ _ rfl (by kernel_rfl) (by kernel_rfl) _ rfl (by rw [val_nan64]; exact fits_none) ?_; intro r0 n0 hr0; clear hr0) | (refine wpList_detH rfl _ _ _ _ _ rfl rfl _ _ _ rfl rfl hq0 ?_) | (go_at_call 34; refine (isHuge_any x HX.out HC.out.x0 _).mono ?_; rw [hb]; rintro e w' ⟨rfl, rfl⟩) | (go_at_call 35; refine (part_any x _ _ _ _ _ HC.out HP.out _).mono ?_; rintro e w' ⟨rfl, rfl⟩))
  clear hq0 hne hb
  go_loopw [4, 5] (fun v i wr => ∃ j m : Nat, v = .float .f64 (qIter y1 j) ∧ i = .int .i64 (j : Int) ∧ j ≤ q ∧ wr = w.drewN m) (fun _ i _ => q - (intOf i).toNat)
  case atStart => exact ⟨0, _, rfl, rfl, Nat.zero_le _, rfl⟩
  case round =>
    obtain ⟨j, m, rfl, rfl, hj, rfl⟩ := hrel
    have Hq8 := Lib.hid HPH.out.quart.small
    by_cases hjq : j < q
    · have hg : (FloatKind.f64.format.order (qIter y1 j) 4598175219545276416 == some .gt || FloatKind.f64.format.order (qIter y1 j) 4598175219545276416 == some .eq) = true := (HPH.out.quart.go j hjq).1
      have hsub := Det.mk (HPH.out.quart.go j hjq).2
      have hj8 : j < 8 := by have := Hq8.out; omega
      go_wp2_with (refine wpList_detH rfl _ _ _ _ _ rfl rfl _ _ _ rfl rfl hsub ?_)
      go_roundw
      case rel => exact ⟨j + 1, _, rfl, by go_num, by omega, rfl⟩
      case measure => simp [intOf]; omega
    · obtain rfl : j = q := by omega
      have hg : (FloatKind.f64.format.order (qIter y1 j) 4598175219545276416 == some .gt || FloatKind.f64.format.order (qIter y1 j) 4598175219545276416 == some .eq) = false := HPH.out.quart.stop
      rw [HPH.out.rest] at hg ⊢
      have ho := Det.mk HPH.out.other
      have hS0 := Det.mk HPH.out.negS
      have hC0 := Det.mk HPH.out.negC
      have k1 := @nw_run _ _ HPH.out.ns
      have k2 := @nw_run _ _ HPH.out.nc
      have k3 := @nw_run _ _ HPH.out.ns0
      have k4 := @nw_run _ _ HPH.out.nc0
      go_wp2_with (first | (refine wpList_detH rfl _ _ _ _ _ rfl rfl _ _ _ rfl rfl ho ?_) | (refine wpList_detH rfl _ _ _ _ _ rfl rfl _ _ _ rfl rfl hS0 ?_) | (refine wpList_detH rfl _ _ _ _ _ rfl rfl _ _ _ rfl rfl hC0 ?_) | (go_at_call 36; first | (with_reducible refine Calls.mono (HPH.out.sinC.impl _) ?_; rintro e w' ⟨rfl, n1, rfl⟩) | (with_reducible refine Calls.mono (HPH.out.sinS.impl _) ?_; rintro e w' ⟨rfl, n1, rfl⟩)))
      all_goals (go_ret; refine ⟨?_, _, rfl⟩; first | exact ret_cx (ph1 (by assumption)) | exact ret_cx (ph2 (by assumption)) | exact ret_cx (ph3 (by assumption)) | exact ret_cx (ph0 (by assumption) (by assumption) (by assumption)))
end Go.Proofs.Ytecncnkbgfjdcaa
