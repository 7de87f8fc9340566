/- FnPowers returns true. -/
import Derived.Test.YtecglaggmheokaaWPow
import Derived.Test.YtecglaggmheokaaFPow2
import Derived.Test.YtecglaggmheokaaFPow3
import Derived.Test.YtecglaggmheokaaFPow4
set_option linter.unusedVariables false
set_option linter.unusedSimpArgs false
namespace Go.Proofs.Ytecglaggmheokaa
open Ieee Go.RowKit near

theorem ex_near (k : Nat) (hk : k < 65) (l : Nat) (hl : l < 65) : nearE k l = true := by
  rcases Nat.lt_or_ge k 22 with h | h
  · exact ex_near1 k h l hl
  · rcases Nat.lt_or_ge k 44 with h2 | h2
    · have := ex_near2 (k - 22) (by omega) l hl
      rwa [show k - 22 + 22 = k from by omega] at this
    · have := ex_near3 (k - 44) (by omega) l hl
      rwa [show k - 44 + 44 = k from by omega] at this
theorem ex_lt : ∀ n : Nat, n < 129 → ex n < 4294967296 := by decide +kernel
theorem one_eq : (FloatKind.f32.format.order 1065353216 1065353216 == some .eq) = true := by decide +kernel
theorem zero_eq : (FloatKind.f32.format.order 0 0 == some .eq) = true := by decide +kernel

structure Pw (x y s a b c wx wa wb wc : Nat) : Prop where
  sum : floatBits .add .f32 x y = some s
  xw : fwide (val .f32 x) = some wx
  aw : fwide (val .f32 a) = some wa
  bw : fwide (val .f32 b) = some wb
  cw : fwide (val .f32 c) = some wc
  vx : val .f64 wx = some wx
  va : val .f64 wa = some wa
  vb : val .f64 wb = some wb
  vc : val .f64 wc = some wc
  al : a < 4294967296
  pos : (FloatKind.f32.format.order a 0 == some .gt) = true
  log : (fcmp .f64 (gapV (fwide (LN a)) (some wx)) (some 4562254508917369340) == some .lt) = true
  nea : (fcmp .f64 (gapV (fop .mul .f64 (some wa) (some wb)) (some wc)) (fop .mul .f64 (some 4562254508917369340) (some wc)) == some .lt) = true
  ea : ∀ w : World, Calls Try.prog 31 #[.float .f32 x] w fun e w' => e = .returned (.float .f32 a) ∧ ∃ m, w' = w.drewN m
  eb : ∀ w : World, Calls Try.prog 31 #[.float .f32 y] w fun e w' => e = .returned (.float .f32 b) ∧ ∃ m, w' = w.drewN m
  ec : ∀ w : World, Calls Try.prog 31 #[.float .f32 s] w fun e w' => e = .returned (.float .f32 c) ∧ ∃ m, w' = w.drewN m
  eo : ∀ w : World, Calls Try.prog 31 #[.float .f32 0] w fun e w' => e = .returned (.float .f32 1065353216) ∧ ∃ m, w' = w.drewN m
theorem pw_of (k l : Nat) (hk : k < 65) (hl : l < 65) : Pw (xs (k + 32)) (xs (l + 32)) (xs (k + l)) (ex (k + 32)) (ex (l + 32)) (ex (k + l)) (xy (k + 32)) (exw (k + 32)) (exw (l + 32)) (exw (k + l)) := by
  have hk2 : k + 32 < 129 := by omega
  have hl2 : l + 32 < 129 := by omega
  have hkl : k + l < 129 := by omega
  have he0 := implExp_at 64 (by omega)
  rw [ex_one.1, ex_one.2] at he0
  exact ⟨xs_sum k hk l hl, xs_wide _ hk2, ex_wide _ hk2, ex_wide _ hl2, ex_wide _ hkl, xy_val _ hk2, exw_val _ hk2, exw_val _ hl2, exw_val _ hkl, ex_lt _ hk2, ex_pos k hk, ex_log k hk, ex_near k hk l hl,
    implExp_at _ hk2, implExp_at _ hl2, implExp_at _ hkl, he0⟩
theorem pw_lt1 {x y s a b c wx wa wb wc r g : Nat} (h : Pw x y s a b c wx wa wb wc) {v : Nat} (hv : FIs .f32 v (LN a)) (hr : FIs .f64 r (fwide (val .f32 v))) (hg : FIs .f64 g (gapV (val .f64 r) (val .f64 wx))) :
    (FloatKind.f64.format.order g 4562254508917369340 == some .lt) = true := by
  rw [order_val, hg.out, hr.out, hv.out, h.vx, val_001]
  exact h.log
theorem pw_lt2 {x y s a b c wx wa wb wc m g q : Nat} (h : Pw x y s a b c wx wa wb wc) (hm : FIs .f64 m (fop .mul .f64 (val .f64 wa) (val .f64 wb))) (hg : FIs .f64 g (gapV (val .f64 m) (val .f64 wc)))
    (hq : FIs .f64 q (fop .mul .f64 (val .f64 4562254508917369340) (val .f64 wc))) : (FloatKind.f64.format.order g q == some .lt) = true := by
  rw [order_val, hg.out, hq.out, hm.out, h.va, h.vb, h.vc, val_001]
  exact h.nea

set_option maxHeartbeats 1000000 in
theorem fnPowers_walk (W : World) (A0 : Option Addr) (n0 c0 : Nat) (f0 : Nat → Int) (hnc0 : n0 ≤ c0) (hcm0 : c0 ≤ maxLen) (hr0 : Row W W.heap.size A0 n0 (fun j => .int .u8 (f0 j))) (hw0 : ∀ j, j < n0 → (Lit.int .u8 (f0 j)).wf = true)
    (A1 : Option Addr) (n1 c1 : Nat) (f1 : Nat → Int) (hnc1 : n1 ≤ c1) (hcm1 : c1 ≤ maxLen) (hr1 : Row W W.heap.size A1 n1 (fun j => .int .u8 (f1 j))) (hw1 : ∀ j, j < n1 → (Lit.int .u8 (f1 j)).wf = true) :
    Calls Try.prog 14 #[.slice A0 n0 c0, .slice A1 n1 c1] W fun e w' => e = .returned (.bool true) ∧ Below W.heap.size W w' := by
  by_cases hs : n0 ≤ 1048576 ∧ n1 ≤ 1048576
  · go_enter Try.func14, Try.ntmps14
    go_wp2_with fail
    refine (b10Long_short A0 n0 c0 A1 n1 c1 hs.1 hs.2 _).mono ?_
    rintro e w' ⟨rfl, rfl⟩
    go_wp2_with fail
    refine (b10At_zero A0 n0 c0 f0 65 (by omega) (by omega) (by omega) _ _ hr0 hw0).mono ?_
    rintro e w' ⟨⟨k, hk, rfl⟩, rfl⟩
    have hqk := xs_int k hk
    go_wp2_with (refine wpList_det rfl _ _ _ _ _ rfl rfl _ _ _ _ rfl rfl hqk ?_)
    refine (b10At_zero A1 n1 c1 f1 65 (by omega) (by omega) (by omega) _ _ hr1 hw1).mono ?_
    rintro e w' ⟨⟨l, hl, rfl⟩, rfl⟩
    have hql := xs_int l hl
    go_wp2_with (refine wpList_det rfl _ _ _ _ _ rfl rfl _ _ _ _ rfl rfl hql ?_)
    have HP := Lib.hid (pw_of k l hk hl)
    clear hqk hql hr0 hr1 hw0 hw1 hs
    generalize xs (k + 32) = x at *
    generalize xs (l + 32) = y at *
    generalize xs (k + l) = s at *
    generalize ex (k + 32) = a at *
    generalize ex (l + 32) = b at *
    generalize ex (k + l) = c at *
    generalize xy (k + 32) = wx at *
    generalize exw (k + 32) = wa at *
    generalize exw (l + 32) = wb at *
    generalize exw (k + l) = wc at *
    refine (HP.out.ea _).mono ?_
    rintro e w' ⟨rfl, m1, rfl⟩
    go_wp2_with fail
    refine (HP.out.eb _).mono ?_
    rintro e w' ⟨rfl, m2, rfl⟩
    have hsum := HP.out.sum
    go_wp2_with (refine wpList_det rfl _ _ _ _ _ rfl rfl _ _ _ _ rfl rfl hsum ?_)
    clear hsum
    refine (HP.out.ec _).mono ?_
    rintro e w' ⟨rfl, m3, rfl⟩
    go_wp2_with fail
    refine (implLogN_any a HP.out.al _).mono ?_
    rintro e w' ⟨v, m4, rfl, hv, rfl⟩
    have HV := Lib.hid hv
    clear hv
    have t1 : True := trivial
    go_wp2_with (first | (have _t := t1; refine wpList_wide rfl _ _ _ rfl (by kernel_rfl) (by kernel_rfl) _ rfl ?_; intro r1 n1 h1; clear t1) | (refine wpList_wide rfl _ _ _ rfl (by kernel_rfl) (by kernel_rfl) _ rfl ?_; intro r2 n2 h2; obtain rfl := FIs.word HP.out.xw h2; clear h2))
    have HR := Lib.hid h1
    clear h1
    refine (b10Gap_any _ _ _).mono ?_
    rintro e w' ⟨g1, m5, rfl, hg1, rfl⟩
    have hlt1 := pw_lt1 HP.out HV.out HR.out hg1
    clear hg1
    have t1 : True := trivial
    have t2 : True := trivial
    have t3 : True := trivial
    go_wp2_with (first
      | (have _t := t1; refine wpList_wide rfl _ _ _ rfl (by kernel_rfl) (by kernel_rfl) _ rfl ?_; intro r3 n3 h3; obtain rfl := FIs.word HP.out.aw h3; clear h3 t1)
      | (have _t := t2; refine wpList_wide rfl _ _ _ rfl (by kernel_rfl) (by kernel_rfl) _ rfl ?_; intro r3 n3 h3; obtain rfl := FIs.word HP.out.bw h3; clear h3 t2)
      | (have _t := t3; refine wpList_wide rfl _ _ _ rfl (by kernel_rfl) (by kernel_rfl) _ rfl ?_; intro r3 n3 h3; obtain rfl := FIs.word HP.out.cw h3; clear h3 t3)
      | (refine wpList_fop rfl _ _ _ _ _ rfl rfl _ _ _ rfl rfl ?_; intro mw nm hm))
    have HM := Lib.hid hm
    clear hm
    refine (b10Gap_any _ _ _).mono ?_
    rintro e w' ⟨g2, m6, rfl, hg2, rfl⟩
    have HG := Lib.hid hg2
    clear hg2
    have hpos := HP.out.pos
    go_wp2_with (first
      | (refine wpList_wide rfl _ _ _ rfl (by kernel_rfl) (by kernel_rfl) _ rfl ?_; intro r3 n3 h3; obtain rfl := FIs.word HP.out.cw h3; clear h3)
      | (refine wpList_fop rfl _ _ _ _ _ rfl rfl _ _ _ rfl rfl ?_; intro bw nb hb; have hlt2 := pw_lt2 HP.out HM.out HG.out hb; clear hb))
    refine (HP.out.eo _).mono ?_
    rintro e w' ⟨rfl, m7, rfl⟩
    have hone := one_eq
    go_wp2_with fail
    refine (implLogN_any 1065353216 (by omega) _).mono ?_
    rw [log_one]
    rintro e w' ⟨z, m8, rfl, hz, rfl⟩
    obtain rfl := (val_eq_some hz.out).1
    have hzero := zero_eq
    go_wp2_with fail
    go_ret
    refine ⟨rfl, ?_⟩
    repeat' first | exact Below.refl _ _ | apply below_drewN
  · go_enter Try.func14, Try.ntmps14
    go_wp2_with fail
    refine (b10Long_long A0 n0 c0 A1 n1 c1 hs _).mono ?_
    rintro e w' ⟨rfl, rfl⟩
    go_wp2_with fail
    go_ret
    exact ⟨rfl, Below.refl _ _⟩
end Go.Proofs.Ytecglaggmheokaa
