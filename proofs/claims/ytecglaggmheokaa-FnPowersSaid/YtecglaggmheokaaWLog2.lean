/- The logarithm of the program: its contract at positive numbers. -/
import Derived.Test.YtecglaggmheokaaWLog
set_option linter.unusedVariables false
set_option linter.unusedSimpArgs false
namespace Go.Proofs.Ytecglaggmheokaa
open Go.RowKit near

theorem fl_zero : fl 0 = 0 := by decide +kernel
theorem dec_run (P : Program) (e : Nat) (h : e < 200) (W : World) : (binOp .sub 26 (.float .f64 (fl (-(e : Int)))) (.float .f64 4607182418800017408)).run P W = .ok (.float .f64 (fl (-((e + 1 : Nat) : Int)))) W := by
  have := run_float_arith (P := P) W .sub 26 .f64 _ _ _ (fl_dec e h)
  rw [show -(e : Int) - 1 = -((e + 1 : Nat) : Int) by omega] at this
  exact this
theorem inc_run (P : Program) (k : Int) (h0 : 0 ≤ k) (h : k < 200) (W : World) : (binOp .add 26 (.float .f64 (fl k)) (.float .f64 4607182418800017408)).run P W = .ok (.float .f64 (fl (k + 1))) W := by
  obtain ⟨n, rfl⟩ := Int.eq_ofNat_of_zero_le h0
  exact run_float_arith (P := P) W .add 26 .f64 _ _ _ (fl_inc n (by omega))
theorem kstep_run (P : Program) (j : Nat) (h : j < 13) (W : World) : (binOp .sub 26 (.float .f64 (fl (25 - 2 * (j : Int)))) (.float .f64 4611686018427387904)).run P W = .ok (.float .f64 (fl (25 - 2 * ((j + 1 : Nat) : Int)))) W :=
  run_float_arith (P := P) W .sub 26 .f64 _ _ _ (k_step j h)

/-- y doubled e times. -/
def Upw (y y1 e : Nat) : Prop := y1 = y + e * 4503599627370496 ∧ (e = 0 ∨ y1 < 4609434218613702656)
theorem Upw.step {y y1 e : Nat} (h : Upw y y1 e) (h1 : y1 < 4604930618986332160) : ∃ y2, y2 = y1 + 4503599627370496 ∧ Upw y y2 (e + 1) := by
  refine ⟨_, rfl, ?_, .inr (by omega)⟩
  have := h.1
  rw [Nat.add_mul]
  omega

/-- Which round the counter 25, 23, .. tells. -/
def j_of (v : Value) : Nat := ((List.range 14).find? fun (j : Nat) => bitsOf v == fl (25 - 2 * ((j : Nat) : Int))).getD 13
theorem j_of_all : ∀ j : Nat, j < 14 → j_of (.float .f64 (fl (25 - 2 * (j : Int)))) = j := by decide +kernel
theorem j_lt (j : Nat) (h : j < 13) : 13 - j_of (.float .f64 (fl (25 - 2 * ((j + 1 : Nat) : Int)))) < 13 - j_of (.float .f64 (fl (25 - 2 * (j : Int)))) := by
  rw [j_of_all _ (by omega), j_of_all _ (by omega)]; omega

set_option maxHeartbeats 2000000 in
theorem implLog_pos (y : Nat) (hm : Mid y) (w : World) : Calls Try.prog 61 #[.float .f64 y] w fun e w' => RetF .f64 (logV y) w e w' := by
  have HM := Lib.hid hm
  clear hm
  go_enter Try.func61, Try.ntmps61
  go_wp2_with fail
  go_loop [0, 3] (fun v i => ∃ y1 e : Nat, v = .float .f64 y1 ∧ i = .float .f64 (fl (-(e : Int))) ∧ e < 200 ∧ Upw y y1 e) (fun v _ => 4609434218613702656 - bitsOf v)
  case atStart => exact ⟨y, 0, rfl, by rw [show -((0 : Nat) : Int) = 0 from rfl, fl_zero], by omega, ⟨by omega, .inl rfl⟩⟩
  case round =>
    obtain ⟨y1, e, rfl, rfl, he, hup⟩ := hrel
    have HD := Lib.hid hup
    have Hy := Lib.hid (show y1 < 1160 * 4503599627370496 by
      have := HM.out.hi
      rcases hup.2 with h0 | h0
      · have := hup.1; subst h0; omega
      · omega)
    have Hlo := Lib.hid (show 870 * 4503599627370496 ≤ y1 by have := HM.out.lo; have := hup.1; omega)
    clear hup
    by_cases h075 : y1 < 4604930618986332160
    · have ht : (FloatKind.f64.format.order y1 4604930618986332160 == some .lt) = true := by
        rw [lt_pos (by omega) (by omega), decide_eq_true h075]
      obtain ⟨y2, hy2, hd2⟩ := HD.out.step h075
      have HE := Lib.hid (show e + 1 < 200 by have := hd2.1; have := HM.out.lo; omega)
      have hq := run_float_arith (P := Try.prog) (op := .mul) (t := 26) (k := .f64) (h := double_of (t := 4611686018427387904) two_read hy2 (by have := Hlo.out; omega) (by omega))
      have hdec := dec_run Try.prog e he
      have H2 := Lib.hid hd2
      have Hlt := Lib.hid (show 4609434218613702656 - y2 < 4609434218613702656 - y1 by omega)
      clear h075 hy2 hd2
      go_wp2_with fail
      go_round
      case rel => exact ⟨y2, e + 1, rfl, rfl, HE.out, H2.out⟩
      case measure => exact Hlt.out
    · have ht : (FloatKind.f64.format.order y1 4604930618986332160 == some .lt) = false := by
        have := Hy.out
        rw [lt_pos (by omega) (by omega), decide_eq_false h075]
      have HN := Lib.hid (show Norm y y1 (-(e : Int)) ∧ 4604930618986332160 ≤ y1 ∧ y1 < 1160 * 4503599627370496 ∧ (4609434218613702656 ≤ y1 → (0 : Int) ≤ -(e : Int)) by
        refine ⟨?_, by omega, Hy.out, fun h => ?_⟩
        · have := HD.out.1; unfold Norm; rw [Int.neg_mul]; omega
        · rcases HD.out.2 with h0 | h0
          · omega
          · omega)
      have He := Lib.hid he
      clear h075 he
      go_wp2_with fail
      clear ht
      go_loop [0, 3] (fun v i => ∃ (y3 : Nat) (k : Int), v = .float .f64 y3 ∧ i = .float .f64 (fl k) ∧ Hid (Norm y y3 k ∧ 4604930618986332160 ≤ y3 ∧ y3 < 1160 * 4503599627370496 ∧ (4609434218613702656 ≤ y3 → 0 ≤ k))) (fun v _ => bitsOf v)
      case atStart => exact ⟨y1, _, rfl, rfl, HN⟩
      case round =>
        obtain ⟨y3, k, rfl, rfl, hb⟩ := hrel
        by_cases h15 : 4609434218613702656 ≤ y3
        · have ht : (FloatKind.f64.format.order y3 4609434218613702656 == some .gt || FloatKind.f64.format.order y3 4609434218613702656 == some .eq) = true := by
            have := hb.out.2.2.1
            rw [ge_pos (by omega) (by omega), decide_eq_true h15]
          obtain ⟨y4, hy4⟩ : ∃ y4, y4 + 4503599627370496 = y3 := ⟨y3 - 4503599627370496, by omega⟩
          have hk : 0 ≤ k ∧ k < 199 := by
            refine ⟨hb.out.2.2.2 h15, ?_⟩
            have h1 := hb.out.1
            have h2 := HM.out.hi
            unfold Norm at h1
            omega
          have hq := run_float_arith (P := Try.prog) (op := .quo) (t := 26) (k := .f64) (h := halve_of (t := 4611686018427387904) two_read hy4 (by omega) (by have := hb.out.2.2.1; omega))
          have hinc := inc_run Try.prog k hk.1 (by omega)
          have H4 := Lib.hid (show Norm y y4 (k + 1) ∧ 4604930618986332160 ≤ y4 ∧ y4 < 1160 * 4503599627370496 ∧ (4609434218613702656 ≤ y4 → 0 ≤ k + 1) by
            have h1 := hb.out.1.dn hy4
            have h2 := hb.out.2.2.1
            exact ⟨h1, by omega, by omega, fun _ => by omega⟩)
          have Hlt := Lib.hid (show y4 < y3 by omega)
          clear h15 hy4 hk
          go_wp2_with fail
          go_round
          case rel => exact ⟨y4, k + 1, rfl, rfl, H4⟩
          case measure => exact Hlt.out
        · have ht : (FloatKind.f64.format.order y3 4609434218613702656 == some .gt || FloatKind.f64.format.order y3 4609434218613702656 == some .eq) = false := by
            have := hb.out.2.2.1
            rw [ge_pos (by omega) (by omega), decide_eq_false h15]
          have HU := Lib.hid (log_unique hb.out.1 hb.out.2.1 (by omega))
          have HV := Lib.hid (show val .f64 y3 = some y3 by
            refine val_some ?_
            rw [decode_isNaN, decide_eq_false_iff_not, sw64, inf64]
            omega)
          have HE := Lib.hid (show -200 ≤ k ∧ k < 200 by
            have h1 := hb.out.1
            have h2 := hb.out.2.1
            have h3 := HM.out.hi
            have h4 := HM.out.lo
            unfold Norm at h1
            omega)
          have hk0 : fl (25 - 2 * ((0 : Nat) : Int)) = 4627730092099895296 := by decide +kernel
          have HK0 := Lib.hid hk0
          clear h15 hb hk0
          have t1 : True := trivial; have t2 : True := trivial; have t3 : True := trivial; have t4 : True := trivial
          go_wp2_with (first | (have _t := t1; refine wpList_fop rfl _ _ _ _ _ rfl rfl _ _ _ rfl rfl ?_; intro r1 n1 h1; clear t1) | (have _t := t2; refine wpList_fop rfl _ _ _ _ _ rfl rfl _ _ _ rfl rfl ?_; intro r2 n2 h2; clear t2) | (have _t := t3; refine wpList_fop rfl _ _ _ _ _ rfl rfl _ _ _ rfl rfl ?_; intro r3 n3 h3; clear t3) | (have _t := t4; refine wpList_fop rfl _ _ _ _ _ rfl rfl _ _ _ rfl rfl ?_; intro r4 n4 h4; clear t4))
          clear ht
          have HS := Lib.hid (logS_of HV.out h1 h2 h3)
          have HU2 : Hid (val .f64 r4 = fop .mul .f64 (logS (some y3)) (logS (some y3))) := by
            have := h4.out
            rw [HS.out.out] at this
            exact Lib.hid this
          clear h1 h2 h3 h4
          generalize hU : fop .mul .f64 (logS (some y3)) (logS (some y3)) = U at HU2
          have HUe := Lib.hid hU
          clear hU
          go_loopw [6, 7] (fun v i wr => ∃ (q j m : Nat), v = .float .f64 q ∧ i = .float .f64 (fl (25 - 2 * (j : Int))) ∧ j ≤ 13 ∧ FIs .f64 q (logQ U j) ∧ wr = w.drewN m) (fun _ i _ => 13 - j_of i)
          case atStart => exact ⟨0, 0, _, rfl, by rw [HK0.out], by omega, FIs.mk val_zero64 (by decide), rfl⟩
          case round =>
            obtain ⟨q, j, m, rfl, rfl, hj, hq, rfl⟩ := hrel
            by_cases hj13 : j < 13
            · have hge := k_ge j hj13
              have hks := kstep_run Try.prog j hj13
              have Hj := Lib.hid (j_lt j hj13)
              have t1 : True := trivial; have t2 : True := trivial; have t3 : True := trivial
              go_wp2_with (first | (have _t := t1; refine wpList_fop rfl _ _ _ _ _ rfl rfl _ _ _ rfl rfl ?_; intro r1 n1 h1; clear t1) | (have _t := t2; refine wpList_fop rfl _ _ _ _ _ rfl rfl _ _ _ rfl rfl ?_; intro r2 n2 h2; clear t2) | (have _t := t3; refine wpList_fop rfl _ _ _ _ _ rfl rfl _ _ _ rfl rfl ?_; intro r3 n3 h3; clear t3))
              have hstep := Lib.hid (logQ_step hj13 HU2.out hq h1 h2 h3)
              go_roundw
              case rel => exact ⟨_, j + 1, _, rfl, rfl, by omega, hstep.out, rfl⟩
              case measure => exact Hj.out
            · obtain rfl : j = 13 := by omega
              have hge := k_end
              have t1 : True := trivial; have t2 : True := trivial; have t3 : True := trivial; have t4 : True := trivial
              go_wp2_with (first | (have _t := t1; refine wpList_fop rfl _ _ _ _ _ rfl rfl _ _ _ rfl rfl ?_; intro r1 n1 h1; clear t1) | (have _t := t2; refine wpList_fop rfl _ _ _ _ _ rfl rfl _ _ _ rfl rfl ?_; intro r2 n2 h2; clear t2) | (have _t := t3; refine wpList_fop rfl _ _ _ _ _ rfl rfl _ _ _ rfl rfl ?_; intro r3 n3 h3; clear t3) | (have _t := t4; refine wpList_fop rfl _ _ _ _ _ rfl rfl _ _ _ rfl rfl ?_; intro r4 n4 h4; clear t4))
              go_ret
              have hq' := hq
              rw [← HUe.out] at hq'
              refine ⟨_, _, rfl, ?_, rfl⟩
              obtain ⟨ek, ez⟩ := HU.out
              have := logTail_of HE.out.1 HE.out.2 HS.out.out hq' h1 h2 h3 h4
              unfold logV
              rw [← ek, ← ez]
              exact this
end Go.Proofs.Ytecglaggmheokaa
