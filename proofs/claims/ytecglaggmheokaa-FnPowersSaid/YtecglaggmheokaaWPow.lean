/- Powers: the program's exponential at eighths. -/
import Derived.Test.YtecglaggmheokaaFPow
import Derived.Test.YtecglaggmheokaaOpenB
import Derived.Test.YtecglaggmheokaaWSine
import Derived.Test.YtecglaggmheokaaWAng2
set_option linter.unusedVariables false
set_option linter.unusedSimpArgs false
namespace Go.Proofs.Ytecglaggmheokaa
open Ieee Go.RowKit near

def kOf (v : Value) : Nat := ((List.range 13).find? fun (j : Nat) => (match v with | .float _ b => b | _ => 0) == fl (12 - ((j : Nat) : Int))).getD 12
theorem kOf_all : ∀ j : Nat, j < 13 → kOf (.float .f64 (fl (12 - (j : Int)))) = j := by decide +kernel
theorem kOf_lt (j : Nat) (h : j < 12) : 12 - kOf (.float .f64 (fl (12 - ((j + 1 : Nat) : Int)))) < 12 - kOf (.float .f64 (fl (12 - (j : Int)))) := by
  rw [kOf_all _ (by omega), kOf_all _ (by omega)]; omega
theorem eP_step {p t : Nat} {T : Option Nat} {j a b c : Nat} (hj : j < 12) (ht : FIs .f64 t T) (hp : FIs .f64 p (eP T j)) (ha : FIs .f64 a (fop .mul .f64 (val .f64 t) (val .f64 p)))
    (hb : FIs .f64 b (fop .quo .f64 (val .f64 a) (val .f64 (fl (12 - (j : Int)))))) (hc : FIs .f64 c (fop .add .f64 (val .f64 4607182418800017408) (val .f64 b))) : FIs .f64 c (eP T (j + 1)) := by
  rw [hb.out, ha.out, ht.out, hp.out, e_val j (by omega), val_one64] at hc
  exact hc
theorem eQ_step {p : Nat} {P : Option Nat} {j a : Nat} (hp : FIs .f64 p (eQ P j)) (ha : FIs .f64 a (fop .mul .f64 (val .f64 p) (val .f64 p))) : FIs .f64 a (eQ P (j + 1)) := by
  rw [hp.out] at ha
  exact ha

theorem implExpo_any (y : Nat) (h200 : (FloatKind.f64.format.order y 4641240890982006784 == some .gt) = false) (hm200 : (FloatKind.f64.format.order y 13864612927836782592 == some .lt) = false) (w : World) :
    Calls Try.prog 63 #[.float .f64 y] w fun e w' => RetF .f64 (expV (val .f64 y)) w e w' := by
  go_enter Try.func63, Try.ntmps63
  have t1 : True := trivial
  go_wp2_with (first | (have _t := t1; refine wpList_fop rfl _ _ _ _ _ rfl rfl _ _ _ rfl rfl ?_; intro r1 n1 h1; clear t1))
  rw [val_256] at h1
  have HT := Lib.hid h1
  clear h1 h200 hm200
  go_loopw [4, 5] (fun v i wr => ∃ (p j m : Nat), v = .float .f64 p ∧ i = .float .f64 (fl (12 - (j : Int))) ∧ j ≤ 12 ∧ FIs .f64 p (eP (fop .quo .f64 (val .f64 y) (some 4643211215818981376)) j) ∧ wr = w.drewN m) (fun _ i _ => 12 - kOf i)
  case atStart => exact ⟨_, 0, _, rfl, by rw [e_start], by omega, FIs.mk val_one64 (by decide), rfl⟩
  case round =>
    obtain ⟨p, j, m, rfl, rfl, hj, hp, rfl⟩ := hrel
    have HP := Lib.hid hp
    clear hp
    by_cases hj12 : j < 12
    · have hge := e_ge j hj12
      have hdec := run_float_arith (P := Try.prog) (op := .sub) (t := 26) (k := .f64) (h := e_dec j hj12)
      have Hj := Lib.hid (kOf_lt j hj12)
      have t1 : True := trivial; have t2 : True := trivial; have t3 : True := trivial
      go_wp2_with (first | (have _t := t1; refine wpList_fop rfl _ _ _ _ _ rfl rfl _ _ _ rfl rfl ?_; intro r1 n1 h1; clear t1) | (have _t := t2; refine wpList_fop rfl _ _ _ _ _ rfl rfl _ _ _ rfl rfl ?_; intro r2 n2 h2; clear t2) | (have _t := t3; refine wpList_fop rfl _ _ _ _ _ rfl rfl _ _ _ rfl rfl ?_; intro r3 n3 h3; clear t3))
      have hstep := Lib.hid (eP_step hj12 HT.out HP.out h1 h2 h3)
      clear h1 h2 h3
      go_roundw
      case rel => exact ⟨_, j + 1, _, rfl, rfl, by omega, hstep.out, rfl⟩
      case measure => exact Hj.out
    · obtain rfl : j = 12 := by omega
      clear hj12 hj
      have hge := e_end
      go_wp2_with fail
      go_loopw [4, 25] (fun v i wr => ∃ (q j m : Nat), v = .float .f64 q ∧ i = .int .i64 (j : Int) ∧ j ≤ 8 ∧ FIs .f64 q (eQ (eP (fop .quo .f64 (val .f64 y) (some 4643211215818981376)) 12) j) ∧ wr = w.drewN m) (fun _ i _ => 8 - (intOf i).toNat)
      case atStart => exact ⟨_, 0, _, rfl, rfl, by omega, HP.out, rfl⟩
      case round =>
        obtain ⟨q, j, m2, rfl, rfl, hj, hq, rfl⟩ := hrel
        have HQ := Lib.hid hq
        clear hq
        by_cases hj8 : j < 8
        · have t1 : True := trivial
          go_wp2_with (first | (have _t := t1; refine wpList_fop rfl _ _ _ _ _ rfl rfl _ _ _ rfl rfl ?_; intro r1 n1 h1; clear t1))
          have hstep := Lib.hid (eQ_step HQ.out h1)
          clear h1
          go_roundw
          case rel => exact ⟨_, _, _, _, _, _, _, ⟨_, j + 1, _, rfl, by go_num, by omega, hstep.out, rfl⟩, rfl⟩
          case measure => simp [intOf]; omega
        · obtain rfl : j = 8 := by omega
          go_wp2_with fail
          go_ret
          exact ⟨_, _, rfl, HQ.out, rfl⟩
theorem implExp_at (n : Nat) (hn : n < 129) (w : World) :
    Calls Try.prog 31 #[.float .f32 (xs n)] w fun e w' => e = .returned (.float .f32 (ex n)) ∧ ∃ m, w' = w.drewN m := by
  have HX := Lib.hid (xs_wide n hn)
  have HT := Lib.hid (And.intro (xy_top n hn) (xy_low n hn))
  have HV := Lib.hid (And.intro (xy_val n hn) (And.intro (ex_fits n hn) (ex_val n hn)))
  generalize xs n = x at *
  generalize ex n = z at *
  generalize xy n = y at *
  clear hn
  go_enter Try.func31, Try.ntmps31
  go_wp2_with (refine wpList_wide rfl _ _ _ rfl (by kernel_rfl) (by kernel_rfl) _ rfl ?_; intro r1 n1 hr1)
  obtain rfl := FIs.word HX.out hr1
  clear hr1
  refine (implExpo_any _ HT.out.1 HT.out.2 _).mono ?_
  rw [HV.out.1]
  rintro e w' ⟨r, m, rfl, hr, rfl⟩
  have HR := Lib.hid hr
  clear hr
  go_wp2_with (refine wpList_narrow rfl _ _ _ rfl (by kernel_rfl) (by kernel_rfl) _ rfl (by rw [HR.out.out]; exact HV.out.2.1) ?_; intro r9 n9 h9)
  rw [HR.out.out, HV.out.2.2] at h9
  go_ret
  have hw := (val_eq_some h9.out).1
  subst hw
  exact ⟨rfl, _, rfl⟩
theorem b10Gap_any (a b : Nat) (w : World) : Calls Try.prog 43 #[.float .f64 a, .float .f64 b] w fun e w' => RetF .f64 (gapV (val .f64 a) (val .f64 b)) w e w' := by
  unfold gapV
  rw [← order_val]
  cases h : (FloatKind.f64.format.order a b == some .lt) with
  | true =>
    go_enter Try.func43, Try.ntmps43
    have t1 : True := trivial
    go_wp2_with (first | (have _t := t1; refine wpList_fop rfl _ _ _ _ _ rfl rfl _ _ _ rfl rfl ?_; intro r1 n1 h1; clear t1))
    go_ret
    exact ⟨_, _, rfl, h1, rfl⟩
  | false =>
    go_enter Try.func43, Try.ntmps43
    have t1 : True := trivial
    go_wp2_with (first | (have _t := t1; refine wpList_fop rfl _ _ _ _ _ rfl rfl _ _ _ rfl rfl ?_; intro r1 n1 h1; clear t1))
    go_ret
    exact ⟨_, _, rfl, h1, rfl⟩
end Go.Proofs.Ytecglaggmheokaa
