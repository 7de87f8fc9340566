/- The logarithm of the reference: its contract at positive numbers. -/
import Derived.Test.YtecglaggmheokaaWRootN
import Derived.Test.YtecglaggmheokaaFLog
set_option linter.unusedVariables false
set_option linter.unusedSimpArgs false
namespace Go.Proofs.Ytecglaggmheokaa
open Go.RowKit near

def bitsOf : Value → Nat | .float _ b => b | _ => 0

/-- A number y that has been halved e times. -/
def Down (y y1 e : Nat) : Prop := y1 + e * 4503599627370496 = y ∧ (e = 0 ∨ 4604930618986332160 ≤ y1)
theorem Down.start (y : Nat) : Down y y 0 := ⟨by omega, .inl rfl⟩
theorem Down.step {y y1 e : Nat} (h : Down y y1 e) (h1 : 4609434218613702656 ≤ y1) : ∃ y2, y2 + 4503599627370496 = y1 ∧ Down y y2 (e + 1) := by
  refine ⟨y1 - 4503599627370496, by omega, ?_, .inr (by omega)⟩
  have := h.1
  rw [Nat.add_mul]
  omega
/-- y over 2^e is y1. -/
def Norm (y y1 : Nat) (e : Int) : Prop := (y1 : Int) = y - e * 4503599627370496
theorem Down.norm {y y1 e : Nat} (h : Down y y1 e) : Norm y y1 e := by have := h.1; unfold Norm; omega
theorem Norm.up {y y1 : Nat} {e : Int} (h : Norm y y1 e) : Norm y (y1 + 4503599627370496) (e - 1) := by
  unfold Norm at *
  rw [Int.sub_mul]; omega
theorem Norm.dn {y y1 y2 : Nat} {e : Int} (h : Norm y y1 e) (h2 : y2 + 4503599627370496 = y1) : Norm y y2 (e + 1) := by
  unfold Norm at *
  rw [Int.add_mul]; omega

/-- What a positive float64 of a middle size is: facts that a walk needs of it. -/
structure Mid (y : Nat) : Prop where
  lo : 870 * 4503599627370496 ≤ y
  hi : y < 1160 * 4503599627370496

theorem order_y {y c : Nat} (hy : y < 1160 * 4503599627370496) (hc : c ≤ 2047 * 4503599627370496) : FloatKind.f64.format.order y c = some (if y < c then .lt else if y = c then .eq else .gt) := order_pos (by omega) hc
theorem Mid.self {y : Nat} (h : Mid y) : (FloatKind.f64.format.order y y != some .eq) = false := by
  rw [order_y h.hi (by have := h.hi; omega), if_neg (by omega), if_pos rfl]; rfl
theorem Mid.lt0 {y : Nat} (h : Mid y) : (FloatKind.f64.format.order y 0 == some .lt) = false := by
  rw [order_y h.hi (by omega), if_neg (by omega)]; split <;> rfl
theorem Mid.eq0 {y : Nat} (h : Mid y) : (FloatKind.f64.format.order y 0 == some .eq) = false := by
  have := h.lo
  rw [order_y h.hi (by omega), if_neg (by omega), if_neg (by omega)]; rfl
theorem Mid.max {y : Nat} (h : Mid y) : (FloatKind.f64.format.order y 9218868437227405311 == some .gt) = false := by
  have := h.hi
  rw [order_y h.hi (by omega), if_pos (by omega)]; rfl
theorem Mid.val {y : Nat} (h : Mid y) : val .f64 y = some y := by
  refine val_some ?_
  have := h.hi
  rw [decode_isNaN, decide_eq_false_iff_not, sw64, inf64]
  omega

theorem logS_of {z a b s : Nat} (hz : val .f64 z = some z) (ha : FIs .f64 a (fop .sub .f64 (val .f64 z) (val .f64 4607182418800017408))) (hb : FIs .f64 b (fop .add .f64 (val .f64 z) (val .f64 4607182418800017408)))
    (hs : FIs .f64 s (fop .quo .f64 (val .f64 a) (val .f64 b))) : FIs .f64 s (logS (some z)) := by
  rw [ha.out, hb.out, hz, val_one64] at hs; exact hs

theorem logQ_step {u q a b c : Nat} {U : Option Nat} {j : Nat} (hj : j < 13) (hu : val .f64 u = U) (hq : FIs .f64 q (logQ U j))
    (ha : FIs .f64 a (fop .quo .f64 (val .f64 4607182418800017408) (val .f64 (fl (25 - 2 * (j : Int)))))) (hb : FIs .f64 b (fop .mul .f64 (val .f64 u) (val .f64 q)))
    (hc : FIs .f64 c (fop .add .f64 (val .f64 a) (val .f64 b))) : FIs .f64 c (logQ U (j + 1)) := by
  rw [ha.out, hb.out, hu, hq.out, val_one64, k_val j (by omega)] at hc
  exact hc

theorem logTail_of {s q a b c d : Nat} {S : Option Nat} {e : Int} (he : -200 ≤ e) (he2 : e < 200) (hs : val .f64 s = S) (hq : FIs .f64 q (logQ (fop .mul .f64 S S) 13))
    (ha : FIs .f64 a (fop .mul .f64 (val .f64 s) (val .f64 q))) (hb : FIs .f64 b (fop .mul .f64 (val .f64 4611686018427387904) (val .f64 a)))
    (hc : FIs .f64 c (fop .mul .f64 (val .f64 (fl e)) (val .f64 4604418534313441775))) (hd : FIs .f64 d (fop .add .f64 (val .f64 b) (val .f64 c))) : FIs .f64 d (logTail S e) := by
  have h1 : val .f64 (fl e) = some (fl e) := by
    have := val_fl_small (e + 200).toNat (by omega)
    rw [show (((e + 200).toNat : Nat) : Int) - 200 = e by omega] at this
    exact this
  have h2 : val .f64 4604418534313441775 = some 4604418534313441775 := by decide +kernel
  rw [hb.out, hc.out, ha.out, hs, hq.out, val_two64, h1, h2] at hd
  exact hd

theorem isInf_no (y : Nat) (h : (FloatKind.f64.format.order y 9218868437227405311 == some .gt) = false) (w : World) : Calls Try.prog 92 #[.float .f64 y, .int .i64 1] w fun e w' => e = .returned (.bool false) ∧ w = w' := by
  go_enter Try.func92, Try.ntmps92
  go_wp2_with fail
  go_ret
  exact ⟨rfl, rfl⟩
set_option maxHeartbeats 2000000 in
theorem l01LogWide_pos (y : Nat) (hm : Mid y) (w : World) : Calls Try.prog 81 #[.float .f64 y] w fun e w' => RetF .f64 (logV y) w e w' := by
  have hself := hm.self
  have hlt0 := hm.lt0
  have heq0 := hm.eq0
  have hmx := Lib.hid hm.max
  have HM := Lib.hid hm
  clear hm
  go_enter Try.func81, Try.ntmps81
  go_wp2_with (go_at_call 92; refine (isInf_no y hmx.out _).mono ?_; rintro e w' ⟨rfl, rfl⟩)
  clear hself hlt0 heq0 hmx
  go_loop [0, 3] (fun v i => ∃ y1 e : Nat, v = .float .f64 y1 ∧ i = .int .i64 e ∧ e ≤ 1160 ∧ Down y y1 e) (fun v _ => bitsOf v)
  case atStart => exact ⟨y, 0, rfl, rfl, by omega, Down.start y⟩
  case round =>
    obtain ⟨y1, e, rfl, rfl, he, hdown⟩ := hrel
    have HD := Lib.hid hdown
    have Hy := Lib.hid (show y1 < 1160 * 4503599627370496 by have := HM.out.hi; have := hdown.1; omega)
    clear hdown
    by_cases h15 : 4609434218613702656 ≤ y1
    · have ht : (FloatKind.f64.format.order y1 4609434218613702656 == some .gt || FloatKind.f64.format.order y1 4609434218613702656 == some .eq) = true := by
        have := Hy.out
        rw [ge_pos (by omega) (by omega), decide_eq_true h15]
      obtain ⟨y2, hy2, hd2⟩ := HD.out.step h15
      have hq := run_float_arith (P := Try.prog) (op := .quo) (t := 26) (k := .f64) (h := halve_of (t := 4611686018427387904) two_read hy2 (by omega) (by have := Hy.out; omega))
      have HE := Lib.hid (show e + 1 ≤ 1160 by have := hd2.1; have := HM.out.hi; omega)
      have H2 := Lib.hid hd2
      have Hlt := Lib.hid (show y2 < y1 by omega)
      clear h15 hy2 hd2
      go_wp2_with fail
      go_round
      case rel => exact ⟨y2, e + 1, rfl, by go_num, HE.out, H2.out⟩
      case measure => exact Hlt.out
    · have ht : (FloatKind.f64.format.order y1 4609434218613702656 == some .gt || FloatKind.f64.format.order y1 4609434218613702656 == some .eq) = false := by
        have := Hy.out
        rw [ge_pos (by omega) (by omega), decide_eq_false h15]
      have HN := Lib.hid (show Norm y y1 e ∧ y1 < 4609434218613702656 ∧ 870 * 4503599627370496 ≤ y1 by
        refine ⟨HD.out.norm, by omega, ?_⟩
        have := HM.out.lo
        rcases HD.out.2 with h0 | h0
        · have := HD.out.1; subst h0; omega
        · omega)
      clear h15
      go_wp2_with fail
      clear ht
      go_loop [0, 3] (fun v i => ∃ (y3 : Nat) (k : Int), v = .float .f64 y3 ∧ i = .int .i64 k ∧ -2000 ≤ k ∧ k ≤ 2000 ∧ Norm y y3 k ∧ Hid (y3 < 4609434218613702656 ∧ 870 * 4503599627370496 ≤ y3)) (fun v _ => 4609434218613702656 - bitsOf v)
      case atStart => exact ⟨y1, e, rfl, rfl, by omega, by omega, HN.out.1, Lib.hid HN.out.2⟩
      case round =>
        obtain ⟨y3, k, rfl, rfl, hk1, hk2, hn, hb⟩ := hrel
        have HN3 := Lib.hid hn
        clear hn
        by_cases h075 : y3 < 4604930618986332160
        · have ht : (FloatKind.f64.format.order y3 4604930618986332160 == some .lt) = true := by
            rw [lt_pos (by omega) (by omega), decide_eq_true h075]
          obtain ⟨y4, hy4⟩ : ∃ y4, y4 = y3 + 4503599627370496 := ⟨_, rfl⟩
          have hq := run_float_arith (P := Try.prog) (op := .mul) (t := 26) (k := .f64) (h := double_of (t := 4611686018427387904) two_read hy4 (by have := hb.out; omega) (by omega))
          have H4 := Lib.hid (show (-2000 ≤ k - 1 ∧ k - 1 ≤ 2000) ∧ Norm y y4 (k - 1) ∧ (y4 < 4609434218613702656 ∧ 870 * 4503599627370496 ≤ y4) by
            have h1 := HN3.out.up
            rw [← hy4] at h1
            have h2 := hb.out
            have h3 := HM.out.hi
            have h4 := HM.out.lo
            refine ⟨?_, h1, by omega⟩
            unfold Norm at h1
            omega)
          have Hlt := Lib.hid (show 4609434218613702656 - y4 < 4609434218613702656 - y3 by omega)
          clear h075 hy4
          go_wp2_with fail
          go_round
          case rel => exact ⟨y4, k - 1, rfl, rfl, H4.out.1.1, H4.out.1.2, H4.out.2.1, Lib.hid H4.out.2.2⟩
          case measure => exact Hlt.out
        · have ht : (FloatKind.f64.format.order y3 4604930618986332160 == some .lt) = false := by
            have := hb.out
            rw [lt_pos (by omega) (by omega), decide_eq_false h075]
          have HU := Lib.hid (log_unique HN3.out (by omega) hb.out.1)
          have HV := Lib.hid (show val .f64 y3 = some y3 by
            refine val_some ?_
            have := hb.out
            rw [decode_isNaN, decide_eq_false_iff_not, sw64, inf64]
            omega)
          have HE := Lib.hid (show -200 ≤ k ∧ k < 200 by
            have h1 := HN3.out
            have h2 := hb.out
            have h3 := HM.out.hi
            have h4 := HM.out.lo
            unfold Norm at h1
            omega)
          clear h075 hb
          have t1 : True := trivial; have t2 : True := trivial; have t3 : True := trivial; have t4 : True := trivial
          go_wp2_with (first | (have _t := t1; refine wpList_fop rfl _ _ _ _ _ rfl rfl _ _ _ rfl rfl ?_; intro r1 n1 h1; clear t1) | (have _t := t2; refine wpList_fop rfl _ _ _ _ _ rfl rfl _ _ _ rfl rfl ?_; intro r2 n2 h2; clear t2) | (have _t := t3; refine wpList_fop rfl _ _ _ _ _ rfl rfl _ _ _ rfl rfl ?_; intro r3 n3 h3; clear t3) | (have _t := t4; refine wpList_fop rfl _ _ _ _ _ rfl rfl _ _ _ rfl rfl ?_; intro r4 n4 h4; clear t4))
          clear ht
          have HS := Lib.hid (logS_of HV.out h1 h2 h3)
          have HU2 : Hid (val .f64 r4 = fop .mul .f64 (logS (some y3)) (logS (some y3))) := by
            have := h4.out
            rw [HS.out.out] at this
            exact Lib.hid this
          clear h1 h2 h3 h4
          generalize hU : fop .mul .f64 (logS (some y3)) (logS (some y3)) = U at HU2
          have HUe := Lib.hid hU
          clear hU
          go_loopw [6, 7] (fun v i wr => ∃ (q j m : Nat), v = .float .f64 q ∧ i = .int .i64 (25 - 2 * (j : Int)) ∧ j ≤ 13 ∧ FIs .f64 q (logQ U j) ∧ wr = w.drewN m) (fun _ i _ => (intOf i + 2).toNat)
          case atStart => exact ⟨0, 0, _, rfl, rfl, by omega, FIs.mk val_zero64 (by decide), rfl⟩
          case round =>
            obtain ⟨q, j, m, rfl, rfl, hj, hq, rfl⟩ := hrel
            by_cases hj13 : j < 13
            · have t1 : True := trivial; have t2 : True := trivial; have t3 : True := trivial
              go_wp2_with (first | (have _t := t1; refine wpList_fop rfl _ _ _ _ _ rfl rfl _ _ _ rfl rfl ?_; intro r1 n1 h1; clear t1) | (have _t := t2; refine wpList_fop rfl _ _ _ _ _ rfl rfl _ _ _ rfl rfl ?_; intro r2 n2 h2; clear t2) | (have _t := t3; refine wpList_fop rfl _ _ _ _ _ rfl rfl _ _ _ rfl rfl ?_; intro r3 n3 h3; clear t3))
              have hstep := Lib.hid (logQ_step hj13 HU2.out hq h1 h2 h3)
              go_roundw
              case rel => exact ⟨_, j + 1, _, rfl, by go_num, by omega, hstep.out, rfl⟩
              case measure => simp [intOf]; omega
            · obtain rfl : j = 13 := by omega
              have t1 : True := trivial; have t2 : True := trivial; have t3 : True := trivial; have t4 : True := trivial
              go_wp2_with (first | (have _t := t1; refine wpList_fop rfl _ _ _ _ _ rfl rfl _ _ _ rfl rfl ?_; intro r1 n1 h1; clear t1) | (have _t := t2; refine wpList_fop rfl _ _ _ _ _ rfl rfl _ _ _ rfl rfl ?_; intro r2 n2 h2; clear t2) | (have _t := t3; refine wpList_fop rfl _ _ _ _ _ rfl rfl _ _ _ rfl rfl ?_; intro r3 n3 h3; clear t3) | (have _t := t4; refine wpList_fop rfl _ _ _ _ _ rfl rfl _ _ _ rfl rfl ?_; intro r4 n4 h4; clear t4))
              go_ret
              have hq' := hq
              rw [← HUe.out] at hq'
              refine ⟨_, _, rfl, ?_, rfl⟩
              obtain ⟨ek, ez⟩ := HU.out
              have := logTail_of HE.out.1 HE.out.2 HS.out.out hq' h1 h2 h3 h4
              unfold logV
              rw [← ek, ← ez]
              exact this
end Go.Proofs.Ytecglaggmheokaa
