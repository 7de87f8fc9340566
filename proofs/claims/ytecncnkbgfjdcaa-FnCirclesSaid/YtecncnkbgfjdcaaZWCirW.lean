/- FnCircles returns true: the walk. -/
import Derived.Test.YtecncnkbgfjdcaaZWCirL
set_option linter.unusedVariables false
set_option linter.unusedSimpArgs false
namespace Go.Proofs.Ytecncnkbgfjdcaa
open Ieee Go.RowKit near

/-- What is determined by the two numbers of eighths. -/
structure Tn (i j xi0 xj0 xi xj xm : Nat) (m n o : Int) : Prop where
  fi : FloatKind.f32.nearest (1 + (i : Int)) = xi0
  fj : FloatKind.f32.nearest (1 + (j : Int)) = xj0
  di : floatBits .quo .f32 xi0 1090519040 = some xi
  dj : floatBits .quo .f32 xj0 1090519040 = some xj
  dm : floatBits .mul .f32 xi xj = some xm
  ci : ∀ w : World, Calls Try.prog 22 #[.float .f32 xi] w (GivesIB m true w)
  cj : ∀ w : World, Calls Try.prog 22 #[.float .f32 xj] w (GivesIB n true w)
  cm : ∀ w : World, Calls Try.prog 22 #[.float .f32 xm] w (GivesIB o true w)
  one : ∀ w : World, Calls Try.prog 22 #[.float .f32 1065353216] w (GivesIB 0 true w)
  le1 : m + n - o ≤ 1
  le2 : o - m - n ≤ 1
  bm : -1000 ≤ m ∧ m ≤ 1000
  bn : -1000 ≤ n ∧ n ≤ 1000
  bo : -1000 ≤ o ∧ o ≤ 1000
theorem ten_bound {i j t F : Nat} {k : Int} (hi : i ≠ 0) (hj : j ≠ 0) (hi2 : i ≤ 200) (hj2 : j ≤ 200) (h : Ten (wd (i * j)) t F k) : -1000 ≤ k ∧ k ≤ 1000 := by
  have hij : i * j ≤ 200 * 200 := Nat.mul_le_mul hi2 hj2
  have hc := (pair_all rows_all hi hj hi2 hj2).chk
  obtain ⟨a1, a2, -⟩ := wd_e (n := i * j) (Nat.mul_ne_zero hi hj) (by omega)
  obtain ⟨r1, r2⟩ := ten_rel h hc a1 a2
  obtain ⟨_, -, -, hb⟩ := TT_nr (N := 1023) rfl rfl hc a1 a2
  generalize TI (LV (wd (i * j))) = T at *
  omega
theorem tn_ex (i j : Nat) (hi : i < 200) (hj : j < 200) : ∃ xi0 xj0 xi xj xm : Nat, ∃ m n o : Int, Tn i j xi0 xj0 xi xj xm m n o := by
  have hij : (i + 1) * (j + 1) ≤ 200 * 200 := Nat.mul_le_mul hi hj
  have h0 : (i + 1) * (j + 1) ≠ 0 := Nat.mul_ne_zero (by omega) (by omega)
  obtain ⟨t1, F1, m, T1, C1⟩ := ten_call ((i + 1) * 8) (by omega) (by omega)
  obtain ⟨t2, F2, n, T2, C2⟩ := ten_call ((j + 1) * 8) (by omega) (by omega)
  obtain ⟨t3, F3, o, T3, C3⟩ := ten_call ((i + 1) * (j + 1)) h0 (by omega)
  obtain ⟨t4, F4, z, T4, C4⟩ := ten_call 64 (by decide) (by decide)
  have hz := ten_one T4
  subst hz
  rw [one_lv.2.2] at C4
  obtain ⟨l1, l2⟩ := ten_pair rows_all (i := i + 1) (j := j + 1) (by omega) (by omega) (by omega) (by omega) T1 T2 T3
  have hm : floatBits .mul .f32 (w32 ((i + 1) * 8)) (w32 ((j + 1) * 8)) = some (w32 ((i + 1) * (j + 1))) :=
    Sx.mul (w32_sx (by omega) (by omega)) (w32_sx (by omega) (by omega)) (w32_sx h0 (by omega)) (by grind)
  exact ⟨_, _, _, _, _, m, n, o, rfl, rfl, eighth_all i hi, eighth_all j hj, hm, C1, C2, C3, C4, l1, l2,
    ten_bound (i := i + 1) (j := 8) (by omega) (by omega) (by omega) (by omega) T1, ten_bound (i := j + 1) (j := 8) (by omega) (by omega) (by omega) (by omega) T2,
    ten_bound (i := i + 1) (j := j + 1) (by omega) (by omega) (by omega) (by omega) T3⟩
theorem ang_one (w : World) : Calls Try.prog 17 #[.complex .f32 0 1065353216] w fun e w' => e = .returned (.float .f32 1048576000) ∧ Below w.heap.size w w' :=
  angOf_det (ang_det (by decide +kernel) (by decide +kernel) (by decide +kernel) (by decide +kernel) (by decide +kernel) ang_i) w

theorem det32_run {op : BinOp} {x y r : Nat} (h : floatBits op .f32 x y = some r) (W : World) : (binOp op 34 (.float .f32 x) (.float .f32 y)).run Try.prog W = .ok (.float .f32 r) W := run_float_arith W op 34 .f32 x y r h
theorem toInt_run {x : Nat} {n : Int} (h : floatToIntVal .f64 x .i64 = some n) (W : World) : (convert 39 2 (.float .f64 x)).run Try.prog W = .ok (.int .i64 n) W := run_convert_float_int W 39 2 .f64 .i64 x n (by kernel_rfl) (by kernel_rfl) h
set_option maxRecDepth 20000 in
set_option maxHeartbeats 6400000 in
theorem fnCircles_walk (W : World) (A0 : Option Addr) (n0 c0 : Nat) (f0 : Nat → Int) (hnc0 : n0 ≤ c0) (hcm0 : c0 ≤ maxLen) (hr0 : Row W W.heap.size A0 n0 (fun j => .int .u8 (f0 j))) (hw0 : ∀ j, j < n0 → (Lit.int .u8 (f0 j)).wf = true)
    (A1 : Option Addr) (n1 c1 : Nat) (f1 : Nat → Int) (hnc1 : n1 ≤ c1) (hcm1 : c1 ≤ maxLen) (hr1 : Row W W.heap.size A1 n1 (fun j => .int .u8 (f1 j))) (hw1 : ∀ j, j < n1 → (Lit.int .u8 (f1 j)).wf = true) :
    Calls Try.prog 4 #[.slice A0 n0 c0, .slice A1 n1 c1] W fun e w' => e = .returned (.bool true) ∧ Below W.heap.size W w' := by
  by_cases hs : n0 ≤ 1048576 ∧ n1 ≤ 1048576
  · go_enter Try.func4, Try.ntmps4
    go_wp2_with fail
    refine (b10Long_short A0 n0 c0 A1 n1 c1 hs.1 hs.2 _).mono ?_
    rintro e w' ⟨rfl, rfl⟩
    go_wp2_with fail
    refine (b10At_zero A0 n0 c0 f0 256 (by omega) (by omega) (by omega) _ _ hr0 hw0).mono ?_
    rintro e w' ⟨⟨a, ha, rfl⟩, rfl⟩
    go_wp2_with fail
    refine (b10At_one A0 n0 c0 f0 256 (by omega) (by omega) (by omega) _ _ hr0 hw0).mono ?_
    rintro e w' ⟨⟨b, hb, rfl⟩, rfl⟩
    have HR := Lib.hid (And.intro hr1 hw1)
    have HS := Lib.hid (show n1 ≤ maxLen by omega)
    clear hr0 hw0 hr1 hw1 hnc0 hcm0 hnc1 hcm1 hs
    obtain ⟨xfa, xfb, xfs, xa, xb, xs, pr, pi, qr, qi, rr, ri, an, x1, x2, x3, pw, gp, mr, mi, xw, g2, wh, hC⟩ := cir_ex a b ha hb
    have HC := Lib.hid hC
    have e1 : floatOfInt .f64 ((a : Int) - 128) = xfa := hC.fa
    have e2 : floatOfInt .f64 ((b : Int) - 128) = xfb := hC.fb
    have e3 : floatOfInt .f64 ((a : Int) - 128 + ((b : Int) - 128)) = xfs := hC.fs
    have d1 := @det_run _ _ _ _ hC.da
    have d2 := @det_run _ _ _ _ hC.db
    have d3 := @det_run _ _ _ _ hC.ds
    clear hC
    go_wp2_with fail
    refine (HC.out.cp _).mono ?_
    rintro e w' ⟨rfl, q1, rfl⟩
    go_wp2_with fail
    refine (HC.out.cq _).mono ?_
    rintro e w' ⟨rfl, q2, rfl⟩
    go_wp2_with fail
    refine (HC.out.cr _).mono ?_
    rintro e w' ⟨rfl, q3, rfl⟩
    go_wp2_with fail
    clear d1 d2 d3 e2 e3
    have hB0 : Below W.heap.size W (W.drewN (q1 + q2 + q3)) := below_drewN (Below.refl _ _) _
    generalize W.drewN (q1 + q2 + q3) = w0 at *
    refine (HC.out.ca _).mono ?_
    rintro e wa ⟨rfl, hba⟩
    have hB1 := hB0.trans (hba.mono hB0.size)
    clear hB0 hba
    have k1 := @wid_run _ HC.out.na
    have k2 := @det_run _ _ _ _ HC.out.t1
    have k3 := @det_run _ _ _ _ HC.out.t2
    have k4 := @det_run _ _ _ _ HC.out.t3
    have k5 := @toInt_run _ _ HC.out.t4
    go_wp2_with fail
    clear k1 k2 k3 k4 k5 e1
    refine (HC.out.cw _).mono ?_
    rintro e w' ⟨rfl, rfl⟩
    have k1 := @wid_run _ HC.out.np
    go_wp2_with fail
    clear k1
    refine (HC.out.cg _).mono ?_
    rintro e w' ⟨rfl, rfl⟩
    have k1 := HC.out.lg
    go_wp2_with fail
    clear k1
    refine (HC.out.cm _).mono ?_
    rintro e w' ⟨rfl, rfl⟩
    go_wp2_with fail
    refine (HC.out.cn _).mono ?_
    rintro e w' ⟨rfl, rfl⟩
    have k0 := HC.out.w0
    have k1 := HC.out.w1
    have e4 : floatOfInt .f64 (wh - 10000) = xw := HC.out.fw
    go_wp2_with fail
    clear e4
    refine (HC.out.c2 _).mono ?_
    rintro e w' ⟨rfl, rfl⟩
    have k2 := HC.out.l2
    have k3 := HC.out.rem
    by_cases h16 : a % 64 % 16 = 0
    · have k4 : Int.tmod ((a : Int) - 128) 16 = 0 := by have := HC.out.sixteen; rw [decide_eq_true h16] at this; exact of_decide_eq_true this
      obtain ⟨g3, cg3, hg3⟩ := HC.out.real h16
      have HG3 := Lib.hid cg3
      have k5 := @wid_run _ HC.out.nr
      clear h16 cg3
      rcases hg3 with hg3 | ⟨hg3, hg4⟩
      · go_wp2_with fail
        refine (HG3.out _).mono ?_
        rintro e w' ⟨rfl, rfl⟩
        go_wp2_with fail
        clear hg3 k0 k1 k2 k3 k4 k5 HG3
        refine (b10At_zero A1 n1 c1 f1 200 (by omega) (by omega) HS.out _ _ (HR.out.1.below hB1) HR.out.2).mono ?_
        rintro e w' ⟨⟨i, hi, rfl⟩, rfl⟩
        have d1 := @det32_run _ _ _ _ (eighth_all i hi)
        have f1' : floatOfInt .f32 (1 + (i : Int)) = FloatKind.f32.nearest (1 + (i : Int)) := rfl
        go_wp2_with fail
        clear d1 f1'
        refine (b10At_one A1 n1 c1 f1 200 (by omega) (by omega) HS.out _ _ (HR.out.1.below hB1) HR.out.2).mono ?_
        rintro e w' ⟨⟨j, hj, rfl⟩, rfl⟩
        obtain ⟨xi0, xj0, xi, xj, xm, m, n, o, hT⟩ := tn_ex i j hi hj
        have HT := Lib.hid hT
        have hxi : w32 ((i + 1) * 8) = xi := by have := hT.di; rw [← hT.fi, eighth_all i hi] at this; exact Option.some.inj this
        rw [hxi]
        have e2 : floatOfInt .f32 (1 + (j : Int)) = xj0 := hT.fj
        have d2 := @det32_run _ _ _ _ hT.dj
        clear hT hxi
        go_wp2_with fail
        clear d2 e2
        refine (HT.out.ci _).mono ?_
        rintro e w1 ⟨rfl, hb1⟩
        have hB2 := hB1.trans (hb1.mono hB1.size)
        clear hB1 hb1
        go_wp2_with fail
        refine (HT.out.cj _).mono ?_
        rintro e w2 ⟨rfl, hb2⟩
        have hB3 := hB2.trans (hb2.mono hB2.size)
        clear hB2 hb2
        have d3 := @det32_run _ _ _ _ HT.out.dm
        go_wp2_with fail
        clear d3
        refine (HT.out.cm _).mono ?_
        rintro e w3 ⟨rfl, hb3⟩
        have hB4 := hB3.trans (hb3.mono hB3.size)
        clear hB3 hb3
        go_wp2_with fail
        refine (HT.out.one _).mono ?_
        rintro e w4 ⟨rfl, hb4⟩
        have hB5 := hB4.trans (hb4.mono hB4.size)
        clear hB4 hb4
        have l1 := HT.out.le1
        have l2 := HT.out.le2
        have b1 := HT.out.bm
        have b2 := HT.out.bn
        have b3 := HT.out.bo
        have b1a := b1.1
        have b1b := b1.2
        have b2a := b2.1
        have b2b := b2.2
        have b3a := b3.1
        have b3b := b3.2
        clear b1 b2 b3
        go_wp2_with fail
        refine (ang_one _).mono ?_
        rintro e w5 ⟨rfl, hb5⟩
        have hB6 := hB5.trans (hb5.mono hB5.size)
        clear hB5 hb5
        go_wp2_with fail
        refine (same_not _).mono ?_
        rintro e w' ⟨rfl, rfl⟩
        go_wp2_with fail
        go_ret
        exact ⟨by simp, hB6⟩
      · go_wp2_with fail
        refine (HG3.out _).mono ?_
        rintro e w' ⟨rfl, rfl⟩
        go_wp2_with fail
        refine (HG3.out _).mono ?_
        rintro e w' ⟨rfl, rfl⟩
        go_wp2_with fail
        clear hg3 hg4 k0 k1 k2 k3 k4 k5 HG3
        refine (b10At_zero A1 n1 c1 f1 200 (by omega) (by omega) HS.out _ _ (HR.out.1.below hB1) HR.out.2).mono ?_
        rintro e w' ⟨⟨i, hi, rfl⟩, rfl⟩
        have d1 := @det32_run _ _ _ _ (eighth_all i hi)
        have f1' : floatOfInt .f32 (1 + (i : Int)) = FloatKind.f32.nearest (1 + (i : Int)) := rfl
        go_wp2_with fail
        clear d1 f1'
        refine (b10At_one A1 n1 c1 f1 200 (by omega) (by omega) HS.out _ _ (HR.out.1.below hB1) HR.out.2).mono ?_
        rintro e w' ⟨⟨j, hj, rfl⟩, rfl⟩
        obtain ⟨xi0, xj0, xi, xj, xm, m, n, o, hT⟩ := tn_ex i j hi hj
        have HT := Lib.hid hT
        have hxi : w32 ((i + 1) * 8) = xi := by have := hT.di; rw [← hT.fi, eighth_all i hi] at this; exact Option.some.inj this
        rw [hxi]
        have e2 : floatOfInt .f32 (1 + (j : Int)) = xj0 := hT.fj
        have d2 := @det32_run _ _ _ _ hT.dj
        clear hT hxi
        go_wp2_with fail
        clear d2 e2
        refine (HT.out.ci _).mono ?_
        rintro e w1 ⟨rfl, hb1⟩
        have hB2 := hB1.trans (hb1.mono hB1.size)
        clear hB1 hb1
        go_wp2_with fail
        refine (HT.out.cj _).mono ?_
        rintro e w2 ⟨rfl, hb2⟩
        have hB3 := hB2.trans (hb2.mono hB2.size)
        clear hB2 hb2
        have d3 := @det32_run _ _ _ _ HT.out.dm
        go_wp2_with fail
        clear d3
        refine (HT.out.cm _).mono ?_
        rintro e w3 ⟨rfl, hb3⟩
        have hB4 := hB3.trans (hb3.mono hB3.size)
        clear hB3 hb3
        go_wp2_with fail
        refine (HT.out.one _).mono ?_
        rintro e w4 ⟨rfl, hb4⟩
        have hB5 := hB4.trans (hb4.mono hB4.size)
        clear hB4 hb4
        have l1 := HT.out.le1
        have l2 := HT.out.le2
        have b1 := HT.out.bm
        have b2 := HT.out.bn
        have b3 := HT.out.bo
        have b1a := b1.1
        have b1b := b1.2
        have b2a := b2.1
        have b2b := b2.2
        have b3a := b3.1
        have b3b := b3.2
        clear b1 b2 b3
        go_wp2_with fail
        refine (ang_one _).mono ?_
        rintro e w5 ⟨rfl, hb5⟩
        have hB6 := hB5.trans (hb5.mono hB5.size)
        clear hB5 hb5
        go_wp2_with fail
        refine (same_not _).mono ?_
        rintro e w' ⟨rfl, rfl⟩
        go_wp2_with fail
        go_ret
        exact ⟨by simp, hB6⟩
    · have k4 : ¬ Int.tmod ((a : Int) - 128) 16 = 0 := by have := HC.out.sixteen; rw [decide_eq_false h16] at this; exact of_decide_eq_false this
      clear h16
      go_wp2_with fail
      clear k0 k1 k2 k3 k4
      refine (b10At_zero A1 n1 c1 f1 200 (by omega) (by omega) HS.out _ _ (HR.out.1.below hB1) HR.out.2).mono ?_
      rintro e w' ⟨⟨i, hi, rfl⟩, rfl⟩
      have d1 := @det32_run _ _ _ _ (eighth_all i hi)
      have f1' : floatOfInt .f32 (1 + (i : Int)) = FloatKind.f32.nearest (1 + (i : Int)) := rfl
      go_wp2_with fail
      clear d1 f1'
      refine (b10At_one A1 n1 c1 f1 200 (by omega) (by omega) HS.out _ _ (HR.out.1.below hB1) HR.out.2).mono ?_
      rintro e w' ⟨⟨j, hj, rfl⟩, rfl⟩
      obtain ⟨xi0, xj0, xi, xj, xm, m, n, o, hT⟩ := tn_ex i j hi hj
      have HT := Lib.hid hT
      have hxi : w32 ((i + 1) * 8) = xi := by have := hT.di; rw [← hT.fi, eighth_all i hi] at this; exact Option.some.inj this
      rw [hxi]
      have e2 : floatOfInt .f32 (1 + (j : Int)) = xj0 := hT.fj
      have d2 := @det32_run _ _ _ _ hT.dj
      clear hT hxi
      go_wp2_with fail
      clear d2 e2
      refine (HT.out.ci _).mono ?_
      rintro e w1 ⟨rfl, hb1⟩
      have hB2 := hB1.trans (hb1.mono hB1.size)
      clear hB1 hb1
      go_wp2_with fail
      refine (HT.out.cj _).mono ?_
      rintro e w2 ⟨rfl, hb2⟩
      have hB3 := hB2.trans (hb2.mono hB2.size)
      clear hB2 hb2
      have d3 := @det32_run _ _ _ _ HT.out.dm
      go_wp2_with fail
      clear d3
      refine (HT.out.cm _).mono ?_
      rintro e w3 ⟨rfl, hb3⟩
      have hB4 := hB3.trans (hb3.mono hB3.size)
      clear hB3 hb3
      go_wp2_with fail
      refine (HT.out.one _).mono ?_
      rintro e w4 ⟨rfl, hb4⟩
      have hB5 := hB4.trans (hb4.mono hB4.size)
      clear hB4 hb4
      have l1 := HT.out.le1
      have l2 := HT.out.le2
      have b1 := HT.out.bm
      have b2 := HT.out.bn
      have b3 := HT.out.bo
      have b1a := b1.1
      have b1b := b1.2
      have b2a := b2.1
      have b2b := b2.2
      have b3a := b3.1
      have b3b := b3.2
      clear b1 b2 b3
      go_wp2_with fail
      refine (ang_one _).mono ?_
      rintro e w5 ⟨rfl, hb5⟩
      have hB6 := hB5.trans (hb5.mono hB5.size)
      clear hB5 hb5
      go_wp2_with fail
      refine (same_not _).mono ?_
      rintro e w' ⟨rfl, rfl⟩
      go_wp2_with fail
      go_ret
      exact ⟨by simp, hB6⟩
  · go_enter Try.func4, Try.ntmps4
    go_wp2_with fail
    refine (b10Long_long A0 n0 c0 A1 n1 c1 hs _).mono ?_
    rintro e w' ⟨rfl, rfl⟩
    go_wp2_with fail
    go_ret
    exact ⟨rfl, Below.refl _ _⟩
end Go.Proofs.Ytecncnkbgfjdcaa
