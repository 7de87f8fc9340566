/- The logarithm and the tenths of a number near fixed-point integers. -/
import Derived.Test.YtecncnkbgfjdcaaZFCirB
import Derived.Test.YtecncnkbgfjdcaaZWTen
set_option linter.unusedVariables false
set_option linter.unusedSimpArgs false
namespace Go.Proofs.Ytecncnkbgfjdcaa
open Ieee near

/-- The check of a known word of 2 or more. -/
def nrH (x : Nat) (A : Int) (e : Nat) : Bool :=
  let q := x % 9223372036854775808
  let g := q / 4503599627370496 - 1024
  let m := (4503599627370496 + q % 4503599627370496) * 2 ^ g
  let S := if x / 9223372036854775808 % 2 == 1 then -(m : Int) else (m : Int)
  decide (x < 18446744073709551616) && decide (1024 ≤ q / 4503599627370496) && decide (q / 4503599627370496 ≤ 1100) && decide (A - e ≤ S) && decide (S ≤ A + e)
theorem nr_wordH {P N x : Nat} (hN : N = 1023) (hP : P = 2 ^ N) {A : Int} {e : Nat} (h : nrH x A e = true) : Nr P x A e := by
  unfold nrH at h
  simp only [Bool.and_eq_true, decide_eq_true_eq] at h
  obtain ⟨⟨⟨⟨h1, h2⟩, h3⟩, h4⟩, h5⟩ := h
  have hsw : FloatKind.f64.format.signWeight = 9223372036854775808 := rfl
  have hw : 2 ^ FloatKind.f64.format.width = 18446744073709551616 := by rw [width_sign, hsw]
  have hrg : rg FloatKind.f64.format x = x % 9223372036854775808 := by unfold rg; rw [hsw]
  have hsg : sgn FloatKind.f64.format x = (x / 9223372036854775808 % 2 == 1) := by unfold sgn; rw [hsw]
  generalize hq : x % 9223372036854775808 = q at *
  obtain ⟨g, hg⟩ : ∃ g, g = q / 4503599627370496 - 1024 := ⟨_, rfl⟩
  rw [← hg] at h4 h5
  have hE : q / 4503599627370496 - 1 = g + N := by omega
  have hu : units FloatKind.f64.format (rg FloatKind.f64.format x) = (4503599627370496 + q % 4503599627370496) * 2 ^ g * P := by
    rw [hrg]; unfold units; rw [bin64, if_neg (by omega), hE, Nat.pow_add, hP, Nat.mul_assoc]
  have hZ : Z FloatKind.f64.format x = (if (x / 9223372036854775808 % 2 == 1) = true then -(((4503599627370496 + q % 4503599627370496) * 2 ^ g : Nat) : Int) else (((4503599627370496 + q % 4503599627370496) * 2 ^ g : Nat) : Int)) * (P : Int) := by
    unfold Z
    rw [hsg, hu, Int.natCast_mul]
    split
    · rw [Int.neg_mul]
    · rfl
  have hQ : (0 : Int) ≤ (P : Int) := Int.natCast_nonneg _
  refine ⟨by rw [hw]; exact h1, ?_, ?_, ?_⟩
  · rw [hrg, inf64]; omega
  · rw [hZ]
    exact Int.mul_le_mul_of_nonneg_right h5 hQ
  · rw [hZ]
    exact Int.mul_le_mul_of_nonneg_right h4 hQ

/-- s = (z - 1) / (z + 1) of a word z between 0.75 and 1.5. -/
def SI (z : Nat) : Int :=
  let a : Int := if z < 4607182418800017408 then ((4503599627370496 + z % 4503599627370496 : Nat) : Int) else ((2 * (4503599627370496 + z % 4503599627370496) : Nat) : Int)
  2251799813685248 * (a - 9007199254740992) / (a + 9007199254740992)
def sChk (z : Nat) : Bool :=
  match logS (some z) with
  | some s => ((s == 0 && SI z == 0) || nrB s (SI z) 1) && decide (-562949953421312 ≤ SI z) && decide (SI z ≤ 562949953421312)
  | none => false
theorem s_nr {P N z : Nat} (hN : N = 1023) (hP : P = 2 ^ N) (h : sChk z = true) : ∃ s, logS (some z) = some s ∧ Nr P s (SI z) 1 ∧ -562949953421312 ≤ SI z ∧ SI z ≤ 562949953421312 := by
  unfold sChk at h
  split at h
  · rename_i s hs
    simp only [Bool.and_eq_true, decide_eq_true_eq] at h
    obtain ⟨⟨h1, h2⟩, h3⟩ := h
    refine ⟨s, hs, ?_, h2, h3⟩
    rcases Bool.or_eq_true_iff.1 h1 with h4 | h4
    · simp only [Bool.and_eq_true, beq_iff_eq] at h4
      obtain ⟨rfl, h5⟩ := h4
      rw [h5]
      exact nr_zero.mono (by omega)
    · exact nr_word hN hP h4
  · cases h
def LNe (e : Int) : Int := e * 1560828692041339
def eChk (e : Int) : Bool :=
  match floatBits .mul .f64 (fl e) 4604418534313441775 with
  | some w => (w == 0 && LNe e == 0) || nrB w (LNe e) 10 || nrH w (LNe e) 10
  | none => false
theorem e_all : ∀ n : Nat, n < 21 → eChk ((n : Int) - 10) = true := by decide +kernel
theorem e_nr {P N : Nat} (hN : N = 1023) (hP : P = 2 ^ N) {e : Int} (h0 : -10 ≤ e) (h1 : e ≤ 10) : ∃ w, floatBits .mul .f64 (fl e) 4604418534313441775 = some w ∧ Nr P w (LNe e) 10 := by
  have h := e_all (e + 10).toNat (by omega)
  rw [show (((e + 10).toNat : Nat) : Int) - 10 = e by omega] at h
  unfold eChk at h
  split at h
  · rename_i w hw
    refine ⟨w, hw, ?_⟩
    rcases Bool.or_eq_true_iff.1 h with h4 | h4
    · rcases Bool.or_eq_true_iff.1 h4 with h5 | h5
      · simp only [Bool.and_eq_true, beq_iff_eq] at h5
        obtain ⟨rfl, h6⟩ := h5
        rw [h6]
        exact nr_zero.mono (by omega)
      · exact nr_word hN hP h5
    · exact nr_wordH hN hP h4
  · cases h
/-- 2 s q. -/
def LS (z : Nat) : Int := 2 * (SI z * LI (SI z * SI z / 2251799813685248) 13 / 2251799813685248)
def LV (y : Nat) : Int := LS (logZ y) + LNe (logE y)
theorem ei13 : EI 13 = 172011 := by decide +kernel
theorem logV_nr {P N y : Nat} (hN : N = 1023) (hP : P = 2 ^ N) (hS : sChk (logZ y) = true) (h0 : -10 ≤ logE y) (h1 : logE y ≤ 10) : ∃ r, logV y = some r ∧ Nr P r (LV y) 700000 ∧ (LV y).natAbs < 18014398508000000 := by
  obtain ⟨s, hs, hn, b0, b1⟩ := s_nr hN hP hS
  obtain ⟨w, hw, hwn⟩ := e_nr hN hP h0 h1
  unfold LV LS
  have hLN : LNe (logE y) = logE y * 1560828692041339 := rfl
  generalize hE : logE y = E at *
  generalize hz : logZ y = z at *
  generalize SI z = S at *
  have q0 : 0 ≤ S * S := by
    rcases Int.le_total 0 S with h | h
    · exact Int.mul_nonneg h h
    · exact Int.mul_nonneg_of_nonpos_of_nonpos h h
  have q1 : S * S ≤ 562949953421312 * 562949953421312 := by
    rw [← Int.natAbs_mul_self' S]
    have : (S.natAbs : Int) ≤ 562949953421312 := by omega
    exact Int.mul_le_mul this this (by omega) (by omega)
  obtain ⟨u, hu, hun⟩ := Nr.mul hN hP hn hn (C := S * S / 2251799813685248) (by omega) (by omega) (by omega)
  have u0 : 0 ≤ S * S / 2251799813685248 := by omega
  have u1 : S * S / 2251799813685248 ≤ 140737488355328 := by omega
  obtain ⟨q, hq, hqn, l0, l1⟩ := logQ_nr hN hP (hun.mono (by omega)) u0 u1 13 (by omega)
  rw [ei13] at hqn
  generalize LI (S * S / 2251799813685248) 13 = L at *
  have a1 : (S * L).natAbs ≤ 562949953421312 * 2533274790395904 := by
    rw [Int.natAbs_mul]
    exact Nat.mul_le_mul (by omega) (by omega)
  obtain ⟨p, hp, hpn⟩ := Nr.mul hN hP hn hqn (C := S * L / 2251799813685248) (by omega) (by omega) (by omega)
  generalize hC1 : S * L / 2251799813685248 = C1 at *
  have c1 : C1.natAbs ≤ 633318697598976 + 1 := by omega
  obtain ⟨p2, hp2, hp2n⟩ := Nr.mulL hN hP (nr_two hN hP) hpn (C := 2 * C1) (by omega) (by omega) (by omega)
  obtain ⟨r, hr, hrn⟩ := Nr.addW hN hP hp2n hwn (by omega)
  refine ⟨r, ?_, hrn.mono (by omega), by omega⟩
  unfold logV logTail
  rw [hz, hE, hs, show fop .mul .f64 (some s) (some s) = some u from hu, hq, show fop .mul .f64 (some s) (some q) = some p from hp, show fop .mul .f64 (some two64) (some p) = some p2 from hp2, show fop .mul .f64 (some (fl E)) (some 4604418534313441775) = some w from hw]
  exact hr
theorem nr_c43 {P N : Nat} (hN : N = 1023) (hP : P = 2 ^ N) : Nr P c43 97794423343427376 0 := nr_wordH hN hP (by decide +kernel)
theorem nr_half {P N : Nat} (hN : N = 1023) (hP : P = 2 ^ N) : Nr P half64 1125899906842624 0 := nr_word hN hP (by decide +kernel)
def TI (L : Int) : Int := L * 97794423343427376 / 2251799813685248 + 1125899906842624
theorem TT_nr {P N y : Nat} (hN : N = 1023) (hP : P = 2 ^ N) (hS : sChk (logZ y) = true) (h0 : -10 ≤ logE y) (h1 : logE y ≤ 10) : ∃ t, TT y = some t ∧ Nr P t (TI (LV y)) 45000000 ∧ (TI (LV y)).natAbs < 1152921504606846976 := by
  obtain ⟨r, hr, hrn, hb⟩ := logV_nr hN hP hS h0 h1
  unfold TI
  generalize LV y = L at *
  have a1 : (L * 97794423343427376).natAbs ≤ 18014398508000000 * 97794423343427376 := by
    rw [Int.natAbs_mul]
    exact Nat.mul_le_mul (by omega) (by decide)
  obtain ⟨p, hp, hpn⟩ := Nr.mulG hN hP hrn (nr_c43 hN hP) (C := L * 97794423343427376 / 2251799813685248) (by omega) (by decide) (by omega)
  obtain ⟨t, ht, htn⟩ := Nr.addG hN hP hpn (nr_half hN hP) (by omega)
  refine ⟨t, ?_, htn.mono (by omega), by omega⟩
  unfold TT
  rw [hr, show fop .mul .f64 (some r) (some c43) = some p from hp]
  exact ht
theorem ten_rel {y t F : Nat} {n : Int} (h : Ten y t F n) (hS : sChk (logZ y) = true) (h0 : -10 ≤ logE y) (h1 : logE y ≤ 10) :
    n * 2251799813685248 ≤ TI (LV y) + 45000000 ∧ TI (LV y) - 45000000 < (n + 1) * 2251799813685248 := by
  obtain ⟨N, hN⟩ : ∃ N, N = 1023 := ⟨_, rfl⟩
  obtain ⟨P, hP⟩ : ∃ P, P = 2 ^ N := ⟨_, rfl⟩
  obtain ⟨t', ht, hn, hb⟩ := TT_nr hN hP hS h0 h1
  rw [h.tt] at ht
  obtain rfl := Option.some.inj ht
  have hP0 : 0 < P := by rw [hP]; exact Nat.two_pow_pos _
  have hK : 2 ^ (N + 51) = P * 2251799813685248 := by rw [hP, Nat.pow_add]
  have hab := abs_bound hP0 hn.hi hn.lo (M := 2305843009213693952) (by omega)
  have hu : units FloatKind.f64.format (rg FloatKind.f64.format t) = (Z FloatKind.f64.format t).natAbs := by
    unfold Z
    split <;> omega
  obtain ⟨f1, f2⟩ := flo_rel (N := N + 51) (by omega) h.flo (by rw [hu, hK]; omega)
  have g1 := Int.le_trans f1 hn.hi
  have g2 := Int.lt_of_le_of_lt hn.lo f2
  rw [hK, Int.natCast_mul, Int.mul_comm (P : Int), ← Int.mul_assoc] at g1 g2
  constructor
  · exact Int.le_of_mul_le_mul_right g1 (by omega)
  · exact Int.lt_of_mul_lt_mul_right g2 (by omega)
end Go.Proofs.Ytecncnkbgfjdcaa
