/- How great a logarithm can be. -/
import Derived.Test.YtecglaggmheokaaFLog
set_option linter.unusedVariables false
set_option linter.unusedSimpArgs false
namespace Go.Proofs.Ytecglaggmheokaa
open Ieee near

theorem sum_Z (x y : Nat) (neg : Bool) (hx : rg FloatKind.f64.format x < FloatKind.f64.format.infRung) (hy : rg FloatKind.f64.format y < FloatKind.f64.format.infRung) :
    ∃ s m e, (FloatKind.f64.decode x).sum (if neg then (FloatKind.f64.decode y).opposite else FloatKind.f64.decode y) = some (.number s m e) ∧ -1074 ≤ e ∧
      m * 2 ^ (e + 1074).toNat = (Z FloatKind.f64.format x + (if neg then -Z FloatKind.f64.format y else Z FloatKind.f64.format y)).natAbs := by
  rcases read_cases .f64 x with ⟨h1, m, i, e1, hi, hm, _⟩ | ⟨h1, _⟩ | ⟨h1, _⟩
  · rcases read_cases .f64 y with ⟨h2, n, j, e2, hj, hn, _⟩ | ⟨h2, _⟩ | ⟨h2, _⟩
    · rw [lp64] at hi hj hm hn
      have key : ∀ (s t : Bool), (signed s m (i - min i j).toNat + signed t n (j - min i j).toNat).natAbs * 2 ^ (min i j + 1074).toNat =
          ((if s then -(units FloatKind.f64.format (rg FloatKind.f64.format x) : Int) else (units FloatKind.f64.format (rg FloatKind.f64.format x) : Int)) + (if t then -(units FloatKind.f64.format (rg FloatKind.f64.format y) : Int) else (units FloatKind.f64.format (rg FloatKind.f64.format y) : Int))).natAbs := by
        intro s t
        rw [← hm, ← hn, show (i - -1074).toNat = (i - min i j).toNat + (min i j + 1074).toNat by omega, show (j - -1074).toNat = (j - min i j).toNat + (min i j + 1074).toNat by omega, Nat.pow_add, Nat.pow_add, ← Nat.mul_assoc, ← Nat.mul_assoc]
        unfold signed
        rw [Nat.shiftLeft_eq, Nat.shiftLeft_eq]
        generalize m * 2 ^ (i - min i j).toNat = a
        generalize n * 2 ^ (j - min i j).toNat = b
        generalize 2 ^ (min i j + 1074).toNat = P
        rw [show ((if s then -(a : Int) else (a : Int)) + (if t then -(b : Int) else (b : Int))).natAbs * P = (((if s then -(a : Int) else (a : Int)) + (if t then -(b : Int) else (b : Int))) * (P : Int)).natAbs from by rw [Int.natAbs_mul, Int.natAbs_natCast]]
        rw [Int.add_mul]
        congr 2
        · cases s <;> simp [Int.neg_mul]
        · cases t <;> simp [Int.neg_mul]
      rw [e1, e2]
      cases neg with
      | false =>
        refine ⟨_, _, _, rfl, by omega, ?_⟩
        rw [key]; rfl
      | true =>
        refine ⟨_, _, _, rfl, by omega, ?_⟩
        rw [key]
        unfold Z
        cases sgn FloatKind.f64.format y <;> simp
    · omega
    · omega
  · omega
  · omega

theorem UB.sub_Z {x y G : Nat} (hx : rg FloatKind.f64.format x < FloatKind.f64.format.infRung) (hy : rg FloatKind.f64.format y < FloatKind.f64.format.infRung) (hG : G ≤ 2098)
    (h : (Z FloatKind.f64.format x - Z FloatKind.f64.format y).natAbs ≤ 2 ^ G) : UB (fop .sub .f64 (some x) (some y)) G := by
  obtain ⟨s, m, e, h1, h2, h3⟩ := sum_Z x y true hx hy
  intro r hr
  have h4 : ((FloatKind.f64.decode x).sum (FloatKind.f64.decode y).opposite).map FloatKind.f64.format.write = some r := hr
  rw [show (FloatKind.f64.decode x).sum (FloatKind.f64.decode y).opposite = _ from h1] at h4
  refine nearest_ub s m e G hG ?_ r h4
  rw [show (-1074 - e).toNat = 0 by omega, Nat.pow_zero, Nat.mul_one, h3]
  rw [if_pos rfl, ← Int.sub_eq_add_neg]; exact h

/-- A sum that is at least the number with the word q is rounded to at least that. -/
theorem LB.add_Z {x y q r : Nat} (hx : rg FloatKind.f64.format x < FloatKind.f64.format.infRung) (hy : rg FloatKind.f64.format y < FloatKind.f64.format.infRung) (hq : q ≤ FloatKind.f64.format.infRung)
    (h : units FloatKind.f64.format q ≤ (Z FloatKind.f64.format x + Z FloatKind.f64.format y).natAbs) (hr : floatBits .add .f64 x y = some r) : q ≤ rg FloatKind.f64.format r := by
  obtain ⟨s, m, e, h1, h2, h3⟩ := sum_Z x y false hx hy
  have h4 : ((FloatKind.f64.decode x).sum (FloatKind.f64.decode y)).map FloatKind.f64.format.write = some r := hr
  rw [show (FloatKind.f64.decode x).sum (FloatKind.f64.decode y) = _ from h1] at h4
  obtain rfl := Option.some.inj h4
  show q ≤ rg _ (FloatKind.f64.format.nearest s m e)
  rw [nearest_eq, rg_word .f64 _ _ (by have h5 := FloatKind.f64.format.infRung_lt; have := Nat.min_le_right (rawRung FloatKind.f64.format m e) FloatKind.f64.format.infRung; omega)]
  refine Nat.le_min.2 ⟨le_raw FloatKind.f64.format m e q ?_, hq⟩
  rw [lp64, show (-1074 - e).toNat = 0 by omega, Nat.pow_zero, Nat.mul_one, show e - -1074 = e + 1074 by omega, h3]
  exact h

theorem units_words (N : Nat) (hN : N = 1072) : units FloatKind.f64.format 4604930618986332160 = 3 * 2 ^ N ∧ units FloatKind.f64.format 4607182418800017408 = 4 * 2 ^ N ∧ units FloatKind.f64.format 4609434218613702656 = 6 * 2 ^ N := by
  have h1 := units_word (q := 4604930618986332160) (d := 1022) (f := 2251799813685248) (M := 6755399441055744) (L := 1021) (by omega) (by omega) (by omega) (by omega) (by omega)
  have h2 := units_word (q := 4607182418800017408) (d := 1023) (f := 0) (M := 4503599627370496) (L := 1022) (by omega) (by omega) (by omega) (by omega) (by omega)
  have h3 := units_word (q := 4609434218613702656) (d := 1023) (f := 2251799813685248) (M := 6755399441055744) (L := 1022) (by omega) (by omega) (by omega) (by omega) (by omega)
  have g1 := pow_scale3 1021 N 6755399441055744 3 2251799813685248 51 (by decide) (by decide) (by omega)
  have g2 := pow_scale3 1022 N 4503599627370496 4 1125899906842624 50 (by decide) (by decide) (by omega)
  have g3 := pow_scale3 1022 N 6755399441055744 6 1125899906842624 50 (by decide) (by decide) (by omega)
  exact ⟨h1.trans g1, h2.trans g2, h3.trans g3⟩

/-- The words between 0.75 and 1.5: (z - 1) / (z + 1) is at most 1. -/
theorem logS_ub {z : Nat} (h1 : 4604930618986332160 ≤ z) (h2 : z < 4609434218613702656) : UB (logS (some z)) 1074 := by
  suffices H : ∀ N : Nat, N = 1072 → UB (logS (some z)) (N + 1 + 1) from H 1072 rfl
  intro N hN
  obtain ⟨u1, u2, u3⟩ := units_words N hN
  have hsw : FloatKind.f64.format.signWeight = 9223372036854775808 := rfl
  have pos : ∀ q, q < 9223372036854775808 → rg FloatKind.f64.format q = q ∧ Z FloatKind.f64.format q = units FloatKind.f64.format q := by
    intro q hq
    have h1 : sgn FloatKind.f64.format q = false := by
      unfold sgn
      rw [hsw, Nat.div_eq_of_lt hq]; rfl
    have h2 : rg FloatKind.f64.format q = q := by unfold rg; rw [hsw]; exact Nat.mod_eq_of_lt hq
    refine ⟨h2, ?_⟩
    unfold Z
    rw [h1, h2]; rfl
  obtain ⟨a1, a2⟩ := pos z (by omega)
  obtain ⟨b1, b2⟩ := pos 4607182418800017408 (by omega)
  have hlo := units_le FloatKind.f64.format h1
  have hhi := units_le FloatKind.f64.format (Nat.le_of_lt h2)
  rw [u1] at hlo
  rw [u3] at hhi
  have hP : 2 ^ (N + 1) = 2 * 2 ^ N := by rw [Nat.pow_succ, Nat.mul_comm]
  have hfin1 : rg FloatKind.f64.format z < FloatKind.f64.format.infRung := by rw [a1, inf64]; omega
  have hfin2 : rg FloatKind.f64.format 4607182418800017408 < FloatKind.f64.format.infRung := by rw [b1, inf64]; omega
  have hsub : UB (fop .sub .f64 (some z) (some one64)) (N + 1) := by
    refine UB.sub_Z hfin1 hfin2 (by omega) ?_
    rw [a2, show one64 = 4607182418800017408 from rfl, b2, u2, hP]
    generalize 2 ^ N = P at *
    generalize units FloatKind.f64.format z = u at *
    omega
  intro s hs
  obtain ⟨x, y, hx, hy, hq⟩ := fop_some hs
  have hy' : floatBits .add .f64 z 4607182418800017408 = some y := hy
  have hge : 4607182418800017408 ≤ rg FloatKind.f64.format y := by
    refine LB.add_Z hfin1 hfin2 (by rw [inf64]; omega) ?_ hy'
    rw [a2, b2, u2]
    generalize 2 ^ N = P at *
    generalize units FloatKind.f64.format z = u at *
    omega
  have hyfin : rg FloatKind.f64.format y < FloatKind.f64.format.infRung := by
    have hub : UB (fop .add .f64 (some z) (some 4607182418800017408)) (N + 10) := by
      refine UB.add (E := N + 3) (F := N + 3) ?_ ?_ (by omega) (by omega) (by omega) (by omega)
      · intro b hb
        obtain rfl := Option.some.inj hb
        rw [a1]
        refine Nat.le_trans hhi ?_
        rw [Nat.pow_add]; omega
      · intro b hb
        obtain rfl := Option.some.inj hb
        rw [b1, u2, Nat.pow_add]; omega
    obtain ⟨m, e, e1, _, _⟩ := UB.read (b := y) (fun b hb => hub b (hy.trans (by rw [← hb]))) (by omega) (floatBits_not_nan hy')
    rcases read_cases .f64 y with ⟨h, _⟩ | ⟨_, e2⟩ | ⟨_, e2⟩
    · exact h
    · rw [e1] at e2; cases e2
    · rw [e1] at e2; cases e2
  refine UB.div_of (G := N + 1) (E := N + 1) (by omega) ?_ (by omega) hyfin (by omega) ?_ hq s rfl
  · intro b hb
    exact hsub b (hx.trans hb)
  · have h5 := units_le FloatKind.f64.format hge
    rw [u2] at h5
    have h6 := hsub x hx
    refine Nat.le_trans (Nat.mul_le_mul_right _ h6) ?_
    refine Nat.le_trans ?_ (Nat.mul_le_mul_right _ h5)
    rw [show 4 * 2 ^ N = 2 ^ (N + 2) by rw [Nat.pow_add]; omega, ← Nat.pow_add 2 (N + 1) 1074, ← Nat.pow_add 2 (N + 2) (N + 1)]
    exact two_pow_le (by omega)

/-- A value's bound, asked by evaluation. -/
def ubB (v : Option Nat) (E : Nat) : Bool := match v with | none => true | some b => decide (units FloatKind.f64.format (rg FloatKind.f64.format b) ≤ 2 ^ E)
theorem ub_of_B {v : Option Nat} {E : Nat} (h : ubB v E = true) : UB v E := by
  intro b hb
  subst hb
  exact of_decide_eq_true h

theorem ub_inv : ∀ j : Nat, j < 13 → ubB (fop .quo .f64 (some one64) (some (fl (25 - 2 * (j : Int))))) 1074 = true := by decide +kernel
theorem ub_two : ubB (some two64) 1075 = true := by decide +kernel
theorem ub_ln2 : ubB (some 4604418534313441775) 1074 = true := by decide +kernel
theorem ub_e : ∀ n : Nat, n < 400 → ubB (some (fl ((n : Int) - 200))) 1082 = true := by decide +kernel

theorem ub_zero : UB (some 0) (1075 + 0) := ub_of_B (by decide +kernel)
theorem logQ_ub {u : Option Nat} (hu : UB u 1074) : ∀ j : Nat, j ≤ 13 → UB (logQ u j) (1075 + j)
  | 0, _ => ub_zero
  | j + 1, h => by
    have ih := logQ_ub hu j (by omega)
    have h1 := ub_of_B (ub_inv j (by omega))
    exact UB.add (E := 1074) (F := 1075 + j) h1 (UB.mul hu ih (by omega) (by omega) (by omega) (by omega)) (by omega) (by omega) (by omega) (by omega)

/-- The logarithm of a number of a middle size is at most 2^16. -/
theorem logV_ub {y : Nat} (h1 : 870 * 4503599627370496 ≤ y) (h2 : y < 1160 * 4503599627370496) : UB (logV y) 1090 := by
  have he : -200 ≤ logE y ∧ logE y < 200 := by unfold logE; omega
  have hz : 4604930618986332160 ≤ logZ y ∧ logZ y < 4609434218613702656 := by unfold logZ logE; omega
  have hs := logS_ub hz.1 hz.2
  have hu := UB.mul hs hs (G := 1074) (by omega) (by omega) (by omega) (by omega)
  have hq := logQ_ub hu 13 (by omega)
  have h3 := UB.mul hs hq (G := 1088) (by omega) (by omega) (by omega) (by omega)
  have h4 := UB.mul (ub_of_B ub_two) h3 (G := 1089) (by omega) (by omega) (by omega) (by omega)
  have h5 := ub_of_B (ub_e (logE y + 200).toNat (by omega))
  rw [show (((logE y + 200).toNat : Nat) : Int) - 200 = logE y by omega] at h5
  have h6 := UB.mul h5 (ub_of_B ub_ln2) (G := 1082) (by omega) (by omega) (by omega) (by omega)
  exact UB.add h4 h6 (by omega) (by omega) (by omega) (by omega)
end Go.Proofs.Ytecglaggmheokaa
