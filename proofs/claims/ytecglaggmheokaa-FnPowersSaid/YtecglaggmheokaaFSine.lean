/- The sine on values: what both sides reckon of a part of a turn, and how great it can be. -/
import Derived.Test.YtecglaggmheokaaWLogN
set_option linter.unusedVariables false
set_option linter.unusedSimpArgs false
namespace Go.Proofs.Ytecglaggmheokaa
open Ieee near

theorem zero_cut (s : Bool) (n drop : Nat) : Toward.zero.cut s n drop = n / 2 ^ drop := by
  have h0 : Toward.zero.cut s n drop = n / (1 <<< min drop (n.log2 + 2)) := rfl
  rw [h0, Nat.one_shiftLeft]
  by_cases h : drop ≤ n.log2 + 2
  · rw [Nat.min_eq_left h]
  · rw [Nat.min_eq_right (by omega)]
    have h4 : n < 2 ^ (n.log2 + 1) := Nat.lt_log2_self
    have h5 := two_pow_le (show n.log2 + 1 ≤ n.log2 + 2 by omega)
    have h6 := two_pow_le (show n.log2 + 1 ≤ drop by omega)
    rw [Nat.div_eq_of_lt (by omega), Nat.div_eq_of_lt (by omega)]

/-- The whole part of a number, as a whole number and as a float64. -/
def cutN (x : Nat) : Int := ((FloatKind.f64.decode x).toInt .zero).getD 0
def cutW (x : Nat) : Nat := FloatKind.f64.nearest (cutN x)

theorem nearest_zero (s : Bool) : FloatKind.f64.format.nearest s 0 0 = FloatKind.f64.format.word s 0 := rfl
theorem word_false (q : Nat) : FloatKind.f64.format.word false q = q := rfl

theorem rung_lt (q c N : Nat) (hc : c < 2047 * 4503599627370496) (hu : units FloatKind.f64.format q ≤ units FloatKind.f64.format c) : q < FloatKind.f64.format.infRung := by
  have := le_of_units FloatKind.f64.format hu
  rw [inf64']; omega

/-- A finite number below 2^52: what is read, what is cut off, and what is left. -/
structure CutOf (x : Nat) (s : Bool) (m : Nat) (n : Nat) : Prop where
  read : ∃ e, FloatKind.f64.decode x = .number s m e ∧ Toward.zero.cut s (m <<< e.toNat) (-e).toNat = n
  small : n < 9007199254740992
  left : UB (fop .sub .f64 (some x) (some (FloatKind.f64.format.nearest s n 0))) 1074
  same : FloatKind.f64.format.nearest s n 0 = FloatKind.f64.format.nearest s n 0

theorem units_52 : units FloatKind.f64.format 4841369599423283200 = 4503599627370496 * 2 ^ 1074 :=
  units_word (q := 4841369599423283200) (d := 1075) (f := 0) (M := 4503599627370496) (L := 1074) (by omega) (by omega) (by omega) (by omega) (by omega)

theorem cut_parts (N m : Nat) (e : Int) (hN : N = 1074) (he : -1074 ≤ e) (hm : m < 9007199254740992) (hu : m * 2 ^ (e + 1074).toNat ≤ 4503599627370496 * 2 ^ N) :
    (m <<< e.toNat) / 2 ^ (-e).toNat < 9007199254740992 ∧ (m <<< e.toNat) / 2 ^ (-e).toNat * 2 ^ N ≤ m * 2 ^ (e + 1074).toNat ∧ m * 2 ^ (e + 1074).toNat ≤ (m <<< e.toNat) / 2 ^ (-e).toNat * 2 ^ N + 2 ^ N := by
  rw [Nat.shiftLeft_eq]
  have hP := Nat.two_pow_pos N
  rcases Int.le_total 0 e with h | h
  · rw [show (-e).toNat = 0 by omega, Nat.pow_zero, Nat.div_one]
    have h1 : (e + 1074).toNat = e.toNat + N := by omega
    rw [h1, Nat.pow_add, ← Nat.mul_assoc] at hu
    rw [h1, Nat.pow_add, ← Nat.mul_assoc]
    have h2 := Nat.le_of_mul_le_mul_right hu hP
    exact ⟨by omega, Nat.le_refl _, Nat.le_add_right _ _⟩
  · rw [show e.toNat = 0 by omega, Nat.pow_zero, Nat.mul_one]
    obtain ⟨k, hk⟩ : ∃ k, k = (-e).toNat := ⟨_, rfl⟩
    have hk2 : N = k + (e + 1074).toNat := by omega
    rw [← hk]
    generalize (e + 1074).toNat = j at *
    rw [hk2, Nat.pow_add]
    have hQ := Nat.two_pow_pos k
    have h1 := Nat.div_mul_le_self m (2 ^ k)
    have h2 : m < m / 2 ^ k * 2 ^ k + 2 ^ k := by
      have := Nat.lt_div_mul_add (a := m) hQ
      exact this
    refine ⟨Nat.lt_of_le_of_lt (Nat.div_le_self _ _) hm, ?_, ?_⟩
    · rw [← Nat.mul_assoc]; exact Nat.mul_le_mul_right _ h1
    · rw [← Nat.mul_assoc, ← Nat.add_mul]; exact Nat.mul_le_mul_right _ (Nat.le_of_lt h2)

theorem Z_near (x N : Nat) (hN : N = 1074) (s : Bool) (q n u : Nat) (hs : sgn FloatKind.f64.format x = s) (hux : units FloatKind.f64.format (rg FloatKind.f64.format x) = u) (hq : q < FloatKind.f64.format.infRung)
    (hu : units FloatKind.f64.format q = n * 2 ^ N) (h1 : n * 2 ^ N ≤ u) (h2 : u ≤ n * 2 ^ N + 2 ^ N) : (Z FloatKind.f64.format x - Z FloatKind.f64.format (FloatKind.f64.format.word s q)).natAbs ≤ 2 ^ N := by
  have hsw : q < FloatKind.f64.format.signWeight := by rw [inf64'] at hq; rw [sw64]; omega
  unfold Z
  rw [rg_word .f64 s q hsw, sgn_word .f64 s q hsw, hs, hux, hu]
  generalize n * 2 ^ N = A at *
  generalize 2 ^ N = P at *
  cases s
  · rw [if_neg (by decide), if_neg (by decide)]; omega
  · rw [if_pos rfl, if_pos rfl]; omega

theorem cut_of {x : Nat} (h : rg FloatKind.f64.format x < 4841369599423283200) : ∃ s m n, CutOf x s m n := by
  have hle := Nat.le_of_lt (units_lt FloatKind.f64.format h)
  rw [units_52] at hle
  rcases read_cases .f64 x with ⟨h1, m, e, hd, he, hu, hm⟩ | ⟨h1, _⟩ | ⟨h1, _⟩
  · rw [lp64] at he hu
    rw [bin64] at hm
    rw [show e - -1074 = e + 1074 by omega] at hu
    rw [← hu] at hle
    obtain ⟨a1, a2, a3⟩ := cut_parts 1074 m e rfl he hm hle
    refine ⟨_, m, (m <<< e.toNat) / 2 ^ (-e).toNat, ⟨e, hd, zero_cut _ _ _⟩, a1, ?_, rfl⟩
    generalize (m <<< e.toNat) / 2 ^ (-e).toNat = n at *
    obtain ⟨q, hq⟩ := represents FloatKind.f64.format n 0 (by rw [bin64]; omega) (by rw [lp64]; omega)
    rw [lp64, show (0 - -1074 : Int).toNat = 1074 by omega] at hq
    have hqi : q < FloatKind.f64.format.infRung := by
      refine rung_lt q _ 0 (show 4841369599423283200 < _ by omega) ?_
      rw [hq, units_52]
      exact Nat.le_trans a2 hle
    rw [nearest_exact FloatKind.f64.format _ n 0 q (Nat.le_of_lt hqi) (by rw [lp64, hq, show (-1074 - 0 : Int).toNat = 0 by omega, show (0 - -1074 : Int).toNat = 1074 by omega, Nat.pow_zero, Nat.mul_one])]
    refine UB.sub_Z h1 ?_ (by omega) ?_
    · rw [rg_word .f64 _ q (by rw [inf64'] at hqi; rw [sw64]; omega)]; exact hqi
    · exact Z_near x 1074 rfl _ q n _ rfl hu.symm hqi hq a2 a3
  · rw [inf64] at h1; omega
  · rw [inf64] at h1; omega

def half64 : Nat := 4602678819172646912
def quarter64 : Nat := 4598175219545276416
def twoPi64 : Nat := 4618760256179416344
def sP1 (T : Option Nat) : Option Nat := if fcmp .f64 T (some 0) == some .lt then fop .add .f64 T (some one64) else T
def sNeg (T : Option Nat) : Bool := fcmp .f64 T (some half64) == some .gt || fcmp .f64 T (some half64) == some .eq
def sP2 (T : Option Nat) : Option Nat := if sNeg T then fop .sub .f64 T (some half64) else T
def sP3 (T : Option Nat) : Option Nat := if fcmp .f64 T (some quarter64) == some .gt then fop .sub .f64 (some half64) T else T
def sC (j : Nat) : Nat := fl (2 * (8 - (j : Int)) * (2 * (8 - (j : Int)) + 1))
def sS (U : Option Nat) : Nat → Option Nat
  | 0 => some one64
  | j + 1 => fop .sub .f64 (some one64) (fop .quo .f64 (fop .mul .f64 U (sS U j)) (some (sC j)))
def fneg (v : Option Nat) : Option Nat := v.map (Op.negFloat .f64)
def sR (T : Option Nat) : Option Nat := fop .mul .f64 (fop .mul .f64 T (some twoPi64)) (sS (fop .mul .f64 (fop .mul .f64 T (some twoPi64)) (fop .mul .f64 T (some twoPi64))) 8)
def sineT (T : Option Nat) : Option Nat := if sNeg T then fneg (sR (sP3 (sP2 T))) else sR (sP3 (sP2 T))

theorem neg_rg (r : Nat) : rg FloatKind.f64.format (Op.negFloat .f64 r) = rg FloatKind.f64.format r := by
  show (r ^^^ 2 ^ 63) % 2 ^ 63 = r % 2 ^ 63
  rw [Nat.xor_mod_two_pow, Nat.mod_self, Nat.xor_zero]
theorem neg_lt {r : Nat} (h : r < 18446744073709551616) : Op.negFloat .f64 r < 18446744073709551616 := by
  show r ^^^ 2 ^ 63 < 2 ^ 64
  exact Nat.xor_lt_two_pow h (by decide)
theorem neg_nan (r : Nat) : (FloatKind.f64.decode (Op.negFloat .f64 r)).isNaN = (FloatKind.f64.decode r).isNaN := by
  rw [decode_isNaN, decode_isNaN]
  have := neg_rg r
  unfold rg at this
  rw [this]
theorem FIs.neg {r : Nat} {v : Option Nat} (h : FIs .f64 r v) : FIs .f64 (Op.negFloat .f64 r) (fneg v) := by
  refine FIs.mk ?_ (neg_lt h.lt64)
  rw [← h.out]
  cases hn : (FloatKind.f64.decode r).isNaN with
  | true => rw [val_none hn, val_none ((neg_nan r).trans hn)]; rfl
  | false => rw [val_some hn, val_some ((neg_nan r).trans hn)]; rfl
theorem UB.neg {v : Option Nat} {E : Nat} (h : UB v E) : UB (fneg v) E := by
  intro b hb
  obtain ⟨c, rfl, rfl⟩ := Option.map_eq_some_iff.1 hb
  rw [neg_rg]
  exact h c rfl

theorem ub_one : UB (some one64) 1074 := ub_of_B (by decide +kernel)
theorem ub_half : UB (some half64) 1073 := ub_of_B (by decide +kernel)
theorem ub_twoPi : UB (some twoPi64) 1077 := ub_of_B (by decide +kernel)
theorem UB.sP1 {T : Option Nat} (h : UB T 1074) : UB (sP1 T) 1075 := by
  unfold Go.Proofs.Ytecglaggmheokaa.sP1
  split
  · exact UB.add h ub_one (by omega) (by omega) (by omega) (by omega)
  · exact h.mono (by omega)
theorem UB.sP2 {T : Option Nat} (h : UB T 1075) : UB (sP2 T) 1076 := by
  unfold Go.Proofs.Ytecglaggmheokaa.sP2
  split
  · exact UB.sub h ub_half (by omega) (by omega) (by omega) (by omega)
  · exact h.mono (by omega)
theorem UB.sP3 {T : Option Nat} (h : UB T 1076) : UB (sP3 T) 1077 := by
  unfold Go.Proofs.Ytecglaggmheokaa.sP3
  split
  · exact UB.sub ub_half h (by omega) (by omega) (by omega) (by omega)
  · exact h.mono (by omega)
def sCB (j : Nat) : Bool := decide (rg FloatKind.f64.format (sC j) < FloatKind.f64.format.infRung) && decide (0 < rg FloatKind.f64.format (sC j)) && decide (2 ^ 1076 ≤ units FloatKind.f64.format (rg FloatKind.f64.format (sC j)))
theorem sCB_all : ∀ j : Nat, j < 8 → sCB j = true := by decide +kernel
theorem sS_ub {U : Option Nat} (hu : UB U 1086) : ∀ j : Nat, j ≤ 8 → UB (sS U j) (1074 + 12 * j)
  | 0, _ => ub_one
  | j + 1, h => by
    have ih := sS_ub hu j (by omega)
    have hc := sCB_all j (by omega)
    unfold sCB at hc
    rw [Bool.and_eq_true, Bool.and_eq_true, decide_eq_true_eq, decide_eq_true_eq, decide_eq_true_eq] at hc
    have h1 := UB.mul hu ih (G := 1086 + 12 * j) (by omega) (by omega) (by omega) (by omega)
    have h2 := UB.divc (F := 1076) (G := 1084 + 12 * j) h1 (by omega) hc.1.1 hc.1.2 hc.2 (by omega) (by omega)
    exact UB.sub ub_one h2 (by omega) (by omega) (by omega) (by omega)
theorem UB.sR {T : Option Nat} (h : UB T 1077) : UB (sR T) 1176 := by
  have h1 := UB.mul h ub_twoPi (G := 1080) (by omega) (by omega) (by omega) (by omega)
  have h2 := UB.mul h1 h1 (G := 1086) (by omega) (by omega) (by omega) (by omega)
  exact UB.mul h1 (sS_ub h2 8 (by omega)) (by omega) (by omega) (by omega) (by omega)
theorem sineT_ub {T : Option Nat} (h : UB T 1075) : UB (sineT T) 1176 := by
  have h1 := UB.sR (UB.sP3 (UB.sP2 h))
  unfold sineT
  split
  · exact h1.neg
  · exact h1
end Go.Proofs.Ytecglaggmheokaa
