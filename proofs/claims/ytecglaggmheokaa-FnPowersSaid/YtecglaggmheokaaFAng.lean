/- The angle of a point on values: what both sides reckon, and that it is a small number. -/
import Derived.Test.YtecglaggmheokaaFTenths
set_option linter.unusedVariables false
set_option linter.unusedSimpArgs false
namespace Go.Proofs.Ytecglaggmheokaa
open Ieee near

def eight64 : Nat := 4620693217682128896
def aStep (t : Option Nat) : Option Nat := fop .quo .f64 t (fop .add .f64 (some one64) (fsqrt (fop .add .f64 (some one64) (fop .mul .f64 t t))))
def aP (u : Option Nat) : Nat → Option Nat
  | 0 => some 0
  | j + 1 => fop .sub .f64 (fop .quo .f64 (some one64) (some (fl (15 - 2 * (j : Int))))) (fop .mul .f64 u (aP u j))
def aE (t : Option Nat) : Option Nat := fop .quo .f64 (fop .mul .f64 (some eight64) (fop .mul .f64 t (aP (fop .mul .f64 t t) 8))) (some twoPi64)
def aOver (c : Bool) (e : Option Nat) : Option Nat := if c then fop .sub .f64 (some quarter64) e else e
def aLeft (c : Bool) (e : Option Nat) : Option Nat := if c then fop .sub .f64 (some half64) e else e
def aDown (c : Bool) (e : Option Nat) : Option Nat := if c then fneg e else e
def aIter (t : Option Nat) : Nat → Option Nat
  | 0 => t
  | j + 1 => aStep (aIter t j)
/-- The angle, out of the lesser part over the greater: were they turned, is x below nought, is y? -/
def aA (over xn yn : Bool) (t : Option Nat) : Option Nat := aDown yn (aLeft xn (aOver over (aE (aIter t 3))))

theorem sgn_nearest (s : Bool) (m : Nat) (e : Int) : sgn FloatKind.f64.format (FloatKind.f64.format.nearest s m e) = s := by
  rw [nearest_eq, sgn_word .f64 _ _ (by have h5 := FloatKind.f64.format.infRung_lt; have := Nat.min_le_right (rawRung FloatKind.f64.format m e) FloatKind.f64.format.infRung; omega)]

theorem mul_self_sgn {t r : Nat} (ht : Fin64 t) (h : floatBits .mul .f64 t t = some r) : sgn FloatKind.f64.format r = false := by
  obtain ⟨s, m, e, hd⟩ := ht.read
  have h' : ((FloatKind.f64.decode t).product (FloatKind.f64.decode t)).map FloatKind.f64.format.write = some r := h
  rw [hd] at h'
  obtain rfl := Option.some.inj h'
  show sgn FloatKind.f64.format (FloatKind.f64.format.nearest (s ^^ s) _ _) = false
  rw [sgn_nearest]
  cases s <;> rfl

theorem Z_pos {x : Nat} (h : sgn FloatKind.f64.format x = false) : Z FloatKind.f64.format x = units FloatKind.f64.format (rg FloatKind.f64.format x) := by
  unfold Z; rw [h]; rfl

theorem signed_pos (m u : Nat) : signed false m u = ((m <<< u : Nat) : Int) := rfl
theorem add_pos {x y r : Nat} (hx : Fin64 x) (hy : Fin64 y) (sx : sgn FloatKind.f64.format x = false) (sy : sgn FloatKind.f64.format y = false) (h : floatBits .add .f64 x y = some r) :
    sgn FloatKind.f64.format r = false ∧ rg FloatKind.f64.format x ≤ rg FloatKind.f64.format r := by
  have hx' : rg FloatKind.f64.format x < FloatKind.f64.format.infRung := hx
  have hy' : rg FloatKind.f64.format y < FloatKind.f64.format.infRung := hy
  refine ⟨?_, LB.add_Z hx' hy' (Nat.le_of_lt hx') ?_ h⟩
  · have h' : ((FloatKind.f64.decode x).sum (FloatKind.f64.decode y)).map FloatKind.f64.format.write = some r := h
    rcases read_cases .f64 x with ⟨h1, m, i, e1, hi, hm, _⟩ | ⟨h1, _⟩ | ⟨h1, _⟩
    · rcases read_cases .f64 y with ⟨h2, n, j, e2, hj, hn, _⟩ | ⟨h2, _⟩ | ⟨h2, _⟩
      · rw [e1, e2, sx, sy] at h'
        obtain rfl := Option.some.inj h'
        show sgn FloatKind.f64.format (FloatKind.f64.format.nearest (if signed false m (i - min i j).toNat + signed false n (j - min i j).toNat = 0 then false && false else decide (signed false m (i - min i j).toNat + signed false n (j - min i j).toNat < 0)) _ _) = false
        rw [sgn_nearest]
        rw [signed_pos, signed_pos]
        split
        · rfl
        · rw [decide_eq_false_iff_not]; exact Int.not_lt.2 (Int.add_nonneg (Int.natCast_nonneg _) (Int.natCast_nonneg _))
      · omega
      · omega
    · omega
    · omega
  · rw [Z_pos sx, Z_pos sy]; omega

theorem sqrt_pos {x : Nat} (hx : Fin64 x) (sx : sgn FloatKind.f64.format x = false) : ∃ r, fsqrt (some x) = some r ∧ sgn FloatKind.f64.format r = false ∧ (FloatKind.f64.decode r).isNaN = false := by
  rcases read_cases .f64 x with ⟨h1, m, i, e1, hi, hm, _⟩ | ⟨h1, _⟩ | ⟨h1, _⟩
  · rw [sx] at e1
    have key : ∀ q e, (FloatKind.f64.decode x).root 54 = some (.number false q e) → ∃ r, fsqrt (some x) = some r ∧ sgn FloatKind.f64.format r = false ∧ (FloatKind.f64.decode r).isNaN = false := by
      intro q e h
      refine ⟨FloatKind.f64.format.write (.number false q e), ?_, sgn_nearest _ _ _, write_not_nan .f64 _ rfl⟩
      show ((FloatKind.f64.decode x).root 54).map FloatKind.f64.format.write = _
      rw [h]; rfl
    by_cases hm0 : m = 0
    · refine key m i ?_
      rw [e1]; unfold Datum.root; dsimp only; rw [if_pos hm0]
    · obtain ⟨q, e, h⟩ : ∃ q e, (FloatKind.f64.decode x).root 54 = some (.number false q e) := by
        rw [e1]; unfold Datum.root; dsimp only; rw [if_neg hm0, if_neg (by decide)]; exact ⟨_, _, rfl⟩
      exact key q e h
  · unfold Fin64 at hx; rw [inf64] at h1; omega
  · unfold Fin64 at hx; rw [inf64] at h1; omega

theorem fin_one : Fin64 one64 := by unfold Fin64; decide +kernel
theorem sgn_one : sgn FloatKind.f64.format one64 = false := by decide +kernel
theorem rg_one : rg FloatKind.f64.format one64 = one64 := by decide +kernel

theorem aDen {t : Option Nat} (ht : FV t 1080) : ∃ d, fop .add .f64 (some one64) (fsqrt (fop .add .f64 (some one64) (fop .mul .f64 t t))) = some d ∧ Fin64 d ∧ one64 ≤ rg FloatKind.f64.format d := by
  have hm := FV.mul ht ht (G := 1086) (by omega) (by omega) (by omega) (by omega)
  obtain ⟨b, rfl, hb⟩ := ht.fin (by omega)
  obtain ⟨m, em, fm⟩ := hm.fin (by omega)
  have sm := mul_self_sgn hb em
  have hp := FV.add (G := 1087) fv_one hm (by omega) (by omega) (by omega) (by omega)
  obtain ⟨p, ep, fp⟩ := hp.fin (by omega)
  have sp := (add_pos fin_one fm sgn_one sm (by rw [em] at ep; exact ep)).1
  obtain ⟨s, es, ss, ns⟩ := sqrt_pos fp sp
  have hs := UB.sqrt (G := 1083) hp.ub (by omega) (by omega) (by omega)
  rw [ep, es] at hs ⊢
  have fs := FV.of hs ns
  have hd := FV.add (G := 1084) fv_one fs (by omega) (by omega) (by omega) (by omega)
  obtain ⟨d, ed, fd⟩ := hd.fin (by omega)
  have fsf := fin_ub hs (by omega) ns
  exact ⟨d, ed, fd, by rw [← rg_one]; exact (add_pos fin_one fsf sgn_one ss ed).2⟩

theorem units_one (N : Nat) (hN : N = 1074) : units FloatKind.f64.format one64 = 2 ^ N := by
  obtain ⟨M, rfl⟩ : ∃ M, N = M + 2 := ⟨N - 2, by omega⟩
  have h := (units_words M (by omega)).2.1
  rw [Nat.pow_add]
  rw [show one64 = 4607182418800017408 from rfl, h, Nat.mul_comm]

theorem div_step (A B C D : Nat) (h1 : A ≤ D) (h2 : B ≤ C) : A * B ≤ C * D := by
  rw [Nat.mul_comm C D]; exact Nat.mul_le_mul h1 h2

theorem fv_step {t : Option Nat} {E : Nat} (ht : FV t E) (hE : E ≤ 1080) : FV (aStep t) (E + 1) := by
  obtain ⟨d, ed, fd, hd⟩ := aDen (ht.mono hE)
  obtain ⟨b, rfl, hb⟩ := ht.fin (by omega)
  have hd0 : 0 < rg FloatKind.f64.format d := by have : 0 < one64 := by decide
                                                 omega
  obtain ⟨r, hr⟩ := fin_quo hb fd hd0
  unfold aStep
  rw [ed]
  refine ⟨?_, r, hr, floatBits_not_nan hr⟩
  have := UB.div_of (G := E) (by omega) ht.ub (by omega) (show rg FloatKind.f64.format d < FloatKind.f64.format.infRung from fd) hd0 ?_ hr
  · rw [show fop .quo .f64 (some b) (some d) = some r from hr]; exact this
  · have h1 := units_le FloatKind.f64.format hd
    rw [units_one 1074 rfl] at h1
    exact div_step _ _ _ _ (ht.ub b rfl) h1

theorem fv_iter {t : Option Nat} (ht : FV t 1075) : ∀ j : Nat, j ≤ 3 → FV (aIter t j) (1075 + j)
  | 0, _ => ht
  | j + 1, h => fv_step (E := 1075 + j) (fv_iter ht j (by omega)) (by omega)

theorem ang_inv : ∀ j : Nat, j < 8 → ubB (fop .quo .f64 (some one64) (some (fl (15 - 2 * (j : Int))))) 1074 = true := by decide +kernel
theorem ang_num : ∀ j : Nat, j < 8 → numB (fop .quo .f64 (some one64) (some (fl (15 - 2 * (j : Int))))) = true := by decide +kernel
theorem aP_fv {u : Option Nat} (hu : FV u 1082) : ∀ j : Nat, j ≤ 8 → FV (aP u j) (1074 + 9 * j)
  | 0, _ => fv_zero.mono (by omega)
  | j + 1, h => by
    have ih := aP_fv hu j (by omega)
    have h1 := FV.of_B (ang_inv j (by omega)) (ang_num j (by omega))
    exact FV.sub h1 (FV.mul (G := 1082 + 9 * j) hu ih (by omega) (by omega) (by omega) (by omega)) (by omega) (by omega) (by omega) (by omega)
def twoPiB : Bool := decide (rg FloatKind.f64.format twoPi64 < FloatKind.f64.format.infRung) && decide (0 < rg FloatKind.f64.format twoPi64) && decide (2 ^ 1076 ≤ units FloatKind.f64.format (rg FloatKind.f64.format twoPi64))
theorem twoPiB_yes : twoPiB = true := by decide +kernel
theorem aE_fv {t : Option Nat} (ht : FV t 1078) : FV (aE t) 1160 := by
  have hu := FV.mul ht ht (G := 1082) (by omega) (by omega) (by omega) (by omega)
  have hp := aP_fv hu 8 (by omega)
  have h1 := FV.mul ht hp (G := 1150) (by omega) (by omega) (by omega) (by omega)
  have h2 := FV.mul (FV.of_B (E := 1077) (by decide +kernel) (by decide +kernel)) h1 (G := 1153) (a := some eight64) (by omega) (by omega) (by omega) (by omega)
  have hc := twoPiB_yes
  unfold twoPiB at hc
  rw [Bool.and_eq_true, Bool.and_eq_true, decide_eq_true_eq, decide_eq_true_eq, decide_eq_true_eq] at hc
  exact FV.divc (F := 1076) (G := 1159) h2 (by omega) hc.1.1 hc.1.2 hc.2 (by omega) (by omega)
theorem aA_fv {t : Option Nat} (ht : FV t 1075) (o x y : Bool) : FV (aA o x y t) 1162 := by
  have h1 := aE_fv (fv_iter ht 3 (by omega))
  have h2 : FV (aOver o (aE (aIter t 3))) 1161 := by
    unfold aOver
    split
    · exact FV.sub (FV.of_B (E := 1072) (by decide +kernel) (by decide +kernel)) h1 (by omega) (by omega) (by omega) (by omega)
    · exact h1.mono (by omega)
  have h3 : FV (aLeft x (aOver o (aE (aIter t 3)))) 1162 := by
    unfold aLeft
    split
    · exact FV.sub fv_half h2 (by omega) (by omega) (by omega) (by omega)
    · exact h2.mono (by omega)
  unfold aA aDown
  split
  · exact h3.neg
  · exact h3
theorem fits_aA {t : Option Nat} (ht : FV t 1075) (o x y : Bool) : fitsNarrow (aA o x y t) := fits_of_UB (aA_fv ht o x y).ub (by omega)

/-- The lesser part over the greater is a number, at most 2. -/
theorem a0_fv {a b : Nat} (ha : Fin64 a) (hb : Fin64 b) (hub : UB (some b) 1300) (h0 : 0 < rg FloatKind.f64.format a) (hle : rg FloatKind.f64.format b ≤ rg FloatKind.f64.format a) : FV (fop .quo .f64 (some b) (some a)) 1075 := by
  obtain ⟨r, hr⟩ := fin_quo hb ha h0
  refine ⟨?_, r, hr, floatBits_not_nan hr⟩
  rw [show fop .quo .f64 (some b) (some a) = some r from hr]
  exact UB.div_of (G := 1074) (E := 1300) (by omega) hub (by omega) (show rg FloatKind.f64.format a < FloatKind.f64.format.infRung from ha) h0 (Nat.mul_le_mul_right _ (units_le _ hle)) hr

theorem a_ge : ∀ j : Nat, j < 8 → (FloatKind.f64.format.order (fl (15 - 2 * (j : Int))) 4607182418800017408 == some .gt || FloatKind.f64.format.order (fl (15 - 2 * (j : Int))) 4607182418800017408 == some .eq) = true := by decide +kernel
theorem a_end : (FloatKind.f64.format.order (fl (15 - 2 * ((8 : Nat) : Int))) 4607182418800017408 == some .gt || FloatKind.f64.format.order (fl (15 - 2 * ((8 : Nat) : Int))) 4607182418800017408 == some .eq) = false := by decide +kernel
theorem a_dec : ∀ j : Nat, j < 8 → floatBits .sub .f64 (fl (15 - 2 * (j : Int))) 4611686018427387904 = some (fl (15 - 2 * ((j + 1 : Nat) : Int))) := by decide +kernel
theorem a_val : ∀ j : Nat, j < 9 → val .f64 (fl (15 - 2 * (j : Int))) = some (fl (15 - 2 * (j : Int))) := by decide +kernel
theorem a_start : 4624633867356078080 = fl (15 - 2 * ((0 : Nat) : Int)) := by decide +kernel
end Go.Proofs.Ytecglaggmheokaa
