/- The sine: what is determined ahead of its loop. -/
import Derived.Test.YtecglaggmheokaaFSine
set_option linter.unusedVariables false
set_option linter.unusedSimpArgs false
namespace Go.Proofs.Ytecglaggmheokaa
open Ieee near

/-- A float64 that is finite. -/
def Fin64 (x : Nat) : Prop := rg FloatKind.f64.format x < 9218868437227405312

theorem Fin64.num {x : Nat} (h : Fin64 x) : (FloatKind.f64.decode x).isNaN = false := by
  rw [decode_isNaN, decide_eq_false_iff_not, inf64]
  show ¬ 9218868437227405312 < rg FloatKind.f64.format x
  unfold Fin64 at h
  omega
theorem Fin64.val {x : Nat} (h : Fin64 x) : val .f64 x = some x := val_some h.num
theorem Fin64.read {x : Nat} (h : Fin64 x) : ∃ s m e, FloatKind.f64.decode x = .number s m e := by
  rcases read_cases .f64 x with ⟨_, m, e, hd, _⟩ | ⟨h1, _⟩ | ⟨h1, _⟩
  · exact ⟨_, m, e, hd⟩
  · unfold Fin64 at h; rw [inf64] at h1; omega
  · unfold Fin64 at h; rw [inf64] at h1; omega
theorem fin_sub {x y : Nat} (hx : Fin64 x) (hy : Fin64 y) : ∃ r, floatBits .sub .f64 x y = some r := by
  obtain ⟨s, m, e, h1⟩ := hx.read
  obtain ⟨t, n, f, h2⟩ := hy.read
  show ∃ r, ((FloatKind.f64.decode x).sum (FloatKind.f64.decode y).opposite).map FloatKind.f64.format.write = some r
  rw [h1, h2]
  exact ⟨_, rfl⟩
theorem fin_add {x y : Nat} (hx : Fin64 x) (hy : Fin64 y) : ∃ r, floatBits .add .f64 x y = some r := by
  obtain ⟨s, m, e, h1⟩ := hx.read
  obtain ⟨t, n, f, h2⟩ := hy.read
  show ∃ r, ((FloatKind.f64.decode x).sum (FloatKind.f64.decode y)).map FloatKind.f64.format.write = some r
  rw [h1, h2]
  exact ⟨_, rfl⟩
theorem fin_ub {x E : Nat} (h : UB (some x) E) (hE : E < 2098) (hn : (FloatKind.f64.decode x).isNaN = false) : Fin64 x := by
  obtain ⟨m, e, e1, _, _⟩ := h.read hE hn
  rcases read_cases .f64 x with ⟨h, _⟩ | ⟨_, e2⟩ | ⟨_, e2⟩
  · exact h
  · rw [e1] at e2; cases e2
  · rw [e1] at e2; cases e2
theorem fop_bits {op : BinOp} {x y r : Nat} (h : floatBits op .f64 x y = some r) : fop op .f64 (some x) (some y) = some r := h

/-- What is determined of a part of a turn t0 ahead of the sine's loop. -/
structure Prep (t0 u1 t1 u2 t2 u3 t3 : Nat) (b1 b2 b3 : Bool) : Prop where
  c1 : (FloatKind.f64.format.order t0 0 == some .lt) = b1
  a1 : floatBits .add .f64 t0 4607182418800017408 = some u1
  e1 : t1 = if b1 then u1 else t0
  c2 : (FloatKind.f64.format.order t1 4602678819172646912 == some .gt || FloatKind.f64.format.order t1 4602678819172646912 == some .eq) = b2
  a2 : floatBits .sub .f64 t1 4602678819172646912 = some u2
  e2 : t2 = if b2 then u2 else t1
  c3 : (FloatKind.f64.format.order t2 4598175219545276416 == some .gt) = b3
  a3 : floatBits .sub .f64 4602678819172646912 t2 = some u3
  e3 : t3 = if b3 then u3 else t2
  p1 : sP1 (some t0) = some t1
  p2 : sP2 (some t1) = some t2
  p3 : sP3 (some t2) = some t3
  n2 : sNeg (some t1) = b2
  f1 : Fin64 t1
  f3 : Fin64 t3
  u : UB (some t1) 1075
theorem prep {t0 : Nat} (hub : UB (some t0) 1074) (hn : (FloatKind.f64.decode t0).isNaN = false) : ∃ u1 t1 u2 t2 u3 t3 b1 b2 b3, Prep t0 u1 t1 u2 t2 u3 t3 b1 b2 b3 := by
  have f0 := fin_ub hub (by omega) hn
  have fone : Fin64 4607182418800017408 := by unfold Fin64; decide +kernel
  have fhalf : Fin64 4602678819172646912 := by unfold Fin64; decide +kernel
  obtain ⟨u1, a1⟩ := fin_add f0 fone
  obtain ⟨t1, e1⟩ : ∃ t1, t1 = if (FloatKind.f64.format.order t0 0 == some .lt) then u1 else t0 := ⟨_, rfl⟩
  have p1 : sP1 (some t0) = some t1 := by
    rw [e1]; unfold sP1
    show (if (FloatKind.f64.format.order t0 0 == some .lt) = true then floatBits .add .f64 t0 4607182418800017408 else some t0) = _
    rw [a1]; split <;> rfl
  have h1 : UB (some t1) 1075 := by rw [← p1]; exact UB.sP1 hub
  have n1 : (FloatKind.f64.decode t1).isNaN = false := by
    rw [e1]; split
    · exact floatBits_not_nan a1
    · exact hn
  have f1 := fin_ub h1 (by omega) n1
  obtain ⟨u2, a2⟩ := fin_sub f1 fhalf
  obtain ⟨t2, e2⟩ : ∃ t2, t2 = if (FloatKind.f64.format.order t1 4602678819172646912 == some .gt || FloatKind.f64.format.order t1 4602678819172646912 == some .eq) then u2 else t1 := ⟨_, rfl⟩
  have p2 : sP2 (some t1) = some t2 := by
    rw [e2]; unfold sP2
    show (if (FloatKind.f64.format.order t1 4602678819172646912 == some .gt || FloatKind.f64.format.order t1 4602678819172646912 == some .eq) = true then floatBits .sub .f64 t1 4602678819172646912 else some t1) = _
    rw [a2]; split <;> rfl
  have h2 : UB (some t2) 1076 := by rw [← p2]; exact UB.sP2 h1
  have n2 : (FloatKind.f64.decode t2).isNaN = false := by
    rw [e2]; split
    · exact floatBits_not_nan a2
    · exact n1
  have f2 := fin_ub h2 (by omega) n2
  obtain ⟨u3, a3⟩ := fin_sub fhalf f2
  obtain ⟨t3, e3⟩ : ∃ t3, t3 = if (FloatKind.f64.format.order t2 4598175219545276416 == some .gt) then u3 else t2 := ⟨_, rfl⟩
  have p3 : sP3 (some t2) = some t3 := by
    rw [e3]; unfold sP3
    show (if (FloatKind.f64.format.order t2 4598175219545276416 == some .gt) = true then floatBits .sub .f64 4602678819172646912 t2 else some t2) = _
    rw [a3]; split <;> rfl
  have h3 : UB (some t3) 1077 := by rw [← p3]; exact UB.sP3 h2
  have n3 : (FloatKind.f64.decode t3).isNaN = false := by
    rw [e3]; split
    · exact floatBits_not_nan a3
    · exact n2
  exact ⟨u1, t1, u2, t2, u3, t3, _, _, _, rfl, a1, e1, rfl, a2, e2, rfl, a3, e3, p1, p2, p3, rfl, f1, fin_ub h3 (by omega) n3, h1⟩

/-- What is determined of a float64 below 2^52. -/
structure Cut (x : Nat) (n : Int) (tr W t0 : Nat) (z : Bool) : Prop where
  toInt : floatToIntVal .f64 x .i64 = some n
  near : FloatKind.f64.nearest n = W
  trunc : FloatKind.f64.encode ((FloatKind.f64.decode x).integral .zero) = tr
  zero : (FloatKind.f64.format.order tr 0 == some .eq) = z
  word : W = if z then 0 else tr
  sub : floatBits .sub .f64 x W = some t0
  ub : UB (some t0) 1074
  num : (FloatKind.f64.decode t0).isNaN = false
  x0 : Fin64 x

theorem zero_mul_of {u P : Nat} (e : u = 0 * P) : u = 0 := e.trans (Nat.zero_mul P)
theorem mul_ne {n : Nat} (P : Nat) (hP : 0 < P) (h : 0 < n) (e : 0 = n * P) : False := absurd e (Nat.ne_of_lt (Nat.mul_pos h hP))

theorem fin_zero (s : Bool) : Fin64 (FloatKind.f64.format.word s 0) := by
  unfold Fin64
  cases s <;> decide +kernel

/-- Nought taken away, of either sign: the same bound. -/
theorem Z_word0 (s : Bool) : Z FloatKind.f64.format (FloatKind.f64.format.word s 0) = 0 := by
  refine (Z_zero_iff .f64 _).2 ?_
  exact rg_word .f64 s 0 (by decide)

theorem cut_all {x : Nat} (h : rg FloatKind.f64.format x < 4841369599423283200) : ∃ n tr W t0 z, Cut x n tr W t0 z := by
  have hle := Nat.le_of_lt (units_lt FloatKind.f64.format h)
  rw [units_52] at hle
  have hx0 : Fin64 x := by unfold Fin64; omega
  rcases read_cases .f64 x with ⟨h1, m, e, hd, he, hu, hm⟩ | ⟨h1, _⟩ | ⟨h1, _⟩
  · rw [lp64] at he hu
    rw [bin64] at hm
    rw [show e - -1074 = e + 1074 by omega] at hu
    rw [← hu] at hle
    obtain ⟨a1, a2, a3⟩ := cut_parts 1074 m e rfl he hm hle
    obtain ⟨s, hs⟩ : ∃ s, s = sgn FloatKind.f64.format x := ⟨_, rfl⟩
    rw [← hs] at hd
    obtain ⟨n, hn⟩ : ∃ n, n = (m <<< e.toNat) / 2 ^ (-e).toNat := ⟨_, rfl⟩
    rw [← hn] at a1 a2 a3
    have hint : (FloatKind.f64.decode x).integral .zero = .number s n 0 := by
      rw [hd]
      show Datum.number s (Toward.zero.cut s (m <<< e.toNat) (-e).toNat) 0 = _
      rw [zero_cut, ← hn]
    obtain ⟨q, hq⟩ := represents FloatKind.f64.format n 0 (by rw [bin64]; omega) (by rw [lp64]; omega)
    rw [lp64, show (0 - -1074 : Int).toNat = 1074 by omega] at hq
    have hqi : q < FloatKind.f64.format.infRung := by
      refine rung_lt q _ 0 (show 4841369599423283200 < _ by omega) ?_
      rw [hq, units_52]
      exact Nat.le_trans a2 hle
    have hnear : ∀ t : Bool, FloatKind.f64.format.nearest t n 0 = FloatKind.f64.format.word t q := fun t =>
      nearest_exact FloatKind.f64.format t n 0 q (Nat.le_of_lt hqi) (by rw [lp64, hq, show (-1074 - 0 : Int).toNat = 0 by omega, show (0 - -1074 : Int).toNat = 1074 by omega, Nat.pow_zero, Nat.mul_one])
    have hsw : q < FloatKind.f64.format.signWeight := by rw [inf64'] at hqi; rw [sw64]; omega
    have hfw : ∀ t : Bool, Fin64 (FloatKind.f64.format.word t q) := fun t => by
      unfold Fin64
      rw [rg_word .f64 t q hsw]
      rw [inf64] at hqi; exact hqi
    have hq0 : q = 0 ↔ n = 0 := by
      have z := units_zero FloatKind.f64.format
      constructor
      · intro h0
        subst h0
        rw [z] at hq
        rcases Nat.eq_zero_or_pos n with h | h
        · exact h
        · exact (mul_ne _ (Nat.two_pow_pos 1074) h hq).elim
      · intro h0
        subst h0
        exact units_inj _ ((zero_mul_of hq).trans z.symm)
    have hti : (FloatKind.f64.decode x).toInt .zero = some (signed s n 0) := by
      unfold Datum.toInt
      rw [hint]
    have hsg : signed s n 0 = if s then -(n : Int) else (n : Int) := by
      unfold signed
      rw [Nat.shiftLeft_zero]
    have hz := order_eq_zero .f64 (x := FloatKind.f64.format.word s q) (hfw s).num
    rw [rg_word .f64 s q hsw] at hz
    have hW : ∀ W, (W = if decide (q = 0) then 0 else FloatKind.f64.format.word s q) → Fin64 W ∧ UB (fop .sub .f64 (some x) (some W)) 1074 := by
      intro W hW
      by_cases h0 : q = 0
      · rw [decide_eq_true h0, if_pos rfl] at hW
        subst hW
        refine ⟨fin_zero false, UB.sub_Z h1 (fin_zero false) (by omega) ?_⟩
        have hz0 : Z FloatKind.f64.format 0 = 0 := Z_word0 false
        have h5 := Z_near x 1074 rfl s q n _ hs.symm hu.symm hqi hq a2 a3
        rw [h0, Z_word0] at h5
        rw [hz0]; exact h5
      · rw [decide_eq_false h0, if_neg Bool.false_ne_true] at hW
        subst hW
        exact ⟨hfw s, UB.sub_Z h1 (hfw s) (by omega) (Z_near x 1074 rfl s q n _ hs.symm hu.symm hqi hq a2 a3)⟩
    obtain ⟨W, eW⟩ : ∃ W, W = if decide (q = 0) then 0 else FloatKind.f64.format.word s q := ⟨_, rfl⟩
    obtain ⟨fW, uW⟩ := hW W eW
    obtain ⟨t0, ht⟩ := fin_sub hx0 fW
    refine ⟨signed s n 0, FloatKind.f64.format.word s q, W, t0, decide (q = 0), ?_, ?_, ?_, hz, eW, ht, ?_, floatBits_not_nan ht, hx0⟩
    · unfold floatToIntVal
      rw [hti]
      dsimp only
      rw [if_pos]
      rw [hsg]
      have e1 : IntKind.min .i64 = -9223372036854775808 := rfl
      have e2 : IntKind.max .i64 = 9223372036854775807 := rfl
      rw [e1, e2]
      split <;> omega
    · show FloatKind.f64.format.nearest (decide (signed s n 0 < 0)) (signed s n 0).natAbs 0 = W
      have hna : (signed s n 0).natAbs = n := by rw [hsg]; split <;> omega
      rw [hna, hnear, eW]
      by_cases h0 : q = 0
      · rw [decide_eq_true h0, if_pos rfl, h0, hsg, hq0.1 h0]
        cases s <;> rfl
      · rw [decide_eq_false h0, if_neg Bool.false_ne_true]
        have hn0 : n ≠ 0 := fun h => h0 (hq0.2 h)
        congr 1
        rw [hsg]
        cases s
        · rw [if_neg Bool.false_ne_true, decide_eq_false (by omega)]
        · rw [if_pos rfl, decide_eq_true (by omega)]
    · rw [hint]
      exact hnear s
    · rw [← fop_bits ht]; exact uW
  · rw [inf64] at h1; omega
  · rw [inf64] at h1; omega

theorem sub_self64 {x : Nat} (h : Fin64 x) : floatBits .sub .f64 x x = some 0 := by
  obtain ⟨s, m, e, hd⟩ := h.read
  show ((FloatKind.f64.decode x).sum (FloatKind.f64.decode x).opposite).map FloatKind.f64.format.write = some 0
  rw [hd]
  unfold Datum.opposite Datum.sum
  dsimp only
  rw [Int.min_self, Int.sub_self]
  have h2 : signed s m (0 : Int).toNat + signed (!s) m (0 : Int).toNat = 0 := by
    unfold signed
    cases s
    · rw [if_neg (by decide), if_pos (by decide)]; omega
    · rw [if_pos rfl, if_neg (by decide)]; omega
  rw [h2, if_pos rfl]
  have h3 : (s && !s) = false := by cases s <;> rfl
  rw [h3]
  show some (FloatKind.f64.format.nearest false (0 : Int).natAbs e) = some 0
  rw [show (0 : Int).natAbs = 0 from rfl, nearest_exact _ _ _ _ 0 (by rw [inf64]; omega) (by rw [units_zero, Nat.zero_mul, Nat.zero_mul])]
  rfl
theorem sub_self_none {x : Nat} (h : ¬ Fin64 x) : fop .sub .f64 (val .f64 x) (val .f64 x) = none := by
  cases hn : (FloatKind.f64.decode x).isNaN with
  | true => rw [val_none hn]; rfl
  | false =>
    rw [val_some hn]
    rcases read_cases .f64 x with ⟨h1, _⟩ | ⟨h1, hd⟩ | ⟨h1, h2⟩
    · exact absurd h1 h
    · show ((FloatKind.f64.decode x).sum (FloatKind.f64.decode x).opposite).map FloatKind.f64.format.write = none
      rw [hd]
      unfold Datum.opposite Datum.sum
      cases sgn FloatKind.f64.format x <;> rfl
    · rw [h2] at hn; cases hn

/-- Not below 2^52: either sign. -/
theorem huge_pos {x : Nat} (h : Fin64 x) : (FloatKind.f64.format.order x 4841369599423283200 == some .gt || FloatKind.f64.format.order x 4841369599423283200 == some .eq) = (!sgn FloatKind.f64.format x && decide (4841369599423283200 ≤ rg FloatKind.f64.format x)) := by
  have hc : Z FloatKind.f64.format 4841369599423283200 = units FloatKind.f64.format 4841369599423283200 := rfl
  rw [order_Z .f64 x 4841369599423283200 (Nat.le_of_lt h) (by decide), hc]
  unfold Z
  have hp := units_pos (k := .f64) (q := 4841369599423283200) (by omega)
  cases hs : sgn FloatKind.f64.format x with
  | true =>
    rw [if_pos rfl, cmp_lt (by omega)]; rfl
  | false =>
    rw [if_neg Bool.false_ne_true]
    by_cases h1 : 4841369599423283200 ≤ rg FloatKind.f64.format x
    · rw [decide_eq_true h1]
      rcases Nat.lt_or_eq_of_le h1 with h2 | h2
      · have := units_lt FloatKind.f64.format h2
        rw [cmp_gt (by omega)]; rfl
      · rw [← h2, cmp_eq rfl]; rfl
    · rw [decide_eq_false h1]
      have := units_lt FloatKind.f64.format (show rg FloatKind.f64.format x < 4841369599423283200 by omega)
      rw [cmp_lt (by omega)]; rfl
theorem huge_neg {x : Nat} (h : Fin64 x) : (FloatKind.f64.format.order x 14064741636278059008 == some .lt || FloatKind.f64.format.order x 14064741636278059008 == some .eq) = (sgn FloatKind.f64.format x && decide (4841369599423283200 ≤ rg FloatKind.f64.format x)) := by
  have hc : Z FloatKind.f64.format 14064741636278059008 = -(units FloatKind.f64.format 4841369599423283200 : Int) := rfl
  rw [order_Z .f64 x 14064741636278059008 (Nat.le_of_lt h) (by decide), hc]
  unfold Z
  have hp := units_pos (k := .f64) (q := 4841369599423283200) (by omega)
  cases hs : sgn FloatKind.f64.format x with
  | false =>
    rw [if_neg Bool.false_ne_true, cmp_gt (by omega)]; rfl
  | true =>
    rw [if_pos rfl]
    by_cases h1 : 4841369599423283200 ≤ rg FloatKind.f64.format x
    · rw [decide_eq_true h1]
      rcases Nat.lt_or_eq_of_le h1 with h2 | h2
      · have := units_lt FloatKind.f64.format h2
        rw [cmp_lt (by omega)]; rfl
      · rw [← h2, cmp_eq rfl]; rfl
    · rw [decide_eq_false h1]
      have := units_lt FloatKind.f64.format (show rg FloatKind.f64.format x < 4841369599423283200 by omega)
      rw [cmp_gt (by omega)]; rfl

theorem sC_val : ∀ j : Nat, j < 8 → val .f64 (sC j) = some (sC j) := by decide +kernel
theorem s_two : ∀ j : Nat, j < 8 → floatBits .mul .f64 4611686018427387904 (fl (8 - (j : Int))) = some (fl (2 * (8 - (j : Int)))) := by decide +kernel
theorem s_inc : ∀ j : Nat, j < 8 → floatBits .add .f64 (fl (2 * (8 - (j : Int)))) 4607182418800017408 = some (fl (2 * (8 - (j : Int)) + 1)) := by decide +kernel
theorem s_mul : ∀ j : Nat, j < 8 → floatBits .mul .f64 (fl (2 * (8 - (j : Int)))) (fl (2 * (8 - (j : Int)) + 1)) = some (sC j) := by decide +kernel
theorem s_dec : ∀ j : Nat, j < 8 → floatBits .sub .f64 (fl (8 - (j : Int))) 4607182418800017408 = some (fl (8 - ((j + 1 : Nat) : Int))) := by decide +kernel
theorem s_ge : ∀ j : Nat, j < 8 → (FloatKind.f64.format.order (fl (8 - (j : Int))) 4607182418800017408 == some .gt || FloatKind.f64.format.order (fl (8 - (j : Int))) 4607182418800017408 == some .eq) = true := by decide +kernel
theorem s_end : (FloatKind.f64.format.order (fl (8 - ((8 : Nat) : Int))) 4607182418800017408 == some .gt || FloatKind.f64.format.order (fl (8 - ((8 : Nat) : Int))) 4607182418800017408 == some .eq) = false := by decide +kernel
theorem s_start : 4620693217682128896 = fl (8 - ((0 : Nat) : Int)) := by decide +kernel
end Go.Proofs.Ytecglaggmheokaa
