/- Integers in floats: what is done with them is exact. -/
import Derived.Test.YtdbcajiagjeplaaGreatDoorZFConv
import Derived.Test.YtdbcajiagjeplaaGreatDoorZFWalk
set_option linter.unusedVariables false
set_option linter.unusedSimpArgs false
namespace Go.Proofs.YtdbcajiagjeplaaGreatDoor
open Ieee near

def Lk : FloatKind → Nat | .f32 => 149 | .f64 => 1074
theorem lp_eq (k : FloatKind) : k.format.leastPlace = -((Lk k : Nat) : Int) := by cases k <;> rfl
/-- The word x has the value n (a zero of either sign for 0). -/
structure IsI (k : FloatKind) (x : Nat) (n : Int) : Prop where
  lt : x < 2 ^ k.format.width
  fin : rg k.format x < k.format.infRung
  z : Z k.format x = n * ((2 ^ Lk k : Nat) : Int)
theorem natAbs_scale (n : Int) (P : Nat) : (n * (P : Int)).natAbs = n.natAbs * P := by rw [Int.natAbs_mul, Int.natAbs_natCast]
theorem scale_inj {a b : Int} {P : Nat} (hP : 0 < P) (h : a * (P : Int) = b * (P : Int)) : a = b := Int.eq_of_mul_eq_mul_right (by omega) h
theorem IsI.parts {k : FloatKind} {x : Nat} {n : Int} (h : IsI k x n) : ∃ m a : Nat, k.decode x = .number (sgn k.format x) m ((a : Int) - ((Lk k : Nat) : Int)) ∧ m * 2 ^ a = n.natAbs * 2 ^ Lk k ∧ m < 2 * k.format.binade ∧ (if sgn k.format x then -((n.natAbs : Nat) : Int) else ((n.natAbs : Nat) : Int)) = n := by
  have hf := h.fin
  rcases read_cases k x with ⟨_, m, e, e1, he, hm, hlt⟩ | ⟨h1, _⟩ | ⟨h1, _⟩
  · rw [lp_eq] at he hm
    have hz := h.z
    have hP : 0 < 2 ^ Lk k := Nat.two_pow_pos _
    have hu : units k.format (rg k.format x) = n.natAbs * 2 ^ Lk k := by
      have := congrArg Int.natAbs hz
      rw [natAbs_scale] at this
      unfold Z at this
      split at this
      · rw [Int.natAbs_neg, Int.natAbs_natCast] at this; exact this
      · rw [Int.natAbs_natCast] at this; exact this
    refine ⟨m, (e - -((Lk k : Nat) : Int)).toNat, ?_, by rw [hm, hu], hlt, ?_⟩
    · rw [e1]; congr 1; omega
    · unfold Z at hz
      rw [hu] at hz
      generalize 2 ^ Lk k = P at *
      split
      · rename_i hs
        rw [if_pos hs] at hz
        refine scale_inj hP ?_
        rw [← hz, Int.neg_mul]
        rfl
      · rename_i hs
        rw [if_neg hs] at hz
        refine scale_inj hP ?_
        rw [← hz]
        rfl
  · omega
  · omega
theorem inf_big (k : FloatKind) {N : Nat} (hN : N < 2 * k.format.binade) : N * 2 ^ Lk k < units k.format k.format.infRung := by
  have hB := binade_pos k.format
  have key : ∀ c : Nat, k.format.infRung = c * k.format.binade + k.format.binade → Lk k + 1 ≤ c → N * 2 ^ Lk k < units k.format k.format.infRung := by
    intro c hc hL
    rw [hc, units_at k.format c k.format.binade (by omega) (.inr (Nat.le_refl _))]
    have h1 : N * 2 ^ Lk k < 2 * k.format.binade * 2 ^ Lk k := Nat.mul_lt_mul_of_pos_right hN (Nat.two_pow_pos _)
    have h2 : 2 * k.format.binade * 2 ^ Lk k = k.format.binade * 2 ^ (Lk k + 1) := by rw [Nat.pow_succ, Nat.mul_comm 2, Nat.mul_assoc, Nat.mul_comm 2]
    have h3 : k.format.binade * 2 ^ (Lk k + 1) ≤ k.format.binade * 2 ^ c := Nat.mul_le_mul_left _ (Nat.pow_le_pow_right (by omega) hL)
    omega
  cases k
  · exact key 254 rfl (by decide)
  · exact key 2046 rfl (by decide)
theorem inf_lt_sign (k : FloatKind) : k.format.infRung < k.format.signWeight := by cases k <;> decide
theorem width_sign (k : FloatKind) : 2 ^ k.format.width = 2 * k.format.signWeight := by cases k <;> rfl
theorem IsI.word {k : FloatKind} {s : Bool} {q N : Nat} (hq : q < k.format.infRung) (hu : units k.format q = N * 2 ^ Lk k) : IsI k (k.format.word s q) (if s then -((N : Nat) : Int) else ((N : Nat) : Int)) := by
  have hs := inf_lt_sign k
  have hw := width_sign k
  refine ⟨?_, by rw [rg_word k s q (by omega)]; exact hq, ?_⟩
  · unfold Format.word
    split <;> omega
  · unfold Z
    rw [sgn_word k s q (by omega), rg_word k s q (by omega), hu]
    cases s
    · simp
    · simp [Int.neg_mul]
theorem near_int (k : FloatKind) (s : Bool) (mag : Nat) (place : Int) (N : Nat) (hN : N < 2 * k.format.binade)
    (h : mag * 2 ^ (place + ((Lk k : Nat) : Int)).toNat = N * 2 ^ Lk k * 2 ^ (-((Lk k : Nat) : Int) - place).toNat) : IsI k (k.format.nearest s mag place) (if s then -((N : Nat) : Int) else ((N : Nat) : Int)) := by
  obtain ⟨q, hq⟩ := represents k.format N 0 hN (by rw [lp_eq]; omega)
  rw [lp_eq, show ((0 : Int) - -((Lk k : Nat) : Int)).toNat = Lk k by omega] at hq
  have hlt : q < k.format.infRung := by
    rcases Nat.lt_or_ge q k.format.infRung with h1 | h1
    · exact h1
    · have h2 := units_le k.format h1
      have h3 := inf_big k hN
      omega
  rw [nearest_exact k.format s mag place q (Nat.le_of_lt hlt) (by rw [lp_eq, hq, Int.sub_neg]; exact h)]
  exact IsI.word hlt hq
theorem shift_eq {P Q A C : Nat} (h : P * 2 ^ A = Q * 2 ^ C) : P * 2 ^ (A - C) = Q * 2 ^ (C - A) := by
  rcases Nat.le_total C A with h1 | h1
  · rw [show C - A = 0 by omega, Nat.pow_zero, Nat.mul_one]
    refine Nat.eq_of_mul_eq_mul_right (Nat.two_pow_pos C) ?_
    rw [Nat.mul_assoc, ← Nat.pow_add, show A - C + C = A by omega]
    exact h
  · rw [show A - C = 0 by omega, Nat.pow_zero, Nat.mul_one]
    refine Nat.eq_of_mul_eq_mul_right (Nat.two_pow_pos A) ?_
    rw [h, Nat.mul_assoc, ← Nat.pow_add, show C - A + A = C by omega]
theorem sign_mul {s t : Bool} {m n : Int} (hm : (if s then -((m.natAbs : Nat) : Int) else ((m.natAbs : Nat) : Int)) = m) (hn : (if t then -((n.natAbs : Nat) : Int) else ((n.natAbs : Nat) : Int)) = n) :
    (if (s ^^ t) then -(((m * n).natAbs : Nat) : Int) else (((m * n).natAbs : Nat) : Int)) = m * n := by
  rw [Int.natAbs_mul, Int.natCast_mul]
  conv => rhs; rw [← hm, ← hn]
  cases s <;> cases t <;> simp [Int.neg_mul, Int.mul_neg]
theorem IsI.mul {k : FloatKind} {x y : Nat} {m n : Int} (hx : IsI k x m) (hy : IsI k y n) (hb : (m * n).natAbs < 2 * k.format.binade) : ∃ r, floatBits .mul k x y = some r ∧ IsI k r (m * n) := by
  obtain ⟨u, a, e1, hu, _, hs⟩ := hx.parts
  obtain ⟨v, b, e2, hv, _, ht⟩ := hy.parts
  have h1 : floatBits .mul k x y = some (k.format.nearest (sgn k.format x ^^ sgn k.format y) (u * v) ((a : Int) - ((Lk k : Nat) : Int) + ((b : Int) - ((Lk k : Nat) : Int)))) := by
    show (((k.decode x).product (k.decode y)).map k.format.write) = _
    rw [e1, e2]; rfl
  refine ⟨_, h1, ?_⟩
  have h2 := near_int k (sgn k.format x ^^ sgn k.format y) (u * v) ((a : Int) - ((Lk k : Nat) : Int) + ((b : Int) - ((Lk k : Nat) : Int))) (m * n).natAbs hb (by
    rw [show ((a : Int) - ((Lk k : Nat) : Int) + ((b : Int) - ((Lk k : Nat) : Int)) + ((Lk k : Nat) : Int)).toNat = a + b - Lk k by omega, show (-((Lk k : Nat) : Int) - ((a : Int) - ((Lk k : Nat) : Int) + ((b : Int) - ((Lk k : Nat) : Int)))).toNat = Lk k - (a + b) by omega]
    refine shift_eq ?_
    rw [Nat.pow_add, Nat.mul_mul_mul_comm, hu, hv, Int.natAbs_mul, Nat.mul_mul_mul_comm, ← Nat.mul_assoc])
  rw [sign_mul hs ht] at h2
  exact h2
theorem sum_sign {s : Bool} {total n : Int} {P Q : Nat} (hP : 0 < P) (hQ : 0 < Q) (h : total * (P : Int) = n * (Q : Int)) (h0 : total = 0 → n = 0) :
    (if (if total = 0 then s else decide (total < 0)) then -((n.natAbs : Nat) : Int) else ((n.natAbs : Nat) : Int)) = n := by
  by_cases ht : total = 0
  · rw [h0 ht]; simp
  · rw [if_neg ht]
    by_cases hl : total < 0
    · have h1 : total * (P : Int) < 0 := Int.mul_neg_of_neg_of_pos hl (by omega)
      have h2 : n < 0 := by
        rcases Int.lt_or_le n 0 with h3 | h3
        · exact h3
        · have := Int.mul_nonneg h3 (show (0 : Int) ≤ (Q : Int) by omega); omega
      rw [decide_eq_true hl, if_pos rfl]; omega
    · have h1 : 0 ≤ total * (P : Int) := Int.mul_nonneg (by omega) (by omega)
      have h2 : 0 ≤ n := by
        rcases Int.lt_or_le n 0 with h3 | h3
        · have := Int.mul_neg_of_neg_of_pos h3 (show (0 : Int) < (Q : Int) by omega); omega
        · exact h3
      rw [decide_eq_false hl]; simp; omega
theorem signed_scale (s : Bool) (u w c a : Nat) (ha : w + c = a) {m : Int} {L : Nat} (hu : u * 2 ^ a = m.natAbs * 2 ^ L) (hs : (if s then -((m.natAbs : Nat) : Int) else ((m.natAbs : Nat) : Int)) = m) :
    signed s u w * ((2 ^ c : Nat) : Int) = m * ((2 ^ L : Nat) : Int) := by
  have h1 : ((u <<< w : Nat) : Int) * ((2 ^ c : Nat) : Int) = ((m.natAbs : Nat) : Int) * ((2 ^ L : Nat) : Int) := by
    rw [← Int.natCast_mul, ← Int.natCast_mul, Nat.shiftLeft_eq, Nat.mul_assoc, ← Nat.pow_add, ha, hu]
  unfold signed
  conv => rhs; rw [← hs]
  cases s
  · simpa using h1
  · simp only [if_true, Int.neg_mul]
    rw [h1]
/-- A sum of two numbers that hold integers. -/
theorem sum_int (k : FloatKind) (s t : Bool) (u v a b : Nat) {m n : Int} (hu : u * 2 ^ a = m.natAbs * 2 ^ Lk k) (hv : v * 2 ^ b = n.natAbs * 2 ^ Lk k) (hs : (if s then -((m.natAbs : Nat) : Int) else ((m.natAbs : Nat) : Int)) = m) (ht : (if t then -((n.natAbs : Nat) : Int) else ((n.natAbs : Nat) : Int)) = n) (hb : (m + n).natAbs < 2 * k.format.binade) :
    ∃ r, ((Datum.number s u ((a : Int) - ((Lk k : Nat) : Int))).sum (.number t v ((b : Int) - ((Lk k : Nat) : Int)))).map k.format.write = some r ∧ IsI k r (m + n) := by
  obtain ⟨c, hc⟩ : ∃ c, c = min a b := ⟨_, rfl⟩
  have hbase : min ((a : Int) - ((Lk k : Nat) : Int)) ((b : Int) - ((Lk k : Nat) : Int)) = (c : Int) - ((Lk k : Nat) : Int) := by omega
  have ea : ((a : Int) - ((Lk k : Nat) : Int) - ((c : Int) - ((Lk k : Nat) : Int))).toNat = a - c := by omega
  have eb : ((b : Int) - ((Lk k : Nat) : Int) - ((c : Int) - ((Lk k : Nat) : Int))).toNat = b - c := by omega
  have h1 := signed_scale s u (a - c) c a (by omega) hu hs
  have h2 := signed_scale t v (b - c) c b (by omega) hv ht
  obtain ⟨T, hT⟩ : ∃ T, T = signed s u (a - c) + signed t v (b - c) := ⟨_, rfl⟩
  have h3 : T * ((2 ^ c : Nat) : Int) = (m + n) * ((2 ^ Lk k : Nat) : Int) := by rw [hT, Int.add_mul, Int.add_mul, h1, h2]
  refine ⟨k.format.nearest (if T = 0 then s && t else decide (T < 0)) T.natAbs ((c : Int) - ((Lk k : Nat) : Int)), ?_, ?_⟩
  · unfold Datum.sum
    dsimp only
    rw [hbase, ea, eb, ← hT]
    rfl
  · have h4 := near_int k (if T = 0 then s && t else decide (T < 0)) T.natAbs ((c : Int) - ((Lk k : Nat) : Int)) (m + n).natAbs hb (by
      rw [show ((c : Int) - ((Lk k : Nat) : Int) + ((Lk k : Nat) : Int)).toNat = c by omega, show (-((Lk k : Nat) : Int) - ((c : Int) - ((Lk k : Nat) : Int))).toNat = 0 by omega, Nat.pow_zero, Nat.mul_one]
      have := congrArg Int.natAbs h3
      rw [natAbs_scale, natAbs_scale] at this
      exact this)
    rw [sum_sign (Nat.two_pow_pos c) (Nat.two_pow_pos (Lk k)) h3 (fun h0 => by
      rw [h0, Int.zero_mul] at h3
      exact scale_inj (Nat.two_pow_pos (Lk k)) (by rw [Int.zero_mul]; exact h3.symm))] at h4
    exact h4
theorem IsI.add {k : FloatKind} {x y : Nat} {m n : Int} (hx : IsI k x m) (hy : IsI k y n) (hb : (m + n).natAbs < 2 * k.format.binade) : ∃ r, floatBits .add k x y = some r ∧ IsI k r (m + n) := by
  obtain ⟨u, a, e1, hu, _, hs⟩ := hx.parts
  obtain ⟨v, b, e2, hv, _, ht⟩ := hy.parts
  obtain ⟨r, hr, hi⟩ := sum_int k _ _ u v a b hu hv hs ht hb
  refine ⟨r, ?_, hi⟩
  show ((k.decode x).sum (k.decode y)).map k.format.write = some r
  rw [e1, e2]; exact hr
theorem IsI.sub {k : FloatKind} {x y : Nat} {m n : Int} (hx : IsI k x m) (hy : IsI k y n) (hb : (m - n).natAbs < 2 * k.format.binade) : ∃ r, floatBits .sub k x y = some r ∧ IsI k r (m - n) := by
  obtain ⟨u, a, e1, hu, _, hs⟩ := hx.parts
  obtain ⟨v, b, e2, hv, _, ht⟩ := hy.parts
  obtain ⟨r, hr, hi⟩ := sum_int k _ (!sgn k.format y) u v a b (n := -n) hu (by rw [Int.natAbs_neg]; exact hv) hs (by
    rw [Int.natAbs_neg]
    conv => rhs; rw [← ht]
    cases sgn k.format y <;> simp) (by rw [← Int.sub_eq_add_neg]; exact hb)
  refine ⟨r, ?_, by rw [Int.sub_eq_add_neg]; exact hi⟩
  show ((k.decode x).sum (k.decode y).opposite).map k.format.write = some r
  rw [e1, e2]; exact hr
/-- The word of another kind. -/
theorem IsI.conv {k j : FloatKind} {x : Nat} {n : Int} (h : IsI k x n) (hb : n.natAbs < 2 * j.format.binade) : IsI j (j.encode (k.decode x)) n := by
  obtain ⟨u, a, e1, hu, _, hs⟩ := h.parts
  have h2 := near_int j (sgn k.format x) u ((a : Int) - ((Lk k : Nat) : Int)) n.natAbs hb (by
    rcases Nat.le_total (Lk k) (Lk j) with hL | hL
    · rw [show ((a : Int) - ((Lk k : Nat) : Int) + ((Lk j : Nat) : Int)).toNat = a + (Lk j - Lk k) by omega, show (-((Lk j : Nat) : Int) - ((a : Int) - ((Lk k : Nat) : Int))).toNat = 0 by omega, Nat.pow_zero, Nat.mul_one, Nat.pow_add, ← Nat.mul_assoc, hu, Nat.mul_assoc, ← Nat.pow_add, show Lk k + (Lk j - Lk k) = Lk j by omega]
    · rw [show ((a : Int) - ((Lk k : Nat) : Int) + ((Lk j : Nat) : Int)).toNat = a - (Lk k - Lk j) by omega, show (-((Lk j : Nat) : Int) - ((a : Int) - ((Lk k : Nat) : Int))).toNat = (Lk k - Lk j) - a by omega]
      refine shift_eq ?_
      rw [hu, Nat.mul_assoc, ← Nat.pow_add, show Lk j + (Lk k - Lk j) = Lk k by omega])
  rw [hs] at h2
  rw [e1]
  exact h2
theorem isI_of (k : FloatKind) (n : Int) (hb : n.natAbs < 2 * k.format.binade) : IsI k (k.nearest n) n := by
  have h2 := near_int k (decide (n < 0)) n.natAbs 0 n.natAbs hb (by
    rw [show ((0 : Int) + ((Lk k : Nat) : Int)).toNat = Lk k by omega, show (-((Lk k : Nat) : Int) - 0).toNat = 0 by omega, Nat.pow_zero, Nat.mul_one])
  rw [show (if decide (n < 0) = true then -((n.natAbs : Nat) : Int) else ((n.natAbs : Nat) : Int)) = n by
    by_cases h : n < 0
    · rw [if_pos (by simpa using h)]; omega
    · rw [if_neg (by simpa using h)]; omega] at h2
  exact h2
theorem IsI.num {k : FloatKind} {x : Nat} {n : Int} (h : IsI k x n) : (k.decode x).isNaN = false := by
  obtain ⟨u, a, e1, _⟩ := h.parts
  rw [e1]; rfl
theorem IsI.order {k : FloatKind} {x y : Nat} {m n : Int} (hx : IsI k x m) (hy : IsI k y n) : (k.format.order x y == some .eq) = decide (m = n) := by
  rw [order_Z k x y (Nat.le_of_lt hx.fin) (Nat.le_of_lt hy.fin), hx.z, hy.z]
  have hP : 0 < 2 ^ Lk k := Nat.two_pow_pos _
  generalize 2 ^ Lk k = P at *
  rcases Int.lt_trichotomy m n with h | h | h
  · rw [cmp_lt (Int.mul_lt_mul_of_pos_right h (by omega)), decide_eq_false (by omega)]; rfl
  · rw [cmp_eq (by rw [h]), decide_eq_true h]; rfl
  · rw [cmp_gt (Int.mul_lt_mul_of_pos_right h (by omega)), decide_eq_false (by omega)]; rfl
end Go.Proofs.YtdbcajiagjeplaaGreatDoor
set_option linter.unusedVariables false
set_option linter.unusedSimpArgs false
namespace Go.Proofs.YtdbcajiagjeplaaGreatDoor
open Ieee near

theorem cut_zero (s : Bool) (N drop : Nat) : Toward.zero.cut s (N * 2 ^ drop) drop = N := by
  show N * 2 ^ drop / (1 <<< min drop ((N * 2 ^ drop).log2 + 2)) + 0 = N
  rw [Nat.shiftLeft_eq, Nat.one_mul, Nat.add_zero]
  by_cases h : drop ≤ (N * 2 ^ drop).log2 + 2
  · rw [Nat.min_eq_left h, Nat.mul_div_cancel _ (Nat.two_pow_pos _)]
  · have h1 : N * 2 ^ drop < 2 ^ ((N * 2 ^ drop).log2 + 1) := Nat.lt_log2_self
    have h2 : 2 ^ ((N * 2 ^ drop).log2 + 1) ≤ 2 ^ drop := Nat.pow_le_pow_right (by omega) (by omega)
    have h3 : N = 0 := by
      rcases Nat.eq_zero_or_pos N with h | h
      · exact h
      · have := Nat.mul_le_mul_right (2 ^ drop) h
        omega
    subst h3
    simp
theorem IsI.toInt {k : FloatKind} {x : Nat} {n : Int} (h : IsI k x n) (h0 : -4611686018427387904 ≤ n) (h1 : n ≤ 4611686018427387904) : floatToIntVal k x .i64 = some n := by
  obtain ⟨u, a, e1, hu, _, hs⟩ := h.parts
  have hcut : Toward.zero.cut (sgn k.format x) (u <<< ((a : Int) - ((Lk k : Nat) : Int)).toNat) (-((a : Int) - ((Lk k : Nat) : Int))).toNat = n.natAbs := by
    rw [Nat.shiftLeft_eq, show ((a : Int) - ((Lk k : Nat) : Int)).toNat = a - Lk k by omega, show (-((a : Int) - ((Lk k : Nat) : Int))).toNat = Lk k - a by omega, shift_eq hu]
    exact cut_zero _ _ _
  have hti : (k.decode x).toInt .zero = some n := by
    rw [e1]
    show some (signed _ (Toward.zero.cut (sgn k.format x) (u <<< ((a : Int) - ((Lk k : Nat) : Int)).toNat) (-((a : Int) - ((Lk k : Nat) : Int))).toNat) 0) = _
    rw [hcut]
    refine congrArg some ?_
    unfold signed
    rw [Nat.shiftLeft_eq, Nat.pow_zero, Nat.mul_one]
    exact hs
  unfold floatToIntVal
  rw [hti]
  dsimp only
  have hmin : IntKind.i64.min = -9223372036854775808 := by decide
  have hmax : IntKind.i64.max = 9223372036854775807 := by decide
  rw [if_pos (by rw [hmin, hmax]; omega)]
theorem quo_le {Q u v a b more D : Nat} (h : u * 2 ^ a = Q * v * 2 ^ b) (hu : 0 < u) (hQ : Q < 2 ^ (D - 1)) (hD : 1 ≤ D) (hm : D + v.log2 - u.log2 = more) : a ≤ b + more := by
  rcases Nat.lt_or_ge (b + more) a with hlt | hge
  · exfalso
    have h1 : 2 ^ u.log2 ≤ u := Nat.log2_self_le (by omega)
    have h2 : v < 2 ^ (v.log2 + 1) := Nat.lt_log2_self
    have h3 : u * 2 ^ (b + more + 1) ≤ Q * v * 2 ^ b := by
      rw [← h]; exact Nat.mul_le_mul_left _ (Nat.pow_le_pow_right (by omega) hlt)
    have h4 : u * 2 ^ (more + 1) ≤ Q * v := by
      refine Nat.le_of_mul_le_mul_right (c := 2 ^ b) ?_ (Nat.two_pow_pos b)
      rw [Nat.mul_assoc, ← Nat.pow_add, show more + 1 + b = b + more + 1 by omega]
      exact h3
    have h5 : 2 ^ (D + v.log2 + 1) ≤ u * 2 ^ (more + 1) := by
      refine Nat.le_trans ?_ (Nat.mul_le_mul_right _ h1)
      rw [← Nat.pow_add]
      exact Nat.pow_le_pow_right (by omega) (by omega)
    have h6 : Q * v ≤ 2 ^ (D - 1) * 2 ^ (v.log2 + 1) := Nat.mul_le_mul (Nat.le_of_lt hQ) (Nat.le_of_lt h2)
    rw [← Nat.pow_add, show D - 1 + (v.log2 + 1) = D + v.log2 by omega] at h6
    have h7 : 2 ^ (D + v.log2) < 2 ^ (D + v.log2 + 1) := Nat.pow_lt_pow_right (by omega) (by omega)
    omega
  · exact hge
theorem IsI.quo {k : FloatKind} {x y : Nat} {q n : Int} (hx : IsI k x (q * n)) (hy : IsI k y n) (hn : n ≠ 0) (hb : q.natAbs < 2 * k.format.binade) : ∃ r, floatBits .quo k x y = some r ∧ IsI k r q := by
  obtain ⟨u, a, e1, hu, _, hs⟩ := hx.parts
  obtain ⟨v, b, e2, hv, _, ht⟩ := hy.parts
  have hv0 : v ≠ 0 := by
    rintro rfl
    rw [Nat.zero_mul] at hv
    have h1 : 0 < n.natAbs * 2 ^ Lk k := Nat.mul_pos (by omega) (Nat.two_pow_pos _)
    omega
  have hkey : u * 2 ^ a = q.natAbs * v * 2 ^ b := by rw [hu, Int.natAbs_mul, Nat.mul_assoc, ← hv, Nat.mul_assoc]
  have hsign : (if (sgn k.format x ^^ sgn k.format y) then -((q.natAbs : Nat) : Int) else ((q.natAbs : Nat) : Int)) = q := by
    have hq1 : q.natAbs = q ∨ (q.natAbs : Int) = -q := by omega
    have hnn : n < 0 ∨ 0 < n := by omega
    have hqq : q < 0 ∨ q = 0 ∨ 0 < q := by omega
    have hprod : ∀ c : Bool, (if c then -(((q * n).natAbs : Nat) : Int) else (((q * n).natAbs : Nat) : Int)) = q * n → (c = true → q * n ≤ 0) ∧ (c = false → 0 ≤ q * n) := fun c h => by
      cases c
      · exact ⟨fun e => (by cases e), fun _ => (by rw [← h]; simp)⟩
      · exact ⟨fun _ => (by rw [← h]; simp), fun e => (by cases e)⟩
    have h1 := hprod _ hs
    have h2 : (sgn k.format y = true → n ≤ 0) ∧ (sgn k.format y = false → 0 ≤ n) := by
      revert ht
      cases sgn k.format y
      · intro ht; exact ⟨fun e => (by cases e), fun _ => (by simp at ht; omega)⟩
      · intro ht; exact ⟨fun _ => (by simp at ht; omega), fun e => (by cases e)⟩
    rcases hqq with hq | rfl | hq
    · rcases hnn with hn1 | hn1
      · have h3 : 0 < q * n := Int.mul_pos_of_neg_of_neg hq hn1
        have e3 : sgn k.format x = false := by cases hc : sgn k.format x with | false => rfl | true => have := h1.1 hc; omega
        have e4 : sgn k.format y = true := by cases hc : sgn k.format y with | true => rfl | false => have := h2.2 hc; omega
        rw [e3, e4]; simp; omega
      · have h3 : q * n < 0 := Int.mul_neg_of_neg_of_pos hq hn1
        have e3 : sgn k.format x = true := by cases hc : sgn k.format x with | true => rfl | false => have := h1.2 hc; omega
        have e4 : sgn k.format y = false := by cases hc : sgn k.format y with | false => rfl | true => have := h2.1 hc; omega
        rw [e3, e4]; simp; omega
    · simp
    · rcases hnn with hn1 | hn1
      · have h3 : q * n < 0 := Int.mul_neg_of_pos_of_neg hq hn1
        have e3 : sgn k.format x = true := by cases hc : sgn k.format x with | true => rfl | false => have := h1.2 hc; omega
        have e4 : sgn k.format y = true := by cases hc : sgn k.format y with | true => rfl | false => have := h2.2 hc; omega
        rw [e3, e4]; simp; omega
      · have h3 : 0 < q * n := Int.mul_pos hq hn1
        have e3 : sgn k.format x = false := by cases hc : sgn k.format x with | false => rfl | true => have := h1.1 hc; omega
        have e4 : sgn k.format y = false := by cases hc : sgn k.format y with | false => rfl | true => have := h2.1 hc; omega
        rw [e3, e4]; simp; omega
  obtain ⟨D, hD⟩ : ∃ D, D = k.format.fractionBits + 2 := ⟨_, rfl⟩
  obtain ⟨more, hmore⟩ : ∃ more, D + v.log2 - u.log2 = more := ⟨_, rfl⟩
  have h1 : floatBits .quo k x y = some (k.format.nearest (sgn k.format x ^^ sgn k.format y) (2 * (u <<< more / v) + (u <<< more % v != 0).toNat) ((a : Int) - ((Lk k : Nat) : Int) - ((b : Int) - ((Lk k : Nat) : Int)) - (more : Int) - 1)) := by
    show ((k.decode x).quotient (k.format.fractionBits + 2) (k.decode y)).map k.format.write = _
    rw [e1, e2, ← hD]
    unfold Datum.quotient
    dsimp only
    rw [if_neg hv0, hmore]
    rfl
  refine ⟨_, h1, ?_⟩
  have h2 : ∃ E : Nat, 2 * (u <<< more / v) + (u <<< more % v != 0).toNat = q.natAbs * 2 ^ E ∧ (q.natAbs = 0 ∨ ((a : Int) - ((Lk k : Nat) : Int) - ((b : Int) - ((Lk k : Nat) : Int)) - (more : Int) - 1) = -((E : Nat) : Int)) := by
    by_cases hu0 : u = 0
    · subst hu0
      have hq0 : q.natAbs = 0 := by
        rw [Nat.zero_mul] at hkey
        rcases Nat.eq_zero_or_pos q.natAbs with h | h
        · exact h
        · have := Nat.mul_pos (Nat.mul_pos h (Nat.pos_of_ne_zero hv0)) (Nat.two_pow_pos b)
          omega
      refine ⟨0, ?_, .inl hq0⟩
      rw [hq0, Nat.zero_shiftLeft, Nat.zero_div, Nat.zero_mod]
      rfl
    · have hle := quo_le (D := D) hkey (Nat.pos_of_ne_zero hu0) (by
        have hB : k.format.binade = 2 ^ k.format.fractionBits := rfl
        rw [hD, show k.format.fractionBits + 2 - 1 = k.format.fractionBits + 1 by omega, Nat.pow_succ, Nat.mul_comm, ← hB]
        exact hb) (by omega) hmore
      have hdiv : u <<< more = q.natAbs * 2 ^ (b + more - a) * v := by
        rw [Nat.shiftLeft_eq]
        refine Nat.eq_of_mul_eq_mul_right (Nat.two_pow_pos a) ?_
        rw [Nat.mul_right_comm, hkey, Nat.mul_assoc, ← Nat.pow_add, Nat.mul_right_comm _ v, Nat.mul_right_comm _ (2 ^ (b + more - a)), Nat.mul_assoc _ (2 ^ (b + more - a)), ← Nat.pow_add, show b + more - a + a = b + more by omega, Nat.mul_right_comm]
      refine ⟨b + more - a + 1, ?_, .inr (by omega)⟩
      rw [hdiv, Nat.mul_div_cancel _ (Nat.pos_of_ne_zero hv0), Nat.mul_mod_left, Nat.pow_succ, ← Nat.mul_assoc]
      show 2 * q.natAbs * 2 ^ (b + more - a) + 0 = q.natAbs * (2 ^ (b + more - a) * 2)
      rw [Nat.add_zero, Nat.mul_comm _ 2, Nat.mul_assoc, Nat.mul_left_comm]
  obtain ⟨E, h3, h4⟩ := h2
  have h5 := near_int k (sgn k.format x ^^ sgn k.format y) (2 * (u <<< more / v) + (u <<< more % v != 0).toNat) ((a : Int) - ((Lk k : Nat) : Int) - ((b : Int) - ((Lk k : Nat) : Int)) - (more : Int) - 1) q.natAbs hb (by
    rw [h3]
    rcases h4 with h4 | h4
    · rw [h4]; simp
    · rw [h4, show (-((E : Nat) : Int) + ((Lk k : Nat) : Int)).toNat = Lk k - E by omega, show (-((Lk k : Nat) : Int) - -((E : Nat) : Int)).toNat = E - Lk k by omega]
      refine shift_eq ?_
      rw [Nat.mul_right_comm])
  rw [hsign] at h5
  exact h5
end Go.Proofs.YtdbcajiagjeplaaGreatDoor
set_option linter.unusedVariables false
set_option linter.unusedSimpArgs false
namespace Go.Proofs.YtdbcajiagjeplaaGreatDoor
open Ieee near

theorem IsI.val {k : FloatKind} {x : Nat} {n : Int} (h : IsI k x n) : val k x = some x := val_some h.num
theorem neg_words (k : FloatKind) (x : Nat) : rg k.format (Op.negFloat k x) = rg k.format x ∧ sgn k.format (Op.negFloat k x) = !sgn k.format x := by
  have key : ∀ w : Nat, k.format.signWeight = 2 ^ w → k.format.exponentBits + k.format.fractionBits = w → rg k.format (Op.negFloat k x) = rg k.format x ∧ sgn k.format (Op.negFloat k x) = !sgn k.format x := by
    intro w hw hw2
    unfold rg sgn Op.negFloat
    rw [hw, hw2]
    constructor
    · rw [Nat.xor_mod_two_pow, Nat.mod_self, Nat.xor_zero]
    · have h1 : ∀ y : Nat, (y / 2 ^ w % 2 == 1) = y.testBit w := fun y => by rw [Nat.testBit_eq_decide_div_mod_eq]; rfl
      rw [h1, h1, Nat.testBit_xor, Nat.testBit_two_pow_self, Bool.xor_true]
  exact key _ rfl rfl
theorem neg_lt_width (k : FloatKind) {x : Nat} (h : x < 2 ^ k.format.width) : Op.negFloat k x < 2 ^ k.format.width := by
  refine Nat.xor_lt_two_pow h (Nat.pow_lt_pow_right (by omega) ?_)
  cases k <;> decide
theorem IsI.neg {k : FloatKind} {x : Nat} {n : Int} (h : IsI k x n) : IsI k (Op.negFloat k x) (-n) := by
  obtain ⟨h1, h2⟩ := neg_words k x
  refine ⟨neg_lt_width k h.lt, by rw [h1]; exact h.fin, ?_⟩
  have hz := h.z
  unfold Z at hz ⊢
  rw [h1, h2, Int.neg_mul, ← hz]
  cases sgn k.format x <;> simp
theorem neg_neg_word (k : FloatKind) (x : Nat) : Op.negFloat k (Op.negFloat k x) = x := by
  unfold Op.negFloat
  rw [Nat.xor_assoc, Nat.xor_self, Nat.xor_zero]
theorem fis_some {k : FloatKind} {r c : Nat} (h : FIs k r (some c)) : r = c := (val_eq_some h.out).1.symm
section
variable {k : FloatKind} {x y r : Nat} {m n q : Int}
theorem IsI.fmul (hx : IsI k x m) (hy : IsI k y n) (hb : (m * n).natAbs < 2 * k.format.binade) (h : FIs k r (fop .mul k (Proofs.YtdbcajiagjeplaaGreatDoor.val k x) (Proofs.YtdbcajiagjeplaaGreatDoor.val k y))) : IsI k r (m * n) := by
  obtain ⟨r0, h0, hi⟩ := hx.mul hy hb
  rw [hx.val, hy.val, show fop .mul k (some x) (some y) = some r0 from h0] at h
  rw [fis_some h]; exact hi
theorem IsI.fadd (hx : IsI k x m) (hy : IsI k y n) (hb : (m + n).natAbs < 2 * k.format.binade) (h : FIs k r (fop .add k (Proofs.YtdbcajiagjeplaaGreatDoor.val k x) (Proofs.YtdbcajiagjeplaaGreatDoor.val k y))) : IsI k r (m + n) := by
  obtain ⟨r0, h0, hi⟩ := hx.add hy hb
  rw [hx.val, hy.val, show fop .add k (some x) (some y) = some r0 from h0] at h
  rw [fis_some h]; exact hi
theorem IsI.fsub (hx : IsI k x m) (hy : IsI k y n) (hb : (m - n).natAbs < 2 * k.format.binade) (h : FIs k r (fop .sub k (Proofs.YtdbcajiagjeplaaGreatDoor.val k x) (Proofs.YtdbcajiagjeplaaGreatDoor.val k y))) : IsI k r (m - n) := by
  obtain ⟨r0, h0, hi⟩ := hx.sub hy hb
  rw [hx.val, hy.val, show fop .sub k (some x) (some y) = some r0 from h0] at h
  rw [fis_some h]; exact hi
theorem IsI.fquo (hx : IsI k x (q * n)) (hy : IsI k y n) (hn : n ≠ 0) (hb : q.natAbs < 2 * k.format.binade) (h : FIs k r (fop .quo k (Proofs.YtdbcajiagjeplaaGreatDoor.val k x) (Proofs.YtdbcajiagjeplaaGreatDoor.val k y))) : IsI k r q := by
  obtain ⟨r0, h0, hi⟩ := hx.quo hy hn hb
  rw [hx.val, hy.val, show fop .quo k (some x) (some y) = some r0 from h0] at h
  rw [fis_some h]; exact hi
theorem IsI.fwide (hx : IsI .f32 x n) (hb : n.natAbs < 2 * FloatKind.f64.format.binade) (h : FIs .f64 r (Proofs.YtdbcajiagjeplaaGreatDoor.fwide (Proofs.YtdbcajiagjeplaaGreatDoor.val .f32 x))) : IsI .f64 r n := by
  rw [hx.val] at h
  rw [fis_some h]; exact hx.conv hb
theorem IsI.fnarrow (hx : IsI .f64 x n) (hb : n.natAbs < 2 * FloatKind.f32.format.binade) (h : FIs .f32 r (Proofs.YtdbcajiagjeplaaGreatDoor.fnarrow (Proofs.YtdbcajiagjeplaaGreatDoor.val .f64 x))) : IsI .f32 r n := by
  rw [hx.val] at h
  rw [fis_some h]; exact hx.conv hb
theorem IsI.fits (hx : IsI .f64 x n) (hb : n.natAbs < 2 * FloatKind.f32.format.binade) : fitsNarrow (Proofs.YtdbcajiagjeplaaGreatDoor.val .f64 x) := by
  rw [hx.val]
  intro b hbx _ _
  obtain rfl := Option.some.inj hbx
  obtain ⟨u, a, e1, _⟩ := (hx.conv (j := .f32) hb).parts
  rw [e1]; rfl
theorem IsI.fis (hx : IsI k x n) : FIs k x (some x) := FIs.mk hx.val hx.lt
/-- Of one sign, of one value: one word. -/
theorem IsI.word_eq (hx : IsI k x n) (hy : IsI k y n) (hs : sgn k.format x = sgn k.format y) : x = y := by
  have h1 : units k.format (rg k.format x) = units k.format (rg k.format y) := by
    have hz := hx.z.trans hy.z.symm
    unfold Z at hz
    rw [hs] at hz
    cases hc : sgn k.format y with
    | true => rw [hc] at hz; simp at hz; omega
    | false => rw [hc] at hz; simp at hz; omega
  rw [← word_of k x hx.lt, ← word_of k y hy.lt, hs, units_inj k.format h1]
end
end Go.Proofs.YtdbcajiagjeplaaGreatDoor
