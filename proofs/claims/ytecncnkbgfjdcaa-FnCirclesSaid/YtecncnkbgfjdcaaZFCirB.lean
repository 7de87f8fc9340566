/- Integers in floats: what is done with them is exact. -/
import Derived.Test.YtecncnkbgfjdcaaZFConv
import Derived.Test.YtecncnkbgfjdcaaZFWalk
import Derived.Test.YtecncnkbgfjdcaaZFAng
set_option linter.unusedVariables false
set_option linter.unusedSimpArgs false
namespace Go.Proofs.Ytecncnkbgfjdcaa
open Ieee near

def Lk : FloatKind → Nat | .f32 => 149 | .f64 => 1074
theorem lp_eq (k : FloatKind) : k.format.leastPlace = -((Lk k : Nat) : Int) := by cases k <;> rfl
/-- The word x has the value n (a zero of either sign for 0). -/
structure IsI (k : FloatKind) (x : Nat) (n : Int) : Prop where
  lt : x < 2 ^ k.format.width
  fin : rg k.format x < k.format.infRung
  z : Z k.format x = n * ((2 ^ Lk k : Nat) : Int)
theorem natAbs_scale (n : Int) (P : Nat) : (n * (P : Int)).natAbs = n.natAbs * P := by rw [Int.natAbs_mul, Int.natAbs_natCast]
theorem scale_inj {a b : Int} {P : Nat} (hP : 0 < P) (h : a * (P : Int) = b * (P : Int)) : a = b := Int.eq_of_mul_eq_mul_right (by omega) h
theorem IsI.parts {k : FloatKind} {x : Nat} {n : Int} (h : IsI k x n) : ∃ m a : Nat, k.decode x = .number (sgn k.format x) m ((a : Int) - ((Lk k : Nat) : Int)) ∧ m * 2 ^ a = n.natAbs * 2 ^ Lk k ∧ m < 2 * k.format.binade ∧ (if sgn k.format x then -((n.natAbs : Nat) : Int) else ((n.natAbs : Nat) : Int)) = n := by
  have hf := h.fin
  rcases read_cases k x with ⟨_, m, e, e1, he, hm, hlt⟩ | ⟨h1, _⟩ | ⟨h1, _⟩
  · rw [lp_eq] at he hm
    have hz := h.z
    have hP : 0 < 2 ^ Lk k := Nat.two_pow_pos _
    have hu : units k.format (rg k.format x) = n.natAbs * 2 ^ Lk k := by
      have := congrArg Int.natAbs hz
      rw [natAbs_scale] at this
      unfold Z at this
      split at this
      · rw [Int.natAbs_neg, Int.natAbs_natCast] at this; exact this
      · rw [Int.natAbs_natCast] at this; exact this
    refine ⟨m, (e - -((Lk k : Nat) : Int)).toNat, ?_, by rw [hm, hu], hlt, ?_⟩
    · rw [e1]; congr 1; omega
    · unfold Z at hz
      rw [hu] at hz
      generalize 2 ^ Lk k = P at *
      split
      · rename_i hs
        rw [if_pos hs] at hz
        refine scale_inj hP ?_
        rw [← hz, Int.neg_mul]
        rfl
      · rename_i hs
        rw [if_neg hs] at hz
        refine scale_inj hP ?_
        rw [← hz]
        rfl
  · omega
  · omega
theorem inf_big (k : FloatKind) {N : Nat} (hN : N < 2 * k.format.binade) : N * 2 ^ Lk k < units k.format k.format.infRung := by
  have hB := binade_pos k.format
  have key : ∀ c : Nat, k.format.infRung = c * k.format.binade + k.format.binade → Lk k + 1 ≤ c → N * 2 ^ Lk k < units k.format k.format.infRung := by
    intro c hc hL
    rw [hc, units_at k.format c k.format.binade (by omega) (.inr (Nat.le_refl _))]
    have h1 : N * 2 ^ Lk k < 2 * k.format.binade * 2 ^ Lk k := Nat.mul_lt_mul_of_pos_right hN (Nat.two_pow_pos _)
    have h2 : 2 * k.format.binade * 2 ^ Lk k = k.format.binade * 2 ^ (Lk k + 1) := by rw [Nat.pow_succ, Nat.mul_comm 2, Nat.mul_assoc, Nat.mul_comm 2]
    have h3 : k.format.binade * 2 ^ (Lk k + 1) ≤ k.format.binade * 2 ^ c := Nat.mul_le_mul_left _ (Nat.pow_le_pow_right (by omega) hL)
    omega
  cases k
  · exact key 254 rfl (by decide)
  · exact key 2046 rfl (by decide)
theorem inf_lt_sign (k : FloatKind) : k.format.infRung < k.format.signWeight := by cases k <;> decide
theorem width_sign (k : FloatKind) : 2 ^ k.format.width = 2 * k.format.signWeight := by cases k <;> rfl
theorem IsI.word {k : FloatKind} {s : Bool} {q N : Nat} (hq : q < k.format.infRung) (hu : units k.format q = N * 2 ^ Lk k) : IsI k (k.format.word s q) (if s then -((N : Nat) : Int) else ((N : Nat) : Int)) := by
  have hs := inf_lt_sign k
  have hw := width_sign k
  refine ⟨?_, by rw [rg_word k s q (by omega)]; exact hq, ?_⟩
  · unfold Format.word
    split <;> omega
  · unfold Z
    rw [sgn_word k s q (by omega), rg_word k s q (by omega), hu]
    cases s
    · simp
    · simp [Int.neg_mul]
theorem near_int (k : FloatKind) (s : Bool) (mag : Nat) (place : Int) (N : Nat) (hN : N < 2 * k.format.binade)
    (h : mag * 2 ^ (place + ((Lk k : Nat) : Int)).toNat = N * 2 ^ Lk k * 2 ^ (-((Lk k : Nat) : Int) - place).toNat) : IsI k (k.format.nearest s mag place) (if s then -((N : Nat) : Int) else ((N : Nat) : Int)) := by
  obtain ⟨q, hq⟩ := represents k.format N 0 hN (by rw [lp_eq]; omega)
  rw [lp_eq, show ((0 : Int) - -((Lk k : Nat) : Int)).toNat = Lk k by omega] at hq
  have hlt : q < k.format.infRung := by
    rcases Nat.lt_or_ge q k.format.infRung with h1 | h1
    · exact h1
    · have h2 := units_le k.format h1
      have h3 := inf_big k hN
      omega
  rw [nearest_exact k.format s mag place q (Nat.le_of_lt hlt) (by rw [lp_eq, hq, Int.sub_neg]; exact h)]
  exact IsI.word hlt hq
theorem shift_eq {P Q A C : Nat} (h : P * 2 ^ A = Q * 2 ^ C) : P * 2 ^ (A - C) = Q * 2 ^ (C - A) := by
  rcases Nat.le_total C A with h1 | h1
  · rw [show C - A = 0 by omega, Nat.pow_zero, Nat.mul_one]
    refine Nat.eq_of_mul_eq_mul_right (Nat.two_pow_pos C) ?_
    rw [Nat.mul_assoc, ← Nat.pow_add, show A - C + C = A by omega]
    exact h
  · rw [show A - C = 0 by omega, Nat.pow_zero, Nat.mul_one]
    refine Nat.eq_of_mul_eq_mul_right (Nat.two_pow_pos A) ?_
    rw [h, Nat.mul_assoc, ← Nat.pow_add, show C - A + A = C by omega]
theorem sign_mul {s t : Bool} {m n : Int} (hm : (if s then -((m.natAbs : Nat) : Int) else ((m.natAbs : Nat) : Int)) = m) (hn : (if t then -((n.natAbs : Nat) : Int) else ((n.natAbs : Nat) : Int)) = n) :
    (if (s ^^ t) then -(((m * n).natAbs : Nat) : Int) else (((m * n).natAbs : Nat) : Int)) = m * n := by
  rw [Int.natAbs_mul, Int.natCast_mul]
  conv => rhs; rw [← hm, ← hn]
  cases s <;> cases t <;> simp [Int.neg_mul, Int.mul_neg]
theorem IsI.mul {k : FloatKind} {x y : Nat} {m n : Int} (hx : IsI k x m) (hy : IsI k y n) (hb : (m * n).natAbs < 2 * k.format.binade) : ∃ r, floatBits .mul k x y = some r ∧ IsI k r (m * n) := by
  obtain ⟨u, a, e1, hu, _, hs⟩ := hx.parts
  obtain ⟨v, b, e2, hv, _, ht⟩ := hy.parts
  have h1 : floatBits .mul k x y = some (k.format.nearest (sgn k.format x ^^ sgn k.format y) (u * v) ((a : Int) - ((Lk k : Nat) : Int) + ((b : Int) - ((Lk k : Nat) : Int)))) := by
    show (((k.decode x).product (k.decode y)).map k.format.write) = _
    rw [e1, e2]; rfl
  refine ⟨_, h1, ?_⟩
  have h2 := near_int k (sgn k.format x ^^ sgn k.format y) (u * v) ((a : Int) - ((Lk k : Nat) : Int) + ((b : Int) - ((Lk k : Nat) : Int))) (m * n).natAbs hb (by
    rw [show ((a : Int) - ((Lk k : Nat) : Int) + ((b : Int) - ((Lk k : Nat) : Int)) + ((Lk k : Nat) : Int)).toNat = a + b - Lk k by omega, show (-((Lk k : Nat) : Int) - ((a : Int) - ((Lk k : Nat) : Int) + ((b : Int) - ((Lk k : Nat) : Int)))).toNat = Lk k - (a + b) by omega]
    refine shift_eq ?_
    rw [Nat.pow_add, Nat.mul_mul_mul_comm, hu, hv, Int.natAbs_mul, Nat.mul_mul_mul_comm, ← Nat.mul_assoc])
  rw [sign_mul hs ht] at h2
  exact h2
theorem sum_sign {s : Bool} {total n : Int} {P Q : Nat} (hP : 0 < P) (hQ : 0 < Q) (h : total * (P : Int) = n * (Q : Int)) (h0 : total = 0 → n = 0) :
    (if (if total = 0 then s else decide (total < 0)) then -((n.natAbs : Nat) : Int) else ((n.natAbs : Nat) : Int)) = n := by
  by_cases ht : total = 0
  · rw [h0 ht]; simp
  · rw [if_neg ht]
    by_cases hl : total < 0
    · have h1 : total * (P : Int) < 0 := Int.mul_neg_of_neg_of_pos hl (by omega)
      have h2 : n < 0 := by
        rcases Int.lt_or_le n 0 with h3 | h3
        · exact h3
        · have := Int.mul_nonneg h3 (show (0 : Int) ≤ (Q : Int) by omega); omega
      rw [decide_eq_true hl, if_pos rfl]; omega
    · have h1 : 0 ≤ total * (P : Int) := Int.mul_nonneg (by omega) (by omega)
      have h2 : 0 ≤ n := by
        rcases Int.lt_or_le n 0 with h3 | h3
        · have := Int.mul_neg_of_neg_of_pos h3 (show (0 : Int) < (Q : Int) by omega); omega
        · exact h3
      rw [decide_eq_false hl]; simp; omega
theorem signed_scale (s : Bool) (u w c a : Nat) (ha : w + c = a) {m : Int} {L : Nat} (hu : u * 2 ^ a = m.natAbs * 2 ^ L) (hs : (if s then -((m.natAbs : Nat) : Int) else ((m.natAbs : Nat) : Int)) = m) :
    signed s u w * ((2 ^ c : Nat) : Int) = m * ((2 ^ L : Nat) : Int) := by
  have h1 : ((u <<< w : Nat) : Int) * ((2 ^ c : Nat) : Int) = ((m.natAbs : Nat) : Int) * ((2 ^ L : Nat) : Int) := by
    rw [← Int.natCast_mul, ← Int.natCast_mul, Nat.shiftLeft_eq, Nat.mul_assoc, ← Nat.pow_add, ha, hu]
  unfold signed
  conv => rhs; rw [← hs]
  cases s
  · simpa using h1
  · simp only [if_true, Int.neg_mul]
    rw [h1]
/-- A sum of two numbers that hold integers. -/
theorem sum_int (k : FloatKind) (s t : Bool) (u v a b : Nat) {m n : Int} (hu : u * 2 ^ a = m.natAbs * 2 ^ Lk k) (hv : v * 2 ^ b = n.natAbs * 2 ^ Lk k) (hs : (if s then -((m.natAbs : Nat) : Int) else ((m.natAbs : Nat) : Int)) = m) (ht : (if t then -((n.natAbs : Nat) : Int) else ((n.natAbs : Nat) : Int)) = n) (hb : (m + n).natAbs < 2 * k.format.binade) :
    ∃ r, ((Datum.number s u ((a : Int) - ((Lk k : Nat) : Int))).sum (.number t v ((b : Int) - ((Lk k : Nat) : Int)))).map k.format.write = some r ∧ IsI k r (m + n) := by
  obtain ⟨c, hc⟩ : ∃ c, c = min a b := ⟨_, rfl⟩
  have hbase : min ((a : Int) - ((Lk k : Nat) : Int)) ((b : Int) - ((Lk k : Nat) : Int)) = (c : Int) - ((Lk k : Nat) : Int) := by omega
  have ea : ((a : Int) - ((Lk k : Nat) : Int) - ((c : Int) - ((Lk k : Nat) : Int))).toNat = a - c := by omega
  have eb : ((b : Int) - ((Lk k : Nat) : Int) - ((c : Int) - ((Lk k : Nat) : Int))).toNat = b - c := by omega
  have h1 := signed_scale s u (a - c) c a (by omega) hu hs
  have h2 := signed_scale t v (b - c) c b (by omega) hv ht
  obtain ⟨T, hT⟩ : ∃ T, T = signed s u (a - c) + signed t v (b - c) := ⟨_, rfl⟩
  have h3 : T * ((2 ^ c : Nat) : Int) = (m + n) * ((2 ^ Lk k : Nat) : Int) := by rw [hT, Int.add_mul, Int.add_mul, h1, h2]
  refine ⟨k.format.nearest (if T = 0 then s && t else decide (T < 0)) T.natAbs ((c : Int) - ((Lk k : Nat) : Int)), ?_, ?_⟩
  · unfold Datum.sum
    dsimp only
    rw [hbase, ea, eb, ← hT]
    rfl
  · have h4 := near_int k (if T = 0 then s && t else decide (T < 0)) T.natAbs ((c : Int) - ((Lk k : Nat) : Int)) (m + n).natAbs hb (by
      rw [show ((c : Int) - ((Lk k : Nat) : Int) + ((Lk k : Nat) : Int)).toNat = c by omega, show (-((Lk k : Nat) : Int) - ((c : Int) - ((Lk k : Nat) : Int))).toNat = 0 by omega, Nat.pow_zero, Nat.mul_one]
      have := congrArg Int.natAbs h3
      rw [natAbs_scale, natAbs_scale] at this
      exact this)
    rw [sum_sign (Nat.two_pow_pos c) (Nat.two_pow_pos (Lk k)) h3 (fun h0 => by
      rw [h0, Int.zero_mul] at h3
      exact scale_inj (Nat.two_pow_pos (Lk k)) (by rw [Int.zero_mul]; exact h3.symm))] at h4
    exact h4
theorem IsI.add {k : FloatKind} {x y : Nat} {m n : Int} (hx : IsI k x m) (hy : IsI k y n) (hb : (m + n).natAbs < 2 * k.format.binade) : ∃ r, floatBits .add k x y = some r ∧ IsI k r (m + n) := by
  obtain ⟨u, a, e1, hu, _, hs⟩ := hx.parts
  obtain ⟨v, b, e2, hv, _, ht⟩ := hy.parts
  obtain ⟨r, hr, hi⟩ := sum_int k _ _ u v a b hu hv hs ht hb
  refine ⟨r, ?_, hi⟩
  show ((k.decode x).sum (k.decode y)).map k.format.write = some r
  rw [e1, e2]; exact hr
theorem IsI.sub {k : FloatKind} {x y : Nat} {m n : Int} (hx : IsI k x m) (hy : IsI k y n) (hb : (m - n).natAbs < 2 * k.format.binade) : ∃ r, floatBits .sub k x y = some r ∧ IsI k r (m - n) := by
  obtain ⟨u, a, e1, hu, _, hs⟩ := hx.parts
  obtain ⟨v, b, e2, hv, _, ht⟩ := hy.parts
  obtain ⟨r, hr, hi⟩ := sum_int k _ (!sgn k.format y) u v a b (n := -n) hu (by rw [Int.natAbs_neg]; exact hv) hs (by
    rw [Int.natAbs_neg]
    conv => rhs; rw [← ht]
    cases sgn k.format y <;> simp) (by rw [← Int.sub_eq_add_neg]; exact hb)
  refine ⟨r, ?_, by rw [Int.sub_eq_add_neg]; exact hi⟩
  show ((k.decode x).sum (k.decode y).opposite).map k.format.write = some r
  rw [e1, e2]; exact hr
/-- The word of another kind. -/
theorem IsI.conv {k j : FloatKind} {x : Nat} {n : Int} (h : IsI k x n) (hb : n.natAbs < 2 * j.format.binade) : IsI j (j.encode (k.decode x)) n := by
  obtain ⟨u, a, e1, hu, _, hs⟩ := h.parts
  have h2 := near_int j (sgn k.format x) u ((a : Int) - ((Lk k : Nat) : Int)) n.natAbs hb (by
    rcases Nat.le_total (Lk k) (Lk j) with hL | hL
    · rw [show ((a : Int) - ((Lk k : Nat) : Int) + ((Lk j : Nat) : Int)).toNat = a + (Lk j - Lk k) by omega, show (-((Lk j : Nat) : Int) - ((a : Int) - ((Lk k : Nat) : Int))).toNat = 0 by omega, Nat.pow_zero, Nat.mul_one, Nat.pow_add, ← Nat.mul_assoc, hu, Nat.mul_assoc, ← Nat.pow_add, show Lk k + (Lk j - Lk k) = Lk j by omega]
    · rw [show ((a : Int) - ((Lk k : Nat) : Int) + ((Lk j : Nat) : Int)).toNat = a - (Lk k - Lk j) by omega, show (-((Lk j : Nat) : Int) - ((a : Int) - ((Lk k : Nat) : Int))).toNat = (Lk k - Lk j) - a by omega]
      refine shift_eq ?_
      rw [hu, Nat.mul_assoc, ← Nat.pow_add, show Lk j + (Lk k - Lk j) = Lk k by omega])
  rw [hs] at h2
  rw [e1]
  exact h2
theorem isI_of (k : FloatKind) (n : Int) (hb : n.natAbs < 2 * k.format.binade) : IsI k (k.nearest n) n := by
  have h2 := near_int k (decide (n < 0)) n.natAbs 0 n.natAbs hb (by
    rw [show ((0 : Int) + ((Lk k : Nat) : Int)).toNat = Lk k by omega, show (-((Lk k : Nat) : Int) - 0).toNat = 0 by omega, Nat.pow_zero, Nat.mul_one])
  rw [show (if decide (n < 0) = true then -((n.natAbs : Nat) : Int) else ((n.natAbs : Nat) : Int)) = n by
    by_cases h : n < 0
    · rw [if_pos (by simpa using h)]; omega
    · rw [if_neg (by simpa using h)]; omega] at h2
  exact h2
theorem IsI.num {k : FloatKind} {x : Nat} {n : Int} (h : IsI k x n) : (k.decode x).isNaN = false := by
  obtain ⟨u, a, e1, _⟩ := h.parts
  rw [e1]; rfl
theorem IsI.order {k : FloatKind} {x y : Nat} {m n : Int} (hx : IsI k x m) (hy : IsI k y n) : (k.format.order x y == some .eq) = decide (m = n) := by
  rw [order_Z k x y (Nat.le_of_lt hx.fin) (Nat.le_of_lt hy.fin), hx.z, hy.z]
  have hP : 0 < 2 ^ Lk k := Nat.two_pow_pos _
  generalize 2 ^ Lk k = P at *
  rcases Int.lt_trichotomy m n with h | h | h
  · rw [cmp_lt (Int.mul_lt_mul_of_pos_right h (by omega)), decide_eq_false (by omega)]; rfl
  · rw [cmp_eq (by rw [h]), decide_eq_true h]; rfl
  · rw [cmp_gt (Int.mul_lt_mul_of_pos_right h (by omega)), decide_eq_false (by omega)]; rfl
end Go.Proofs.Ytecncnkbgfjdcaa
set_option linter.unusedVariables false
set_option linter.unusedSimpArgs false
namespace Go.Proofs.Ytecncnkbgfjdcaa
open Ieee near

theorem ulp (f : Format) (q G : Nat) (h : units f q < 2 * f.binade * 2 ^ G) : units f (q + 1) ≤ units f q + 2 ^ G := by
  obtain ⟨L, m, rfl, hm, hL⟩ := rung_form f q
  rw [units_at f L m (by omega) hL] at h ⊢
  rw [show L * f.binade + m + 1 = L * f.binade + (m + 1) by omega, units_at f L (m + 1) (by omega) (by omega), Nat.add_mul, Nat.one_mul]
  have hb := binade_pos f
  have hLG : L ≤ G := by
    rcases hL with h0 | h0
    · omega
    · refine Nat.le_of_not_lt fun hlt => ?_
      have h1 : f.binade * 2 ^ L ≤ m * 2 ^ L := Nat.mul_le_mul_right _ h0
      have h2 : 2 ^ (G + 1) ≤ 2 ^ L := Nat.pow_le_pow_right (by omega) hlt
      have h3 : f.binade * 2 ^ (G + 1) ≤ f.binade * 2 ^ L := Nat.mul_le_mul_left _ h2
      have h4 : 2 * f.binade * 2 ^ G = f.binade * 2 ^ (G + 1) := by rw [Nat.pow_succ, Nat.mul_comm 2, Nat.mul_assoc, Nat.mul_comm 2]
      omega
  have := Nat.pow_le_pow_right (n := 2) (by omega) hLG
  omega
theorem rung_le_units (f : Format) : ∀ q, q ≤ units f q
  | 0 => Nat.zero_le _
  | q + 1 => by
    have h1 := rung_le_units f q
    have h2 := units_lt f (show q < q + 1 by omega)
    omega
theorem floor_rung (f : Format) (X B : Nat) (hB : 0 < B) : ∃ q, units f q * B ≤ X ∧ X < units f (q + 1) * B := by
  have key : ∀ n, (∃ q, units f q * B ≤ X ∧ X < units f (q + 1) * B) ∨ units f n * B ≤ X := by
    intro n
    induction n with
    | zero =>
      right
      rw [show units f 0 = 0 by unfold units; rw [if_pos (binade_pos f)], Nat.zero_mul]
      exact Nat.zero_le _
    | succ n ih =>
      rcases ih with h | h
      · exact .inl h
      · rcases Nat.lt_or_ge X (units f (n + 1) * B) with h2 | h2
        · exact .inl ⟨n, h, h2⟩
        · exact .inr h2
  rcases key (X + 1) with h | h
  · exact h
  · have h1 := rung_le_units f (X + 1)
    have h2 : (X + 1) * 1 ≤ units f (X + 1) * B := Nat.mul_le_mul h1 hB
    omega
theorem raw_err (f : Format) (mag : Nat) (place : Int) (G : Nat) (h : mag * 2 ^ (place - f.leastPlace).toNat < 2 * f.binade * 2 ^ G * 2 ^ (f.leastPlace - place).toNat) :
    units f (rawRung f mag place) * 2 ^ (f.leastPlace - place).toNat ≤ mag * 2 ^ (place - f.leastPlace).toNat + 2 ^ G * 2 ^ (f.leastPlace - place).toNat ∧
    mag * 2 ^ (place - f.leastPlace).toNat ≤ units f (rawRung f mag place) * 2 ^ (f.leastPlace - place).toNat + 2 ^ G * 2 ^ (f.leastPlace - place).toNat ∧ units f (rawRung f mag place) ≤ 2 * f.binade * 2 ^ G + 2 ^ G := by
  have hB : 0 < 2 ^ (f.leastPlace - place).toNat := Nat.two_pow_pos _
  obtain ⟨q, h1, h2⟩ := floor_rung f (mag * 2 ^ (place - f.leastPlace).toNat) _ hB
  have h3 := le_raw f mag place q h1
  have h4 := raw_le f mag place (q + 1) (Nat.le_of_lt h2)
  generalize 2 ^ (f.leastPlace - place).toNat = B at *
  generalize mag * 2 ^ (place - f.leastPlace).toNat = X at *
  have h5 : units f q < 2 * f.binade * 2 ^ G := Nat.lt_of_mul_lt_mul_right (Nat.lt_of_le_of_lt h1 h)
  have h6 := ulp f q G h5
  have h7 := units_le f h3
  have h8 := units_le f h4
  generalize units f (rawRung f mag place) = R at *
  generalize units f q = u at *
  generalize units f (q + 1) = v at *
  generalize 2 * f.binade * 2 ^ G = K at *
  generalize 2 ^ G = P at *
  have m1 : v * B ≤ u * B + P * B := by rw [← Nat.add_mul]; exact Nat.mul_le_mul_right _ h6
  have m2 : u * B ≤ R * B := Nat.mul_le_mul_right _ h7
  have m3 : R * B ≤ v * B := Nat.mul_le_mul_right _ h8
  exact ⟨by omega, by omega, by omega⟩
/-- A word r of a finite number lies within E of V / B, in units of the least place. -/
structure Rd (k : FloatKind) (r : Nat) (V : Int) (B E : Nat) : Prop where
  lt : r < 2 ^ k.format.width
  fin : rg k.format r < k.format.infRung
  hi : Z k.format r * (B : Int) ≤ V + (E : Int) * (B : Int)
  lo : V ≤ Z k.format r * (B : Int) + (E : Int) * (B : Int)
theorem round_err (k : FloatKind) (s : Bool) (mag : Nat) (place : Int) (G : Nat) (h : mag * 2 ^ (place - k.format.leastPlace).toNat < 2 * k.format.binade * 2 ^ G * 2 ^ (k.format.leastPlace - place).toNat)
    (hG : 2 * k.format.binade * 2 ^ G + 2 ^ G < units k.format k.format.infRung) :
    Rd k (k.format.nearest s mag place) (if s then -((mag * 2 ^ (place - k.format.leastPlace).toNat : Nat) : Int) else ((mag * 2 ^ (place - k.format.leastPlace).toNat : Nat) : Int)) (2 ^ (k.format.leastPlace - place).toNat) (2 ^ G) := by
  obtain ⟨h1, h2, h3⟩ := raw_err k.format mag place G h
  have hlt : rawRung k.format mag place < k.format.infRung := by
    refine Nat.lt_of_not_le fun hle => ?_
    have := units_le k.format hle
    omega
  have hs := inf_lt_sign k
  have hw := width_sign k
  have hr : k.format.nearest s mag place = k.format.word s (rawRung k.format mag place) := by rw [nearest_eq, Nat.min_eq_left (Nat.le_of_lt hlt)]
  have hZ : Z k.format (k.format.nearest s mag place) = if s then -((units k.format (rawRung k.format mag place) : Nat) : Int) else ((units k.format (rawRung k.format mag place) : Nat) : Int) := by
    unfold Z
    rw [hr, sgn_word k s _ (by omega), rg_word k s _ (by omega)]
  have hB := Nat.two_pow_pos (k.format.leastPlace - place).toNat
  refine ⟨?_, ?_, ?_, ?_⟩
  · rw [hr]; unfold Format.word; split <;> omega
  · rw [hr, rg_word k s _ (by omega)]; exact hlt
  all_goals
    rw [hZ]
    clear hZ hr hlt h3 hG h hs hw hB
    generalize units k.format (rawRung k.format mag place) = R at *
    generalize mag * 2 ^ (place - k.format.leastPlace).toNat = X at *
    generalize 2 ^ (k.format.leastPlace - place).toNat = B at *
    generalize 2 ^ G = P at *
    have i1 : (R : Int) * (B : Int) ≤ (X : Int) + (P : Int) * (B : Int) := by exact_mod_cast h1
    have i2 : (X : Int) ≤ (R : Int) * (B : Int) + (P : Int) * (B : Int) := by exact_mod_cast h2
    cases s
    · simp only [Bool.false_eq_true, if_false]; omega
    · simp only [if_true, Int.neg_mul]; omega
end Go.Proofs.Ytecncnkbgfjdcaa
set_option linter.unusedVariables false
set_option linter.unusedSimpArgs false
namespace Go.Proofs.Ytecncnkbgfjdcaa
open Ieee near

theorem fin_parts {k : FloatKind} {x : Nat} (hf : rg k.format x < k.format.infRung) : ∃ m a : Nat, k.decode x = .number (sgn k.format x) m ((a : Int) - ((Lk k : Nat) : Int)) ∧ units k.format (rg k.format x) = m * 2 ^ a ∧ m < 2 * k.format.binade := by
  rcases read_cases k x with ⟨_, m, e, e1, he, hm, hlt⟩ | ⟨h1, _⟩ | ⟨h1, _⟩
  · rw [lp_eq] at he hm
    refine ⟨m, (e - -((Lk k : Nat) : Int)).toNat, ?_, hm.symm, hlt⟩
    rw [e1]; congr 1; omega
  · omega
  · omega
theorem Rd.conv {k : FloatKind} {r : Nat} {V W : Int} {B M E : Nat} (h : Rd k r V B E) (hB : 0 < B) (e : V * (M : Int) = W * (B : Int)) : Rd k r W M E := by
  refine ⟨h.lt, h.fin, ?_, ?_⟩
  · have h1 := Int.mul_le_mul_of_nonneg_right h.hi (show (0 : Int) ≤ (M : Int) by omega)
    refine Int.le_of_mul_le_mul_right (a := (B : Int)) ?_ (by omega)
    rw [Int.add_mul, e] at h1
    rw [Int.add_mul]
    have e1 : Z k.format r * (M : Int) * (B : Int) = Z k.format r * (B : Int) * (M : Int) := by rw [Int.mul_assoc, Int.mul_assoc, Int.mul_comm (M : Int)]
    have e2 : (E : Int) * (M : Int) * (B : Int) = (E : Int) * (B : Int) * (M : Int) := by rw [Int.mul_assoc, Int.mul_assoc, Int.mul_comm (M : Int)]
    omega
  · have h1 := Int.mul_le_mul_of_nonneg_right h.lo (show (0 : Int) ≤ (M : Int) by omega)
    refine Int.le_of_mul_le_mul_right (a := (B : Int)) ?_ (by omega)
    rw [Int.add_mul, e] at h1
    rw [Int.add_mul]
    have e1 : Z k.format r * (M : Int) * (B : Int) = Z k.format r * (B : Int) * (M : Int) := by rw [Int.mul_assoc, Int.mul_assoc, Int.mul_comm (M : Int)]
    have e2 : (E : Int) * (M : Int) * (B : Int) = (E : Int) * (B : Int) * (M : Int) := by rw [Int.mul_assoc, Int.mul_assoc, Int.mul_comm (M : Int)]
    omega
/-- The product of two finite numbers, whose exact value is below the rung of 2^G, lies within 2^G units of the exact one. -/
theorem mul_err {k : FloatKind} {x y : Nat} {G : Nat} (hx : rg k.format x < k.format.infRung) (hy : rg k.format y < k.format.infRung)
    (hb : (Z k.format x * Z k.format y).natAbs < 2 * k.format.binade * 2 ^ G * 2 ^ Lk k) (hG : 2 * k.format.binade * 2 ^ G + 2 ^ G < units k.format k.format.infRung) :
    ∃ r, floatBits .mul k x y = some r ∧ Rd k r (Z k.format x * Z k.format y) (2 ^ Lk k) (2 ^ G) := by
  obtain ⟨u, a, e1, hu, _⟩ := fin_parts hx
  obtain ⟨v, b, e2, hv, _⟩ := fin_parts hy
  have h1 : floatBits .mul k x y = some (k.format.nearest (sgn k.format x ^^ sgn k.format y) (u * v) ((a : Int) - ((Lk k : Nat) : Int) + ((b : Int) - ((Lk k : Nat) : Int)))) := by
    show (((k.decode x).product (k.decode y)).map k.format.write) = _
    rw [e1, e2]; rfl
  have hA : ((a : Int) - ((Lk k : Nat) : Int) + ((b : Int) - ((Lk k : Nat) : Int)) - k.format.leastPlace).toNat = a + b - Lk k := by rw [lp_eq]; omega
  have hC : (k.format.leastPlace - ((a : Int) - ((Lk k : Nat) : Int) + ((b : Int) - ((Lk k : Nat) : Int)))).toNat = Lk k - (a + b) := by rw [lp_eq]; omega
  have hpow : 2 ^ (a + b - Lk k) * 2 ^ Lk k = 2 ^ (a + b) * 2 ^ (Lk k - (a + b)) := by
    rw [← Nat.pow_add, ← Nat.pow_add]; congr 1; omega
  have hZ : Z k.format x * Z k.format y = if (sgn k.format x ^^ sgn k.format y) then -((u * v * 2 ^ (a + b) : Nat) : Int) else ((u * v * 2 ^ (a + b) : Nat) : Int) := by
    have hm : u * v * 2 ^ (a + b) = u * 2 ^ a * (v * 2 ^ b) := by rw [Nat.pow_add, Nat.mul_mul_mul_comm]
    unfold Z
    rw [hu, hv, hm, Int.natCast_mul (u * 2 ^ a)]
    cases sgn k.format x <;> cases sgn k.format y <;> simp [Int.neg_mul, Int.mul_neg]
  have habs : (Z k.format x * Z k.format y).natAbs = u * v * 2 ^ (a + b) := by
    rw [hZ]; split <;> simp only [Int.natAbs_neg, Int.natAbs_natCast]
  rw [habs] at hb
  have hr := round_err k (sgn k.format x ^^ sgn k.format y) (u * v) ((a : Int) - ((Lk k : Nat) : Int) + ((b : Int) - ((Lk k : Nat) : Int))) G (by
    rw [hA, hC]
    refine Nat.lt_of_mul_lt_mul_right (a := 2 ^ Lk k) ?_
    rw [Nat.mul_assoc (u * v), hpow, ← Nat.mul_assoc]
    have h2 := Nat.mul_lt_mul_of_pos_right hb (Nat.two_pow_pos (Lk k - (a + b)))
    rw [Nat.mul_right_comm (2 * k.format.binade * 2 ^ G)]
    exact h2) hG
  refine ⟨_, h1, hr.conv (Nat.two_pow_pos _) ?_⟩
  rw [hZ, hA, hC]
  have hn : u * v * 2 ^ (a + b - Lk k) * 2 ^ Lk k = u * v * 2 ^ (a + b) * 2 ^ (Lk k - (a + b)) := by rw [Nat.mul_assoc, hpow, ← Nat.mul_assoc]
  have hi : ((u * v * 2 ^ (a + b - Lk k) : Nat) : Int) * ((2 ^ Lk k : Nat) : Int) = ((u * v * 2 ^ (a + b) : Nat) : Int) * ((2 ^ (Lk k - (a + b)) : Nat) : Int) := by exact_mod_cast hn
  split
  · rw [Int.neg_mul, hi, Int.neg_mul]
  · exact hi
end Go.Proofs.Ytecncnkbgfjdcaa
set_option linter.unusedVariables false
set_option linter.unusedSimpArgs false
namespace Go.Proofs.Ytecncnkbgfjdcaa
open Ieee near

theorem signed_units (s : Bool) (u w c a : Nat) (ha : w + c = a) : signed s u w * ((2 ^ c : Nat) : Int) = if s then -((u * 2 ^ a : Nat) : Int) else ((u * 2 ^ a : Nat) : Int) := by
  have h1 : ((u <<< w : Nat) : Int) * ((2 ^ c : Nat) : Int) = ((u * 2 ^ a : Nat) : Int) := by
    rw [← Int.natCast_mul, Nat.shiftLeft_eq, Nat.mul_assoc, ← Nat.pow_add, ha]
  unfold signed
  cases s
  · simpa using h1
  · simp only [if_true, Int.neg_mul]
    rw [h1]
theorem sum_err (k : FloatKind) (s t : Bool) (u v a b G : Nat) (Y : Int) (hY : (if s then -((u * 2 ^ a : Nat) : Int) else ((u * 2 ^ a : Nat) : Int)) + (if t then -((v * 2 ^ b : Nat) : Int) else ((v * 2 ^ b : Nat) : Int)) = Y) (hb : Y.natAbs < 2 * k.format.binade * 2 ^ G) (hG : 2 * k.format.binade * 2 ^ G + 2 ^ G < units k.format k.format.infRung) :
    ∃ r, ((Datum.number s u ((a : Int) - ((Lk k : Nat) : Int))).sum (.number t v ((b : Int) - ((Lk k : Nat) : Int)))).map k.format.write = some r ∧ Rd k r Y 1 (2 ^ G) := by
  obtain ⟨c, hc⟩ : ∃ c, c = min a b := ⟨_, rfl⟩
  have hbase : min ((a : Int) - ((Lk k : Nat) : Int)) ((b : Int) - ((Lk k : Nat) : Int)) = (c : Int) - ((Lk k : Nat) : Int) := by omega
  have ea : ((a : Int) - ((Lk k : Nat) : Int) - ((c : Int) - ((Lk k : Nat) : Int))).toNat = a - c := by omega
  have eb : ((b : Int) - ((Lk k : Nat) : Int) - ((c : Int) - ((Lk k : Nat) : Int))).toNat = b - c := by omega
  have h1 := signed_units s u (a - c) c a (by omega)
  have h2 := signed_units t v (b - c) c b (by omega)
  obtain ⟨T, hT⟩ : ∃ T, T = signed s u (a - c) + signed t v (b - c) := ⟨_, rfl⟩
  have h3 : T * ((2 ^ c : Nat) : Int) = Y := by rw [hT, Int.add_mul, h1, h2, hY]
  have hA : ((c : Int) - ((Lk k : Nat) : Int) - k.format.leastPlace).toNat = c := by rw [lp_eq]; omega
  have hC : (k.format.leastPlace - ((c : Int) - ((Lk k : Nat) : Int))).toNat = 0 := by rw [lp_eq]; omega
  have habs : T.natAbs * 2 ^ c = Y.natAbs := by
    have := congrArg Int.natAbs h3
    rw [natAbs_scale] at this
    exact this
  have hr := round_err k (if T = 0 then s && t else decide (T < 0)) T.natAbs ((c : Int) - ((Lk k : Nat) : Int)) G (by
    rw [hA, hC, habs, Nat.pow_zero, Nat.mul_one]; exact hb) hG
  rw [hA, hC, habs, Nat.pow_zero] at hr
  refine ⟨k.format.nearest (if T = 0 then s && t else decide (T < 0)) T.natAbs ((c : Int) - ((Lk k : Nat) : Int)), ?_, ?_⟩
  · unfold Datum.sum
    dsimp only
    rw [hbase, ea, eb, ← hT]
    rfl
  · have hP : 0 < 2 ^ c := Nat.two_pow_pos c
    have hV : (if (if T = 0 then s && t else decide (T < 0)) = true then -((Y.natAbs : Nat) : Int) else ((Y.natAbs : Nat) : Int)) = Y := by
      by_cases ht : T = 0
      · have h0 : Y = 0 := by rw [← h3, ht, Int.zero_mul]
        rw [h0]; simp
      · rw [if_neg ht]
        by_cases hl : T < 0
        · have h4 : T * ((2 ^ c : Nat) : Int) < 0 := Int.mul_neg_of_neg_of_pos hl (by omega)
          rw [decide_eq_true hl, if_pos rfl]; omega
        · have h4 : 0 ≤ T * ((2 ^ c : Nat) : Int) := Int.mul_nonneg (by omega) (by omega)
          rw [decide_eq_false hl]; simp; omega
    rw [hV] at hr
    exact hr
theorem add_err {k : FloatKind} {x y : Nat} {G : Nat} (hx : rg k.format x < k.format.infRung) (hy : rg k.format y < k.format.infRung)
    (hb : (Z k.format x + Z k.format y).natAbs < 2 * k.format.binade * 2 ^ G) (hG : 2 * k.format.binade * 2 ^ G + 2 ^ G < units k.format k.format.infRung) :
    ∃ r, floatBits .add k x y = some r ∧ Rd k r (Z k.format x + Z k.format y) 1 (2 ^ G) := by
  obtain ⟨u, a, e1, hu, _⟩ := fin_parts hx
  obtain ⟨v, b, e2, hv, _⟩ := fin_parts hy
  obtain ⟨r, hr, hi⟩ := sum_err k (sgn k.format x) (sgn k.format y) u v a b G _ (by rw [← hu, ← hv]; rfl) hb hG
  refine ⟨r, ?_, hi⟩
  show ((k.decode x).sum (k.decode y)).map k.format.write = some r
  rw [e1, e2]; exact hr
theorem sub_err {k : FloatKind} {x y : Nat} {G : Nat} (hx : rg k.format x < k.format.infRung) (hy : rg k.format y < k.format.infRung)
    (hb : (Z k.format x - Z k.format y).natAbs < 2 * k.format.binade * 2 ^ G) (hG : 2 * k.format.binade * 2 ^ G + 2 ^ G < units k.format k.format.infRung) :
    ∃ r, floatBits .sub k x y = some r ∧ Rd k r (Z k.format x - Z k.format y) 1 (2 ^ G) := by
  obtain ⟨u, a, e1, hu, _⟩ := fin_parts hx
  obtain ⟨v, b, e2, hv, _⟩ := fin_parts hy
  obtain ⟨r, hr, hi⟩ := sum_err k (sgn k.format x) (!sgn k.format y) u v a b G (Z k.format x - Z k.format y) (by
    rw [← hu, ← hv]
    unfold Z
    cases sgn k.format y <;> simp <;> omega) hb hG
  refine ⟨r, ?_, hi⟩
  show ((k.decode x).sum (k.decode y).opposite).map k.format.write = some r
  rw [e1, e2]; exact hr
end Go.Proofs.Ytecncnkbgfjdcaa
set_option linter.unusedVariables false
set_option linter.unusedSimpArgs false
namespace Go.Proofs.Ytecncnkbgfjdcaa
open Ieee near

theorem room (N : Nat) (hN : N = 1023) : 2 * FloatKind.f64.format.binade * 2 ^ N + 2 ^ N < units FloatKind.f64.format FloatKind.f64.format.infRung := by
  have h1 := units_le FloatKind.f64.format (show 5183643171103440896 ≤ FloatKind.f64.format.infRung by rw [inf64]; omega)
  rw [units_top, show (1150 : Nat) = N + 127 by omega, Nat.pow_add] at h1
  have hP : 0 < 2 ^ N := Nat.two_pow_pos N
  rw [bin64]
  generalize 2 ^ N = P at *
  omega
/-- The word r lies within e of A, in units of P (2^1023 least places: 2^-51). -/
structure Nr (P r : Nat) (A : Int) (e : Nat) : Prop where
  lt : r < 2 ^ FloatKind.f64.format.width
  fin : rg FloatKind.f64.format r < FloatKind.f64.format.infRung
  hi : Z FloatKind.f64.format r ≤ (A + e) * (P : Int)
  lo : (A - e) * (P : Int) ≤ Z FloatKind.f64.format r
theorem Nr.mono {P r : Nat} {A : Int} {e e' : Nat} (h : Nr P r A e) (he : e ≤ e') : Nr P r A e' :=
  ⟨h.lt, h.fin, Int.le_trans h.hi (Int.mul_le_mul_of_nonneg_right (by omega) (by omega)), Int.le_trans (Int.mul_le_mul_of_nonneg_right (by omega) (by omega)) h.lo⟩
theorem abs_bound {P : Nat} (hP : 0 < P) {V A : Int} {e M : Nat} (hi : V ≤ (A + e) * (P : Int)) (lo : (A - e) * (P : Int) ≤ V) (hA : A.natAbs + e < M) : V.natAbs < M * P := by
  have h1 : (A + e) * (P : Int) < (M : Int) * (P : Int) := Int.mul_lt_mul_of_pos_right (by omega) (by omega)
  have h2 : (-(M : Int)) * (P : Int) < (A - e) * (P : Int) := Int.mul_lt_mul_of_pos_right (by omega) (by omega)
  rw [Int.neg_mul, ← Int.natCast_mul] at h2
  rw [← Int.natCast_mul] at h1
  omega
theorem Nr.add {P N x y : Nat} (hN : N = 1023) (hP : P = 2 ^ N) {A B : Int} {d e : Nat} (hx : Nr P x A d) (hy : Nr P y B e) (hb : (A + B).natAbs + (d + e) < 9007199254740992) : ∃ r, floatBits .add .f64 x y = some r ∧ Nr P r (A + B) (d + e + 1) := by
  have hi : Z FloatKind.f64.format x + Z FloatKind.f64.format y ≤ (A + B + ((d + e : Nat) : Int)) * (P : Int) := by
    have h1 := hx.hi
    have h2 := hy.hi
    rw [Int.natCast_add]
    simp only [Int.add_mul] at h1 h2 ⊢
    omega
  have lo : (A + B - ((d + e : Nat) : Int)) * (P : Int) ≤ Z FloatKind.f64.format x + Z FloatKind.f64.format y := by
    have h1 := hx.lo
    have h2 := hy.lo
    rw [Int.natCast_add]
    simp only [Int.add_mul, Int.sub_mul] at h1 h2 ⊢
    omega
  have hr := room N hN
  have hP0 : 0 < P := by rw [hP]; exact Nat.two_pow_pos _
  have hbb := abs_bound hP0 hi lo hb
  obtain ⟨r, h1, h2⟩ := add_err (G := N) hx.fin hy.fin (by rw [← hP, bin64]; omega) hr
  have h3 := h2.hi
  have h4 := h2.lo
  rw [← hP] at h3 h4
  refine ⟨r, h1, h2.lt, h2.fin, ?_, ?_⟩
  · rw [show A + B + ((d + e + 1 : Nat) : Int) = A + B + ((d + e : Nat) : Int) + 1 by omega, Int.add_mul _ 1]
    omega
  · rw [show A + B - ((d + e + 1 : Nat) : Int) = A + B - ((d + e : Nat) : Int) - 1 by omega, Int.sub_mul _ 1]
    omega
theorem Nr.sub {P N x y : Nat} (hN : N = 1023) (hP : P = 2 ^ N) {A B : Int} {d e : Nat} (hx : Nr P x A d) (hy : Nr P y B e) (hb : (A - B).natAbs + (d + e) < 9007199254740992) : ∃ r, floatBits .sub .f64 x y = some r ∧ Nr P r (A - B) (d + e + 1) := by
  have hi : Z FloatKind.f64.format x - Z FloatKind.f64.format y ≤ (A - B + ((d + e : Nat) : Int)) * (P : Int) := by
    have h1 := hx.hi
    have h2 := hy.lo
    rw [Int.natCast_add]
    simp only [Int.add_mul, Int.sub_mul] at h1 h2 ⊢
    omega
  have lo : (A - B - ((d + e : Nat) : Int)) * (P : Int) ≤ Z FloatKind.f64.format x - Z FloatKind.f64.format y := by
    have h1 := hx.lo
    have h2 := hy.hi
    rw [Int.natCast_add]
    simp only [Int.add_mul, Int.sub_mul] at h1 h2 ⊢
    omega
  have hr := room N hN
  have hP0 : 0 < P := by rw [hP]; exact Nat.two_pow_pos _
  have hbb := abs_bound hP0 hi lo hb
  obtain ⟨r, h1, h2⟩ := sub_err (G := N) hx.fin hy.fin (by rw [← hP, bin64]; omega) hr
  have h3 := h2.hi
  have h4 := h2.lo
  rw [← hP] at h3 h4
  refine ⟨r, h1, h2.lt, h2.fin, ?_, ?_⟩
  · rw [show A - B + ((d + e + 1 : Nat) : Int) = A - B + ((d + e : Nat) : Int) + 1 by omega, Int.add_mul _ 1]
    omega
  · rw [show A - B - ((d + e + 1 : Nat) : Int) = A - B - ((d + e : Nat) : Int) - 1 by omega, Int.sub_mul _ 1]
    omega
end Go.Proofs.Ytecncnkbgfjdcaa
set_option linter.unusedVariables false
set_option linter.unusedSimpArgs false
namespace Go.Proofs.Ytecncnkbgfjdcaa
open Ieee near

theorem abs_of {V A : Int} {e P : Nat} (hi : V ≤ (A + e) * (P : Int)) (lo : (A - e) * (P : Int) ≤ V) : (V - A * (P : Int)).natAbs ≤ e * P := by
  rw [Int.add_mul] at hi
  rw [Int.sub_mul] at lo
  rw [← Int.natCast_mul] at hi lo
  omega
theorem of_abs {V A : Int} {e P : Nat} (h : (V - A * (P : Int)).natAbs ≤ e * P) : V ≤ (A + e) * (P : Int) ∧ (A - e) * (P : Int) ≤ V := by
  rw [Int.add_mul, Int.sub_mul, ← Int.natCast_mul]
  omega
theorem prod_key (X Y A B : Int) (P d e M : Nat) (hs : (X - A * (P : Int)).natAbs ≤ d * P) (ht : (Y - B * (P : Int)).natAbs ≤ e * P) (hY : Y.natAbs ≤ M * P) (hA : A.natAbs ≤ M) :
    (X * Y - A * B * ((P : Int) * P)).natAbs ≤ M * (d + e) * (P * P) := by
  have h1 : X * Y - A * B * ((P : Int) * P) = (X - A * P) * Y + A * P * (Y - B * P) := by grind
  rw [h1]
  refine Nat.le_trans (Int.natAbs_add_le _ _) ?_
  rw [Int.natAbs_mul, Int.natAbs_mul (A * P), Int.natAbs_mul A, Int.natAbs_natCast]
  have h2 := Nat.mul_le_mul hs hY
  have h3 := Nat.mul_le_mul (Nat.mul_le_mul_right P hA) ht
  have h4 : M * (d + e) * (P * P) = d * P * (M * P) + M * P * (e * P) := by grind
  omega
theorem num_sq (P : Nat) : 4503599627370496 * P * (4503599627370496 * P) = 2 * 4503599627370496 * P * (P * 2251799813685248) := by grind
theorem num_sum (P D : Nat) : P * (P * 2251799813685248) + 4503599627370496 * D * (P * P) + 2251799813685248 * (P * P) = (2 * D + 2) * P * (P * 2251799813685248) := by grind
theorem mul_ring (Z W A B C P K : Int) : (Z - C * P) * (P * K) = (Z * (P * K) - W) + (W - A * B * (P * P)) + (A * B - C * K) * (P * P) := by grind
theorem mul_fin (Z W A B C : Int) (P D : Nat) (hP : 0 < P) (h3 : Z * ((P * 2251799813685248 : Nat) : Int) ≤ W + (P : Int) * ((P * 2251799813685248 : Nat) : Int)) (h4 : W ≤ Z * ((P * 2251799813685248 : Nat) : Int) + (P : Int) * ((P * 2251799813685248 : Nat) : Int))
    (key : (W - A * B * ((P : Int) * P)).natAbs ≤ 4503599627370496 * D * (P * P)) (hC : (A * B - C * 2251799813685248).natAbs ≤ 2251799813685248) : (Z - C * P).natAbs ≤ (2 * D + 2) * P := by
  have e1 := mul_ring Z W A B C P 2251799813685248
  have n1 : (Z * ((P : Int) * 2251799813685248) - W).natAbs ≤ P * (P * 2251799813685248) := by
    rw [← Int.natCast_mul P (P * 2251799813685248)] at h3 h4
    have hc : ((P * 2251799813685248 : Nat) : Int) = (P : Int) * 2251799813685248 := by rw [Int.natCast_mul]; rfl
    rw [hc] at h3 h4
    generalize Z * ((P : Int) * 2251799813685248) = T at *
    omega
  have n3 : ((A * B - C * 2251799813685248) * ((P : Int) * P)).natAbs ≤ 2251799813685248 * (P * P) := by
    rw [Int.natAbs_mul, Int.natAbs_mul, Int.natAbs_natCast]
    exact Nat.mul_le_mul_right _ hC
  have n0 : ((Z - C * P) * ((P : Int) * 2251799813685248)).natAbs ≤ P * (P * 2251799813685248) + 4503599627370496 * D * (P * P) + 2251799813685248 * (P * P) := by
    rw [e1]
    have t1 := Int.natAbs_add_le (Z * ((P : Int) * 2251799813685248) - W + (W - A * B * ((P : Int) * P))) ((A * B - C * 2251799813685248) * ((P : Int) * P))
    have t2 := Int.natAbs_add_le (Z * ((P : Int) * 2251799813685248) - W) (W - A * B * ((P : Int) * P))
    omega
  rw [num_sum, Int.natAbs_mul, Int.natAbs_mul (P : Int), Int.natAbs_natCast] at n0
  exact Nat.le_of_mul_le_mul_right n0 (Nat.mul_pos hP (by decide))
theorem Nr.mul {P N x y : Nat} (hN : N = 1023) (hP : P = 2 ^ N) {A B C : Int} {d e : Nat} (hx : Nr P x A d) (hy : Nr P y B e) (hA : A.natAbs + d < 4503599627370496) (hB : B.natAbs + e < 4503599627370496) (hC : (A * B - C * 2251799813685248).natAbs ≤ 2251799813685248) :
    ∃ r, floatBits .mul .f64 x y = some r ∧ Nr P r C (2 * (d + e) + 2) := by
  have hP0 : 0 < P := by rw [hP]; exact Nat.two_pow_pos _
  have hK : (2 : Nat) ^ Lk .f64 = P * 2251799813685248 := by
    rw [hP, show Lk .f64 = N + 51 by rw [hN]; rfl, Nat.pow_add]
  have s1 := abs_of hx.hi hx.lo
  have s2 := abs_of hy.hi hy.lo
  have hX := abs_bound hP0 hx.hi hx.lo hA
  have hY := abs_bound hP0 hy.hi hy.lo hB
  have key := prod_key _ _ A B P d e 4503599627370496 s1 s2 (Nat.le_of_lt hY) (by omega)
  have hr := room N hN
  obtain ⟨r, h1, h2⟩ := mul_err (G := N) hx.fin hy.fin (by
    rw [← hP, bin64, hK, Int.natAbs_mul, ← num_sq]
    exact Nat.mul_lt_mul'' hX hY) hr
  have h3 := h2.hi
  have h4 := h2.lo
  rw [hK, ← hP] at h3 h4
  have h5 := of_abs (mul_fin _ _ A B C P (d + e) hP0 h3 h4 key hC)
  exact ⟨r, h1, h2.lt, h2.fin, h5.1, h5.2⟩
end Go.Proofs.Ytecncnkbgfjdcaa
set_option linter.unusedVariables false
set_option linter.unusedSimpArgs false
namespace Go.Proofs.Ytecncnkbgfjdcaa
open Ieee near

/-- The check of a word: its significand at its place lies within e of A. -/
def nrB (x : Nat) (A : Int) (e : Nat) : Bool :=
  let q := x % 9223372036854775808
  let g := 1023 - (q / 4503599627370496 - 1)
  let m := 4503599627370496 + q % 4503599627370496
  let S := if x / 9223372036854775808 % 2 == 1 then -(m : Int) else (m : Int)
  decide (x < 18446744073709551616) && decide (4503599627370496 ≤ q) && decide (q / 4503599627370496 ≤ 1024) && decide ((A - e) * ((2 ^ g : Nat) : Int) ≤ S) && decide (S ≤ (A + e) * ((2 ^ g : Nat) : Int))
theorem nr_word {P N x : Nat} (hN : N = 1023) (hP : P = 2 ^ N) {A : Int} {e : Nat} (h : nrB x A e = true) : Nr P x A e := by
  unfold nrB at h
  simp only [Bool.and_eq_true, decide_eq_true_eq] at h
  obtain ⟨⟨⟨⟨h1, h2⟩, h3⟩, h4⟩, h5⟩ := h
  have hsw : FloatKind.f64.format.signWeight = 9223372036854775808 := rfl
  have hw : 2 ^ FloatKind.f64.format.width = 18446744073709551616 := by rw [width_sign, hsw]
  have hrg : rg FloatKind.f64.format x = x % 9223372036854775808 := by unfold rg; rw [hsw]
  have hsg : sgn FloatKind.f64.format x = (x / 9223372036854775808 % 2 == 1) := by unfold sgn; rw [hsw]
  generalize hq : x % 9223372036854775808 = q at *
  obtain ⟨g, hg⟩ : ∃ g, g = 1023 - (q / 4503599627370496 - 1) := ⟨_, rfl⟩
  rw [← hg] at h4 h5
  have hE : (q / 4503599627370496 - 1) + g = N := by omega
  have hu : units FloatKind.f64.format (rg FloatKind.f64.format x) = (4503599627370496 + q % 4503599627370496) * 2 ^ (q / 4503599627370496 - 1) := by
    rw [hrg]; unfold units; rw [bin64, if_neg (by omega)]
  have hPP : P = 2 ^ g * 2 ^ (q / 4503599627370496 - 1) := by rw [hP, ← Nat.pow_add]; congr 1; omega
  have hZ : Z FloatKind.f64.format x = (if (x / 9223372036854775808 % 2 == 1) = true then -((4503599627370496 + q % 4503599627370496 : Nat) : Int) else ((4503599627370496 + q % 4503599627370496 : Nat) : Int)) * ((2 ^ (q / 4503599627370496 - 1) : Nat) : Int) := by
    unfold Z
    rw [hsg, hu, Int.natCast_mul]
    split
    · rw [Int.neg_mul]
    · rfl
  have hQ : (0 : Int) ≤ ((2 ^ (q / 4503599627370496 - 1) : Nat) : Int) := Int.natCast_nonneg _
  refine ⟨by rw [hw]; exact h1, ?_, ?_, ?_⟩
  · rw [hrg, inf64]; omega
  · rw [hZ, hPP, Int.natCast_mul, ← Int.mul_assoc]
    exact Int.mul_le_mul_of_nonneg_right h5 hQ
  · rw [hZ, hPP, Int.natCast_mul, ← Int.mul_assoc]
    exact Int.mul_le_mul_of_nonneg_right h4 hQ
/-- One: 2^51. -/
theorem nr_one {P N : Nat} (hN : N = 1023) (hP : P = 2 ^ N) : Nr P 4607182418800017408 2251799813685248 0 := nr_word hN hP (by decide +kernel)
end Go.Proofs.Ytecncnkbgfjdcaa
set_option linter.unusedVariables false
set_option linter.unusedSimpArgs false
namespace Go.Proofs.Ytecncnkbgfjdcaa
open Ieee near

def CQ (j : Nat) : Nat := (floatBits .quo .f64 one64 (fl (25 - 2 * (j : Int)))).getD 0
def CA (j : Nat) : Int := 2251799813685248 / (25 - 2 * (j : Int))
theorem cq_all : ∀ j : Nat, j < 13 → floatBits .quo .f64 one64 (fl (25 - 2 * (j : Int))) = some (CQ j) ∧ nrB (CQ j) (CA j) 2 = true ∧ 0 ≤ CA j ∧ CA j ≤ 2251799813685248 := by decide +kernel
def LI (U : Int) : Nat → Int
  | 0 => 0
  | j + 1 => CA j + U * LI U j / 2251799813685248
def EI : Nat → Nat
  | 0 => 0
  | j + 1 => 2 + (2 * (8 + EI j) + 2) + 1
theorem ei_all : ∀ j : Nat, j ≤ 13 → EI j < 1000000 := by decide +kernel
theorem nr_zero {P : Nat} : Nr P 0 0 0 := ⟨by decide, by decide +kernel, by rw [show Z FloatKind.f64.format 0 = 0 by decide +kernel]; simp, by rw [show Z FloatKind.f64.format 0 = 0 by decide +kernel]; simp⟩
theorem logQ_nr {P N x : Nat} (hN : N = 1023) (hP : P = 2 ^ N) {U : Int} (hu : Nr P x U 8) (h0 : 0 ≤ U) (h1 : U ≤ 140737488355328) : ∀ j : Nat, j ≤ 13 → ∃ r, logQ (some x) j = some r ∧ Nr P r (LI U j) (EI j) ∧ 0 ≤ LI U j ∧ LI U j ≤ 2533274790395904
  | 0, _ => ⟨0, rfl, nr_zero, Int.le_refl _, by show (0 : Int) ≤ _; decide⟩
  | j + 1, hj => by
    obtain ⟨r, hr, hn, b0, b1⟩ := logQ_nr hN hP hu h0 h1 j (by omega)
    obtain ⟨c1, c2, c3, c4⟩ := cq_all j (by omega)
    have he := ei_all j (by omega)
    have p0 : 0 ≤ U * LI U j := Int.mul_nonneg h0 b0
    have p1 : U * LI U j ≤ 140737488355328 * 2533274790395904 := Int.mul_le_mul h1 b1 b0 (by decide)
    obtain ⟨m, hm, hmn⟩ := Nr.mul hN hP hu hn (C := U * LI U j / 2251799813685248) (by omega) (by omega) (by omega)
    have q0 : 0 ≤ U * LI U j / 2251799813685248 := by omega
    have q1 : U * LI U j / 2251799813685248 ≤ 281474976710656 := by omega
    obtain ⟨s, hs, hsn⟩ := Nr.add hN hP (nr_word hN hP c2) hmn (by omega)
    refine ⟨s, ?_, hsn, ?_, ?_⟩
    · show fop .add .f64 (fop .quo .f64 (some one64) (some (fl (25 - 2 * (j : Int))))) (fop .mul .f64 (some x) (logQ (some x) j)) = some s
      rw [hr]
      show fop .add .f64 (floatBits .quo .f64 one64 (fl (25 - 2 * (j : Int)))) (floatBits .mul .f64 x r) = some s
      rw [c1, hm]
      exact hs
    · show 0 ≤ CA j + U * LI U j / 2251799813685248
      omega
    · show CA j + U * LI U j / 2251799813685248 ≤ _
      omega
end Go.Proofs.Ytecncnkbgfjdcaa
set_option linter.unusedVariables false
set_option linter.unusedSimpArgs false
namespace Go.Proofs.Ytecncnkbgfjdcaa
open Ieee near

theorem roomW (N : Nat) (hN : N = 1023) : 2 * FloatKind.f64.format.binade * 2 ^ (N + 4) + 2 ^ (N + 4) < units FloatKind.f64.format FloatKind.f64.format.infRung := by
  have h1 := units_le FloatKind.f64.format (show 5183643171103440896 ≤ FloatKind.f64.format.infRung by rw [inf64]; omega)
  rw [units_top, show (1150 : Nat) = N + 127 by omega, Nat.pow_add] at h1
  have hP : 0 < 2 ^ N := Nat.two_pow_pos N
  rw [bin64, Nat.pow_add 2 N 4]
  generalize 2 ^ N = P at *
  omega
theorem Nr.addW {P N x y : Nat} (hN : N = 1023) (hP : P = 2 ^ N) {A B : Int} {d e : Nat} (hx : Nr P x A d) (hy : Nr P y B e) (hb : (A + B).natAbs + (d + e) < 144115188075855872) : ∃ r, floatBits .add .f64 x y = some r ∧ Nr P r (A + B) (d + e + 16) := by
  have hi : Z FloatKind.f64.format x + Z FloatKind.f64.format y ≤ (A + B + ((d + e : Nat) : Int)) * (P : Int) := by
    have h1 := hx.hi
    have h2 := hy.hi
    rw [Int.natCast_add]
    simp only [Int.add_mul] at h1 h2 ⊢
    omega
  have lo : (A + B - ((d + e : Nat) : Int)) * (P : Int) ≤ Z FloatKind.f64.format x + Z FloatKind.f64.format y := by
    have h1 := hx.lo
    have h2 := hy.lo
    rw [Int.natCast_add]
    simp only [Int.add_mul, Int.sub_mul] at h1 h2 ⊢
    omega
  have hr := roomW N hN
  have hP0 : 0 < P := by rw [hP]; exact Nat.two_pow_pos _
  have hP4 : 2 ^ (N + 4) = P * 16 := by rw [hP, Nat.pow_add]
  have hbb := abs_bound hP0 hi lo hb
  obtain ⟨r, h1, h2⟩ := add_err (G := N + 4) hx.fin hy.fin (by rw [hP4, bin64]; omega) hr
  have h3 := h2.hi
  have h4 := h2.lo
  rw [hP4, Int.natCast_mul] at h3 h4
  refine ⟨r, h1, h2.lt, h2.fin, ?_, ?_⟩
  · rw [show A + B + ((d + e + 16 : Nat) : Int) = A + B + ((d + e : Nat) : Int) + 16 by omega, Int.add_mul _ 16]
    omega
  · rw [show A + B - ((d + e + 16 : Nat) : Int) = A + B - ((d + e : Nat) : Int) - 16 by omega, Int.sub_mul _ 16]
    omega
theorem abs_le {P : Nat} {V A : Int} {e M : Nat} (hi : V ≤ (A + e) * (P : Int)) (lo : (A - e) * (P : Int) ≤ V) (hA : A.natAbs + e ≤ M) : V.natAbs ≤ M * P := by
  have h1 : (A + e) * (P : Int) ≤ (M : Int) * (P : Int) := Int.mul_le_mul_of_nonneg_right (by omega) (by omega)
  have h2 : (-(M : Int)) * (P : Int) ≤ (A - e) * (P : Int) := Int.mul_le_mul_of_nonneg_right (by omega) (by omega)
  rw [Int.neg_mul, ← Int.natCast_mul] at h2
  rw [← Int.natCast_mul] at h1
  omega
/-- The first factor may be 2 itself. -/
theorem Nr.mulL {P N x y : Nat} (hN : N = 1023) (hP : P = 2 ^ N) {A B C : Int} {d e : Nat} (hx : Nr P x A d) (hy : Nr P y B e) (hA : A.natAbs + d ≤ 4503599627370496) (hB : B.natAbs + e < 4503599627370496) (hC : (A * B - C * 2251799813685248).natAbs ≤ 2251799813685248) :
    ∃ r, floatBits .mul .f64 x y = some r ∧ Nr P r C (2 * (d + e) + 2) := by
  have hP0 : 0 < P := by rw [hP]; exact Nat.two_pow_pos _
  have hK : (2 : Nat) ^ Lk .f64 = P * 2251799813685248 := by
    rw [hP, show Lk .f64 = N + 51 by rw [hN]; rfl, Nat.pow_add]
  have s1 := abs_of hx.hi hx.lo
  have s2 := abs_of hy.hi hy.lo
  have hX := abs_le hx.hi hx.lo hA
  have hY := abs_bound hP0 hy.hi hy.lo hB
  have key := prod_key _ _ A B P d e 4503599627370496 s1 s2 (Nat.le_of_lt hY) (by omega)
  have hr := room N hN
  obtain ⟨r, h1, h2⟩ := mul_err (G := N) hx.fin hy.fin (by
    rw [← hP, bin64, hK, Int.natAbs_mul, ← num_sq]
    exact Nat.lt_of_le_of_lt (Nat.mul_le_mul_right _ hX) (Nat.mul_lt_mul_of_pos_left hY (Nat.mul_pos (by decide) hP0))) hr
  have h3 := h2.hi
  have h4 := h2.lo
  rw [hK, ← hP] at h3 h4
  have h5 := of_abs (mul_fin _ _ A B C P (d + e) hP0 h3 h4 key hC)
  exact ⟨r, h1, h2.lt, h2.fin, h5.1, h5.2⟩
theorem nr_two {P N : Nat} (hN : N = 1023) (hP : P = 2 ^ N) : Nr P 4611686018427387904 4503599627370496 0 := nr_word hN hP (by decide +kernel)
end Go.Proofs.Ytecncnkbgfjdcaa
set_option linter.unusedVariables false
set_option linter.unusedSimpArgs false
namespace Go.Proofs.Ytecncnkbgfjdcaa
open Ieee near

theorem roomG (N : Nat) (hN : N = 1023) : 2 * FloatKind.f64.format.binade * 2 ^ (N + 9) + 2 ^ (N + 9) < units FloatKind.f64.format FloatKind.f64.format.infRung := by
  have h1 := units_le FloatKind.f64.format (show 5183643171103440896 ≤ FloatKind.f64.format.infRung by rw [inf64]; omega)
  rw [units_top, show (1150 : Nat) = N + 127 by omega, Nat.pow_add] at h1
  have hP : 0 < 2 ^ N := Nat.two_pow_pos N
  rw [bin64, Nat.pow_add 2 N 9]
  generalize 2 ^ N = P at *
  omega
/-- Sums below 2^62. -/
theorem Nr.addG {P N x y : Nat} (hN : N = 1023) (hP : P = 2 ^ N) {A B : Int} {d e : Nat} (hx : Nr P x A d) (hy : Nr P y B e) (hb : (A + B).natAbs + (d + e) < 4611686018427387904) : ∃ r, floatBits .add .f64 x y = some r ∧ Nr P r (A + B) (d + e + 512) := by
  have hi : Z FloatKind.f64.format x + Z FloatKind.f64.format y ≤ (A + B + ((d + e : Nat) : Int)) * (P : Int) := by
    have h1 := hx.hi
    have h2 := hy.hi
    rw [Int.natCast_add]
    simp only [Int.add_mul] at h1 h2 ⊢
    omega
  have lo : (A + B - ((d + e : Nat) : Int)) * (P : Int) ≤ Z FloatKind.f64.format x + Z FloatKind.f64.format y := by
    have h1 := hx.lo
    have h2 := hy.lo
    rw [Int.natCast_add]
    simp only [Int.add_mul, Int.sub_mul] at h1 h2 ⊢
    omega
  have hr := roomG N hN
  have hP0 : 0 < P := by rw [hP]; exact Nat.two_pow_pos _
  have hP4 : 2 ^ (N + 9) = P * 512 := by rw [hP, Nat.pow_add]
  have hbb := abs_bound hP0 hi lo hb
  obtain ⟨r, h1, h2⟩ := add_err (G := N + 9) hx.fin hy.fin (by rw [hP4, bin64]; omega) hr
  have h3 := h2.hi
  have h4 := h2.lo
  rw [hP4, Int.natCast_mul] at h3 h4
  refine ⟨r, h1, h2.lt, h2.fin, ?_, ?_⟩
  · rw [show A + B + ((d + e + 512 : Nat) : Int) = A + B + ((d + e : Nat) : Int) + 512 by omega, Int.add_mul _ 512]
    omega
  · rw [show A + B - ((d + e + 512 : Nat) : Int) = A + B - ((d + e : Nat) : Int) - 512 by omega, Int.sub_mul _ 512]
    omega
theorem num_sumG (P D : Nat) : P * 512 * (P * 2251799813685248) + 144115188075855872 * D * (P * P) + 2251799813685248 * (P * P) = (64 * D + 513) * P * (P * 2251799813685248) := by grind
theorem mul_finG (Z W A B C : Int) (P D : Nat) (hP : 0 < P) (h3 : Z * ((P * 2251799813685248 : Nat) : Int) ≤ W + ((P * 512 : Nat) : Int) * ((P * 2251799813685248 : Nat) : Int)) (h4 : W ≤ Z * ((P * 2251799813685248 : Nat) : Int) + ((P * 512 : Nat) : Int) * ((P * 2251799813685248 : Nat) : Int))
    (key : (W - A * B * ((P : Int) * P)).natAbs ≤ 144115188075855872 * D * (P * P)) (hC : (A * B - C * 2251799813685248).natAbs ≤ 2251799813685248) : (Z - C * P).natAbs ≤ (64 * D + 513) * P := by
  have e1 := mul_ring Z W A B C P 2251799813685248
  have n1 : (Z * ((P : Int) * 2251799813685248) - W).natAbs ≤ P * 512 * (P * 2251799813685248) := by
    rw [← Int.natCast_mul (P * 512) (P * 2251799813685248)] at h3 h4
    have hc : ((P * 2251799813685248 : Nat) : Int) = (P : Int) * 2251799813685248 := by rw [Int.natCast_mul]; rfl
    rw [hc] at h3 h4
    generalize Z * ((P : Int) * 2251799813685248) = T at *
    omega
  have n3 : ((A * B - C * 2251799813685248) * ((P : Int) * P)).natAbs ≤ 2251799813685248 * (P * P) := by
    rw [Int.natAbs_mul, Int.natAbs_mul, Int.natAbs_natCast]
    exact Nat.mul_le_mul_right _ hC
  have n0 : ((Z - C * P) * ((P : Int) * 2251799813685248)).natAbs ≤ P * 512 * (P * 2251799813685248) + 144115188075855872 * D * (P * P) + 2251799813685248 * (P * P) := by
    rw [e1]
    have t1 := Int.natAbs_add_le (Z * ((P : Int) * 2251799813685248) - W + (W - A * B * ((P : Int) * P))) ((A * B - C * 2251799813685248) * ((P : Int) * P))
    have t2 := Int.natAbs_add_le (Z * ((P : Int) * 2251799813685248) - W) (W - A * B * ((P : Int) * P))
    omega
  rw [num_sumG, Int.natAbs_mul, Int.natAbs_mul (P : Int), Int.natAbs_natCast] at n0
  exact Nat.le_of_mul_le_mul_right n0 (Nat.mul_pos hP (by decide))
theorem num_sqG (P : Nat) : 18014398509481984 * P * (144115188075855872 * P) ≤ 2 * 4503599627370496 * (P * 512) * (P * 2251799813685248) := by
  have : 18014398509481984 * P * (144115188075855872 * P) = (18014398509481984 * 144115188075855872) * (P * P) := by grind
  have h2 : 2 * 4503599627370496 * (P * 512) * (P * 2251799813685248) = (2 * 4503599627370496 * 512 * 2251799813685248) * (P * P) := by grind
  rw [this, h2]
  exact Nat.mul_le_mul_right _ (by decide)
/-- Factors below 8 and 64. -/
theorem Nr.mulG {P N x y : Nat} (hN : N = 1023) (hP : P = 2 ^ N) {A B C : Int} {d e : Nat} (hx : Nr P x A d) (hy : Nr P y B e) (hA : A.natAbs + d < 18014398509481984) (hB : B.natAbs + e < 144115188075855872) (hC : (A * B - C * 2251799813685248).natAbs ≤ 2251799813685248) :
    ∃ r, floatBits .mul .f64 x y = some r ∧ Nr P r C (64 * (d + e) + 513) := by
  have hP0 : 0 < P := by rw [hP]; exact Nat.two_pow_pos _
  have hK : (2 : Nat) ^ Lk .f64 = P * 2251799813685248 := by
    rw [hP, show Lk .f64 = N + 51 by rw [hN]; rfl, Nat.pow_add]
  have hP4 : 2 ^ (N + 9) = P * 512 := by rw [hP, Nat.pow_add]
  have s1 := abs_of hx.hi hx.lo
  have s2 := abs_of hy.hi hy.lo
  have hX := abs_bound hP0 hx.hi hx.lo hA
  have hY := abs_bound hP0 hy.hi hy.lo hB
  have key := prod_key _ _ A B P d e 144115188075855872 s1 s2 (Nat.le_of_lt hY) (by omega)
  have hr := roomG N hN
  obtain ⟨r, h1, h2⟩ := mul_err (G := N + 9) hx.fin hy.fin (by
    rw [hP4, bin64, hK, Int.natAbs_mul]
    exact Nat.lt_of_lt_of_le (Nat.mul_lt_mul'' hX hY) (num_sqG P)) hr
  have h3 := h2.hi
  have h4 := h2.lo
  rw [hK, hP4] at h3 h4
  have h5 := of_abs (mul_finG _ _ A B C P (d + e) hP0 h3 h4 key hC)
  exact ⟨r, h1, h2.lt, h2.fin, h5.1, h5.2⟩
end Go.Proofs.Ytecncnkbgfjdcaa
set_option linter.unusedVariables false
set_option linter.unusedSimpArgs false
namespace Go.Proofs.Ytecncnkbgfjdcaa
open Ieee near

theorem cut_zero (s : Bool) (N drop : Nat) : Toward.zero.cut s (N * 2 ^ drop) drop = N := by
  show N * 2 ^ drop / (1 <<< min drop ((N * 2 ^ drop).log2 + 2)) + 0 = N
  rw [Nat.shiftLeft_eq, Nat.one_mul, Nat.add_zero]
  by_cases h : drop ≤ (N * 2 ^ drop).log2 + 2
  · rw [Nat.min_eq_left h, Nat.mul_div_cancel _ (Nat.two_pow_pos _)]
  · have h1 : N * 2 ^ drop < 2 ^ ((N * 2 ^ drop).log2 + 1) := Nat.lt_log2_self
    have h2 : 2 ^ ((N * 2 ^ drop).log2 + 1) ≤ 2 ^ drop := Nat.pow_le_pow_right (by omega) (by omega)
    have h3 : N = 0 := by
      rcases Nat.eq_zero_or_pos N with h | h
      · exact h
      · have := Nat.mul_le_mul_right (2 ^ drop) h
        omega
    subst h3
    simp
theorem IsI.toInt {k : FloatKind} {x : Nat} {n : Int} (h : IsI k x n) (h0 : -4611686018427387904 ≤ n) (h1 : n ≤ 4611686018427387904) : floatToIntVal k x .i64 = some n := by
  obtain ⟨u, a, e1, hu, _, hs⟩ := h.parts
  have hcut : Toward.zero.cut (sgn k.format x) (u <<< ((a : Int) - ((Lk k : Nat) : Int)).toNat) (-((a : Int) - ((Lk k : Nat) : Int))).toNat = n.natAbs := by
    rw [Nat.shiftLeft_eq, show ((a : Int) - ((Lk k : Nat) : Int)).toNat = a - Lk k by omega, show (-((a : Int) - ((Lk k : Nat) : Int))).toNat = Lk k - a by omega, shift_eq hu]
    exact cut_zero _ _ _
  have hti : (k.decode x).toInt .zero = some n := by
    rw [e1]
    show some (signed _ (Toward.zero.cut (sgn k.format x) (u <<< ((a : Int) - ((Lk k : Nat) : Int)).toNat) (-((a : Int) - ((Lk k : Nat) : Int))).toNat) 0) = _
    rw [hcut]
    refine congrArg some ?_
    unfold signed
    rw [Nat.shiftLeft_eq, Nat.pow_zero, Nat.mul_one]
    exact hs
  unfold floatToIntVal
  rw [hti]
  dsimp only
  have hmin : IntKind.i64.min = -9223372036854775808 := by decide
  have hmax : IntKind.i64.max = 9223372036854775807 := by decide
  rw [if_pos (by rw [hmin, hmax]; omega)]
theorem quo_le {Q u v a b more D : Nat} (h : u * 2 ^ a = Q * v * 2 ^ b) (hu : 0 < u) (hQ : Q < 2 ^ (D - 1)) (hD : 1 ≤ D) (hm : D + v.log2 - u.log2 = more) : a ≤ b + more := by
  rcases Nat.lt_or_ge (b + more) a with hlt | hge
  · exfalso
    have h1 : 2 ^ u.log2 ≤ u := Nat.log2_self_le (by omega)
    have h2 : v < 2 ^ (v.log2 + 1) := Nat.lt_log2_self
    have h3 : u * 2 ^ (b + more + 1) ≤ Q * v * 2 ^ b := by
      rw [← h]; exact Nat.mul_le_mul_left _ (Nat.pow_le_pow_right (by omega) hlt)
    have h4 : u * 2 ^ (more + 1) ≤ Q * v := by
      refine Nat.le_of_mul_le_mul_right (c := 2 ^ b) ?_ (Nat.two_pow_pos b)
      rw [Nat.mul_assoc, ← Nat.pow_add, show more + 1 + b = b + more + 1 by omega]
      exact h3
    have h5 : 2 ^ (D + v.log2 + 1) ≤ u * 2 ^ (more + 1) := by
      refine Nat.le_trans ?_ (Nat.mul_le_mul_right _ h1)
      rw [← Nat.pow_add]
      exact Nat.pow_le_pow_right (by omega) (by omega)
    have h6 : Q * v ≤ 2 ^ (D - 1) * 2 ^ (v.log2 + 1) := Nat.mul_le_mul (Nat.le_of_lt hQ) (Nat.le_of_lt h2)
    rw [← Nat.pow_add, show D - 1 + (v.log2 + 1) = D + v.log2 by omega] at h6
    have h7 : 2 ^ (D + v.log2) < 2 ^ (D + v.log2 + 1) := Nat.pow_lt_pow_right (by omega) (by omega)
    omega
  · exact hge
theorem IsI.quo {k : FloatKind} {x y : Nat} {q n : Int} (hx : IsI k x (q * n)) (hy : IsI k y n) (hn : n ≠ 0) (hb : q.natAbs < 2 * k.format.binade) : ∃ r, floatBits .quo k x y = some r ∧ IsI k r q := by
  obtain ⟨u, a, e1, hu, _, hs⟩ := hx.parts
  obtain ⟨v, b, e2, hv, _, ht⟩ := hy.parts
  have hv0 : v ≠ 0 := by
    rintro rfl
    rw [Nat.zero_mul] at hv
    have h1 : 0 < n.natAbs * 2 ^ Lk k := Nat.mul_pos (by omega) (Nat.two_pow_pos _)
    omega
  have hkey : u * 2 ^ a = q.natAbs * v * 2 ^ b := by rw [hu, Int.natAbs_mul, Nat.mul_assoc, ← hv, Nat.mul_assoc]
  have hsign : (if (sgn k.format x ^^ sgn k.format y) then -((q.natAbs : Nat) : Int) else ((q.natAbs : Nat) : Int)) = q := by
    have hq1 : q.natAbs = q ∨ (q.natAbs : Int) = -q := by omega
    have hnn : n < 0 ∨ 0 < n := by omega
    have hqq : q < 0 ∨ q = 0 ∨ 0 < q := by omega
    have hprod : ∀ c : Bool, (if c then -(((q * n).natAbs : Nat) : Int) else (((q * n).natAbs : Nat) : Int)) = q * n → (c = true → q * n ≤ 0) ∧ (c = false → 0 ≤ q * n) := fun c h => by
      cases c
      · exact ⟨fun e => (by cases e), fun _ => (by rw [← h]; simp)⟩
      · exact ⟨fun _ => (by rw [← h]; simp), fun e => (by cases e)⟩
    have h1 := hprod _ hs
    have h2 : (sgn k.format y = true → n ≤ 0) ∧ (sgn k.format y = false → 0 ≤ n) := by
      revert ht
      cases sgn k.format y
      · intro ht; exact ⟨fun e => (by cases e), fun _ => (by simp at ht; omega)⟩
      · intro ht; exact ⟨fun _ => (by simp at ht; omega), fun e => (by cases e)⟩
    rcases hqq with hq | rfl | hq
    · rcases hnn with hn1 | hn1
      · have h3 : 0 < q * n := Int.mul_pos_of_neg_of_neg hq hn1
        have e3 : sgn k.format x = false := by cases hc : sgn k.format x with | false => rfl | true => have := h1.1 hc; omega
        have e4 : sgn k.format y = true := by cases hc : sgn k.format y with | true => rfl | false => have := h2.2 hc; omega
        rw [e3, e4]; simp; omega
      · have h3 : q * n < 0 := Int.mul_neg_of_neg_of_pos hq hn1
        have e3 : sgn k.format x = true := by cases hc : sgn k.format x with | true => rfl | false => have := h1.2 hc; omega
        have e4 : sgn k.format y = false := by cases hc : sgn k.format y with | false => rfl | true => have := h2.1 hc; omega
        rw [e3, e4]; simp; omega
    · simp
    · rcases hnn with hn1 | hn1
      · have h3 : q * n < 0 := Int.mul_neg_of_pos_of_neg hq hn1
        have e3 : sgn k.format x = true := by cases hc : sgn k.format x with | true => rfl | false => have := h1.2 hc; omega
        have e4 : sgn k.format y = true := by cases hc : sgn k.format y with | true => rfl | false => have := h2.2 hc; omega
        rw [e3, e4]; simp; omega
      · have h3 : 0 < q * n := Int.mul_pos hq hn1
        have e3 : sgn k.format x = false := by cases hc : sgn k.format x with | false => rfl | true => have := h1.1 hc; omega
        have e4 : sgn k.format y = false := by cases hc : sgn k.format y with | false => rfl | true => have := h2.1 hc; omega
        rw [e3, e4]; simp; omega
  obtain ⟨D, hD⟩ : ∃ D, D = k.format.fractionBits + 2 := ⟨_, rfl⟩
  obtain ⟨more, hmore⟩ : ∃ more, D + v.log2 - u.log2 = more := ⟨_, rfl⟩
  have h1 : floatBits .quo k x y = some (k.format.nearest (sgn k.format x ^^ sgn k.format y) (2 * (u <<< more / v) + (u <<< more % v != 0).toNat) ((a : Int) - ((Lk k : Nat) : Int) - ((b : Int) - ((Lk k : Nat) : Int)) - (more : Int) - 1)) := by
    show ((k.decode x).quotient (k.format.fractionBits + 2) (k.decode y)).map k.format.write = _
    rw [e1, e2, ← hD]
    unfold Datum.quotient
    dsimp only
    rw [if_neg hv0, hmore]
    rfl
  refine ⟨_, h1, ?_⟩
  have h2 : ∃ E : Nat, 2 * (u <<< more / v) + (u <<< more % v != 0).toNat = q.natAbs * 2 ^ E ∧ (q.natAbs = 0 ∨ ((a : Int) - ((Lk k : Nat) : Int) - ((b : Int) - ((Lk k : Nat) : Int)) - (more : Int) - 1) = -((E : Nat) : Int)) := by
    by_cases hu0 : u = 0
    · subst hu0
      have hq0 : q.natAbs = 0 := by
        rw [Nat.zero_mul] at hkey
        rcases Nat.eq_zero_or_pos q.natAbs with h | h
        · exact h
        · have := Nat.mul_pos (Nat.mul_pos h (Nat.pos_of_ne_zero hv0)) (Nat.two_pow_pos b)
          omega
      refine ⟨0, ?_, .inl hq0⟩
      rw [hq0, Nat.zero_shiftLeft, Nat.zero_div, Nat.zero_mod]
      rfl
    · have hle := quo_le (D := D) hkey (Nat.pos_of_ne_zero hu0) (by
        have hB : k.format.binade = 2 ^ k.format.fractionBits := rfl
        rw [hD, show k.format.fractionBits + 2 - 1 = k.format.fractionBits + 1 by omega, Nat.pow_succ, Nat.mul_comm, ← hB]
        exact hb) (by omega) hmore
      have hdiv : u <<< more = q.natAbs * 2 ^ (b + more - a) * v := by
        rw [Nat.shiftLeft_eq]
        refine Nat.eq_of_mul_eq_mul_right (Nat.two_pow_pos a) ?_
        rw [Nat.mul_right_comm, hkey, Nat.mul_assoc, ← Nat.pow_add, Nat.mul_right_comm _ v, Nat.mul_right_comm _ (2 ^ (b + more - a)), Nat.mul_assoc _ (2 ^ (b + more - a)), ← Nat.pow_add, show b + more - a + a = b + more by omega, Nat.mul_right_comm]
      refine ⟨b + more - a + 1, ?_, .inr (by omega)⟩
      rw [hdiv, Nat.mul_div_cancel _ (Nat.pos_of_ne_zero hv0), Nat.mul_mod_left, Nat.pow_succ, ← Nat.mul_assoc]
      show 2 * q.natAbs * 2 ^ (b + more - a) + 0 = q.natAbs * (2 ^ (b + more - a) * 2)
      rw [Nat.add_zero, Nat.mul_comm _ 2, Nat.mul_assoc, Nat.mul_left_comm]
  obtain ⟨E, h3, h4⟩ := h2
  have h5 := near_int k (sgn k.format x ^^ sgn k.format y) (2 * (u <<< more / v) + (u <<< more % v != 0).toNat) ((a : Int) - ((Lk k : Nat) : Int) - ((b : Int) - ((Lk k : Nat) : Int)) - (more : Int) - 1) q.natAbs hb (by
    rw [h3]
    rcases h4 with h4 | h4
    · rw [h4]; simp
    · rw [h4, show (-((E : Nat) : Int) + ((Lk k : Nat) : Int)).toNat = Lk k - E by omega, show (-((Lk k : Nat) : Int) - -((E : Nat) : Int)).toNat = E - Lk k by omega]
      refine shift_eq ?_
      rw [Nat.mul_right_comm])
  rw [hsign] at h5
  exact h5
end Go.Proofs.Ytecncnkbgfjdcaa
set_option linter.unusedVariables false
set_option linter.unusedSimpArgs false
namespace Go.Proofs.Ytecncnkbgfjdcaa
open Ieee near

theorem down_cut (s : Bool) (n drop : Nat) : Toward.down.cut s n drop = n / 2 ^ drop + (s && n % 2 ^ drop != 0).toNat := by
  have h0 : Toward.down.cut s n drop = n / (1 <<< min drop (n.log2 + 2)) + (s && n % (1 <<< min drop (n.log2 + 2)) != 0).toNat := rfl
  rw [h0, Nat.one_shiftLeft]
  by_cases h : drop ≤ n.log2 + 2
  · rw [Nat.min_eq_left h]
  · rw [Nat.min_eq_right (by omega)]
    have h4 : n < 2 ^ (n.log2 + 1) := Nat.lt_log2_self
    have h5 := two_pow_le (show n.log2 + 1 ≤ n.log2 + 2 by omega)
    have h6 := two_pow_le (show n.log2 + 1 ≤ drop by omega)
    rw [Nat.div_eq_of_lt (by omega), Nat.div_eq_of_lt (by omega), Nat.mod_eq_of_lt (by omega), Nat.mod_eq_of_lt (by omega)]
/-- From M = u * D / P: the cut of M by D. -/
theorem cut_rel (M D P u : Nat) (hD : 0 < D) (h : u * D = M * P) : M / D * P ≤ u ∧ u ≤ (M / D + 1) * P ∧ (M % D = 0 → u = M / D * P) ∧ (0 < P → u < (M / D + 1) * P) ∧ (0 < P → M % D ≠ 0 → M / D * P < u) := by
  have h1 := Nat.div_add_mod M D
  have h2 := Nat.mod_lt M hD
  generalize M / D = q at *
  generalize M % D = r at *
  have h3 : u * D = q * P * D + r * P := by rw [h, ← h1, Nat.add_mul]; congr 1; grind
  refine ⟨?_, ?_, ?_, ?_, ?_⟩
  · refine Nat.le_of_mul_le_mul_right ?_ hD
    omega
  · refine Nat.le_of_mul_le_mul_right ?_ hD
    have h4 : r * P ≤ D * P := Nat.mul_le_mul_right _ (Nat.le_of_lt h2)
    have h5 : (q + 1) * P * D = q * P * D + D * P := by grind
    omega
  · intro h0
    refine Nat.eq_of_mul_eq_mul_right hD ?_
    rw [h3, h0, Nat.zero_mul, Nat.add_zero]
  · intro hP
    refine Nat.lt_of_mul_lt_mul_right (a := D) ?_
    have h4 : r * P < D * P := Nat.mul_lt_mul_of_pos_right h2 hP
    have h5 : (q + 1) * P * D = q * P * D + D * P := by grind
    omega
  · intro hP hr
    refine Nat.lt_of_mul_lt_mul_right (a := D) ?_
    have h4 : 0 < r * P := Nat.mul_pos (Nat.pos_of_ne_zero hr) hP
    omega
theorem flo_rel {t F N : Nat} {n : Int} (hN : N = 1074) (h : Flo t F n) (hle : units FloatKind.f64.format (rg FloatKind.f64.format t) ≤ 67108864 * 2 ^ N) :
    n * ((2 ^ N : Nat) : Int) ≤ Z FloatKind.f64.format t ∧ Z FloatKind.f64.format t < (n + 1) * ((2 ^ N : Nat) : Int) := by
  have hP := Nat.two_pow_pos N
  rcases read_cases .f64 t with ⟨h1, m, e, hd, he, hu, hm⟩ | ⟨h1, _⟩ | ⟨h1, _⟩
  · rw [lp64] at he hu
    rw [show e - -1074 = e + 1074 by omega] at hu
    obtain ⟨k, hk⟩ : ∃ k, k = Toward.down.cut (sgn FloatKind.f64.format t) (m <<< e.toNat) (-e).toNat := ⟨_, rfl⟩
    have hrel := cut_rel (m <<< e.toNat) (2 ^ (-e).toNat) (2 ^ N) (units FloatKind.f64.format (rg FloatKind.f64.format t)) (Nat.two_pow_pos _) (by
      rw [← hu, Nat.shiftLeft_eq, Nat.mul_assoc, Nat.mul_assoc, ← Nat.pow_add, ← Nat.pow_add]
      congr 2
      omega)
    have hk2 := hk
    rw [down_cut] at hk2
    generalize (m <<< e.toNat) / 2 ^ (-e).toNat = q at *
    generalize (m <<< e.toNat) % 2 ^ (-e).toNat = r at *
    obtain ⟨r1, r2, r3, r4, r5⟩ := hrel
    have hq67 : q ≤ 67108864 := Nat.le_of_mul_le_mul_right (Nat.le_trans r1 hle) hP
    have hk67 : k ≤ 67108865 := by
      have : ∀ b : Bool, b.toNat ≤ 1 := by intro b; cases b <;> decide
      have := this (sgn FloatKind.f64.format t && r != 0)
      omega
    obtain ⟨w, hw⟩ := represents FloatKind.f64.format k 0 (by rw [bin64]; omega) (by rw [lp64]; omega)
    rw [lp64, show (0 - -1074 : Int).toNat = 1074 by omega] at hw
    have hw52 : w < 4841369599423283200 := by
      refine Nat.lt_of_not_le fun hle => ?_
      have h2 := units_le FloatKind.f64.format hle
      rw [hw, units_52] at h2
      exact Nat.lt_irrefl _ (Nat.lt_of_le_of_lt h2 (flo_bound 1074 k rfl hk67))
    have hnear : FloatKind.f64.format.nearest (sgn FloatKind.f64.format t) k 0 = FloatKind.f64.format.word (sgn FloatKind.f64.format t) w :=
      nearest_exact FloatKind.f64.format _ k 0 w (by rw [inf64]; omega) (by rw [lp64, hw, show (-1074 - 0 : Int).toNat = 0 by omega, show (0 - -1074 : Int).toNat = 1074 by omega, Nat.pow_zero, Nat.mul_one])
    have hF : F = FloatKind.f64.format.word (sgn FloatKind.f64.format t) w := by
      rw [← h.word, hd, ← hnear, hk]; rfl
    have hsw : w < FloatKind.f64.format.signWeight := by rw [sw64]; omega
    rw [← hN] at hw
    have hI : IsI .f64 F (if sgn FloatKind.f64.format t then -(k : Int) else (k : Int)) := by
      refine ⟨?_, ?_, ?_⟩
      · rw [hF]
        have := Format.nearest_lt FloatKind.f64.format (sgn FloatKind.f64.format t) k 0
        rw [hnear] at this
        exact this
      · rw [hF, rg_word .f64 _ w hsw, inf64]; omega
      · unfold Z
        rw [hF, rg_word .f64 _ w hsw, sgn_word .f64 _ w hsw, hw, show Lk .f64 = N by rw [hN]; rfl]
        cases sgn FloatKind.f64.format t
        · simp
        · simp [Int.neg_mul]
    have hn : n = if sgn FloatKind.f64.format t then -(k : Int) else (k : Int) := by
      have := hI.toInt (by split <;> omega) (by split <;> omega)
      rw [h.int] at this
      exact Option.some.inj this
    unfold Z
    rw [hn]
    have r4' := r4 hP
    have r5' := r5 hP
    generalize units FloatKind.f64.format (rg FloatKind.f64.format t) = u at *
    clear hu h1 hm hd he hnear hF hI hn h hw hw52 hsw hq67 hk67 hle r4 r5 hk r2
    generalize 2 ^ N = P at *
    cases hs : sgn FloatKind.f64.format t
    · rw [hs, Bool.false_and] at hk2
      simp only [Bool.toNat_false, Nat.add_zero] at hk2
      subst hk2
      rw [Nat.add_mul] at r4'
      simp only [Bool.false_eq_true, if_false, Int.add_mul, ← Int.natCast_mul]
      omega
    · rw [hs, Bool.true_and] at hk2
      simp only [if_true, Int.add_mul, Int.neg_mul, ← Int.natCast_mul]
      by_cases h0 : r = 0
      · have r3' := r3 h0
        rw [h0] at hk2
        simp only [bne_self_eq_false, Bool.toNat_false, Nat.add_zero] at hk2
        subst hk2
        omega
      · have hb : (r != 0) = true := by simpa using h0
        rw [hb] at hk2
        simp only [Bool.toNat_true] at hk2
        subst hk2
        have r1' : q * P < u := r5' h0
        rw [Nat.add_mul] at r4' ⊢
        omega
  · have := h.fin; unfold Fin64 at this; rw [inf64] at h1; omega
  · have := h.fin; unfold Fin64 at this; rw [inf64] at h1; omega
end Go.Proofs.Ytecncnkbgfjdcaa
