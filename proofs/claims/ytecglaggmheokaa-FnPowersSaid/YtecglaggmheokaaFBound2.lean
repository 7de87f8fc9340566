/- Bounds by powers of two: sums, quotients, roots; what may be narrowed. -/
import Derived.Test.YtecglaggmheokaaFBound
set_option linter.unusedVariables false
set_option linter.unusedSimpArgs false
namespace Go.Proofs.Ytecglaggmheokaa
open Ieee near

theorem natAbs_signed (s : Bool) (m u : Nat) : (signed s m u).natAbs = m * 2 ^ u := by
  unfold signed
  split
  · rw [Int.natAbs_neg, Int.natAbs_natCast, Nat.shiftLeft_eq]
  · rw [Int.natAbs_natCast, Nat.shiftLeft_eq]

theorem UB.sum {x y : Nat} {E F G : Nat} {z : Datum} (ha : UB (some x) E) (hb : UB (some y) F) (hE : E < 2098) (hF : F < 2098) (hG : max E F < G) (hG2 : G ≤ 2098)
    (hx : (FloatKind.f64.decode x).isNaN = false) (hy : (FloatKind.f64.decode y).isNaN = false) (neg : Bool)
    (h : (FloatKind.f64.decode x).sum (if neg then (FloatKind.f64.decode y).opposite else FloatKind.f64.decode y) = some z) : UB (some (FloatKind.f64.format.write z)) G := by
  obtain ⟨m, i, e1, hi, hm⟩ := ha.read hE hx
  obtain ⟨n, j, e2, hj, hn⟩ := hb.read hF hy
  have h1 : ∃ s t, (FloatKind.f64.decode x).sum (if neg then (FloatKind.f64.decode y).opposite else FloatKind.f64.decode y) =
      (Datum.number s m i).sum (Datum.number t n j) := by
    rw [e1, e2]
    cases neg
    · exact ⟨_, _, rfl⟩
    · exact ⟨_, _, rfl⟩
  obtain ⟨s, t, h1⟩ := h1
  rw [h1] at h
  unfold Datum.sum at h
  dsimp only at h
  obtain rfl := Option.some.inj h
  refine nearest_ub _ _ _ G hG2 ?_
  have hbase : -1074 ≤ min i j := by omega
  rw [show (-1074 - min i j).toNat = 0 by omega, Nat.pow_zero, Nat.mul_one]
  have h2 : (signed s m (i - min i j).toNat + signed t n (j - min i j).toNat).natAbs ≤ m * 2 ^ (i - min i j).toNat + n * 2 ^ (j - min i j).toNat := by
    refine Nat.le_trans (Int.natAbs_add_le _ _) ?_
    rw [natAbs_signed, natAbs_signed]
    exact Nat.le_refl _
  refine Nat.le_trans (Nat.mul_le_mul_right _ h2) ?_
  rw [Nat.add_mul, Nat.mul_assoc, Nat.mul_assoc, ← Nat.pow_add, ← Nat.pow_add,
    show (i - min i j).toNat + (min i j + 1074).toNat = (i + 1074).toNat by omega, show (j - min i j).toNat + (min i j + 1074).toNat = (j + 1074).toNat by omega]
  have h3 := two_pow_le (show E ≤ G - 1 by omega)
  have h4 := two_pow_le (show F ≤ G - 1 by omega)
  have h5 : 2 ^ G = 2 ^ (G - 1) + 2 ^ (G - 1) := by
    rw [← Nat.two_mul, ← Nat.pow_succ']
    exact congrArg (2 ^ ·) (by omega)
  omega

theorem UB.add {a b : Option Nat} {E F G : Nat} (ha : UB a E) (hb : UB b F) (hE : E < 2098) (hF : F < 2098) (hG : max E F < G) (hG2 : G ≤ 2098) : UB (fop .add .f64 a b) G := by
  intro r hr
  obtain ⟨x, y, rfl, rfl, h⟩ := fop_some hr
  obtain ⟨hx, hy⟩ := bits_not_nan h
  have h' : ((FloatKind.f64.decode x).sum (FloatKind.f64.decode y)).map FloatKind.f64.format.write = some r := h
  obtain ⟨z, hz, rfl⟩ := Option.map_eq_some_iff.1 h'
  exact UB.sum ha hb hE hF hG hG2 hx hy false hz _ rfl
theorem UB.sub {a b : Option Nat} {E F G : Nat} (ha : UB a E) (hb : UB b F) (hE : E < 2098) (hF : F < 2098) (hG : max E F < G) (hG2 : G ≤ 2098) : UB (fop .sub .f64 a b) G := by
  intro r hr
  obtain ⟨x, y, rfl, rfl, h⟩ := fop_some hr
  obtain ⟨hx, hy⟩ := bits_not_nan h
  have h' : ((FloatKind.f64.decode x).sum (FloatKind.f64.decode y).opposite).map FloatKind.f64.format.write = some r := h
  obtain ⟨z, hz, rfl⟩ := Option.map_eq_some_iff.1 h'
  exact UB.sum ha hb hE hF hG hG2 hx hy true hz _ rfl

/-- The quotient of two numbers, the one at most 2 ^ (G - 1074) times the other. -/
theorem UB.div_of {x y r E : Nat} {G : Nat} (hG2 : G + 1 ≤ 2098) (hx : UB (some x) E) (hE : E < 2098) (hy : rg FloatKind.f64.format y < FloatKind.f64.format.infRung) (hy0 : 0 < rg FloatKind.f64.format y)
    (hle : units FloatKind.f64.format (rg FloatKind.f64.format x) * 2 ^ 1074 ≤ units FloatKind.f64.format (rg FloatKind.f64.format y) * 2 ^ G)
    (h : floatBits .quo .f64 x y = some r) : UB (some r) (G + 1) := by
  obtain ⟨hnx, hny⟩ := bits_not_nan h
  rcases read_cases .f64 x with ⟨hx1, m, i, e1, hi, hm, _⟩ | ⟨hx1, e1⟩ | ⟨_, h2⟩
  · rcases read_cases .f64 y with ⟨hy1, n, j, e2, hj, hn, _⟩ | ⟨hy1, e2⟩ | ⟨_, h2⟩
    · rw [lp64] at hi hj hm hn
      have hn0 : n ≠ 0 := by
        rintro rfl
        rw [Nat.zero_mul] at hn
        have h0 : units FloatKind.f64.format 0 = 0 := by unfold units; rw [if_pos (binade_pos _)]
        have := units_inj FloatKind.f64.format (hn.symm.trans h0.symm)
        omega
      have h' : ((FloatKind.f64.decode x).quotient 54 (FloatKind.f64.decode y)).map FloatKind.f64.format.write = some r := h
      rw [e1, e2] at h'
      unfold Datum.quotient at h'
      dsimp only at h'
      rw [if_neg hn0] at h'
      obtain rfl := Option.some.inj h'
      generalize hmore : 54 + n.log2 - m.log2 = more
      by_cases hm0 : m = 0
      · subst hm0
        refine nearest_ub _ _ _ (G + 1) hG2 ?_
        rw [Nat.zero_shiftLeft, Nat.zero_div, Nat.zero_mod]
        simp
      have hstick : ∀ b : Bool, b.toNat ≤ 1 := fun b => by cases b <;> decide
      have hs := hstick (m <<< more % n != 0)
      generalize (m <<< more % n != 0).toNat = st at hs ⊢
      refine nearest_ub _ _ _ (G + 1) hG2 ?_
      · -- the whole quotient is at least one
        have hq1 : 1 ≤ m <<< more / n := by
          rw [Nat.shiftLeft_eq, Nat.le_div_iff_mul_le (by omega), Nat.one_mul]
          have h1 : n < 2 ^ (n.log2 + 1) := Nat.lt_log2_self
          have h2 : 2 ^ m.log2 ≤ m := Nat.log2_self_le hm0
          have h3 : 2 ^ (n.log2 + 1) ≤ 2 ^ m.log2 * 2 ^ more := by rw [← Nat.pow_add]; exact two_pow_le (by omega)
          have h4 := Nat.mul_le_mul_right (2 ^ more) h2
          omega
        have hq2 : m <<< more / n * n ≤ m * 2 ^ more := by rw [Nat.shiftLeft_eq]; exact Nat.div_mul_le_self _ _
        generalize m <<< more / n = q at hq1 hq2 ⊢
        have hmag : 2 * q + st ≤ 4 * q := by omega
        refine Nat.le_trans (Nat.mul_le_mul_right _ hmag) ?_
        -- q * n ≤ m * 2^more, m * 2^(i+1074) * 2^1074 ≤ n * 2^(j+1074) * 2^G
        rw [← hm, ← hn] at hle
        have key : q * (2 ^ ((i - -1074).toNat + 1074)) ≤ 2 ^ ((j - -1074).toNat + G + more) := by
          refine Nat.le_of_mul_le_mul_right (Nat.le_trans ?_ (Nat.le_refl _)) (Nat.pos_of_ne_zero hn0)
          calc q * 2 ^ ((i - -1074).toNat + 1074) * n = q * n * 2 ^ ((i - -1074).toNat + 1074) := by rw [Nat.mul_right_comm]
            _ ≤ m * 2 ^ more * 2 ^ ((i - -1074).toNat + 1074) := Nat.mul_le_mul_right _ hq2
            _ = m * 2 ^ (i - -1074).toNat * 2 ^ 1074 * 2 ^ more := by rw [Nat.pow_add 2 (i - -1074).toNat 1074, Nat.mul_right_comm m, ← Nat.mul_assoc]
            _ ≤ n * 2 ^ (j - -1074).toNat * 2 ^ G * 2 ^ more := Nat.mul_le_mul_right _ hle
            _ = 2 ^ ((j - -1074).toNat + G + more) * n := by rw [Nat.pow_add, Nat.pow_add, Nat.mul_comm _ n, Nat.mul_assoc, Nat.mul_assoc, Nat.mul_assoc]
        rw [show 4 * q = q * 2 ^ 2 by omega]
        obtain ⟨u, hu⟩ : ∃ u, (i - -1074).toNat + 1074 = u := ⟨_, rfl⟩
        obtain ⟨v, hv⟩ : ∃ v, (j - -1074).toNat + G + more = v := ⟨_, rfl⟩
        rw [hu, hv] at key
        by_cases hS : 0 ≤ i - j - more - 1 + 1074
        · rw [show (-1074 - (i - j - more - 1)).toNat = 0 by omega, Nat.pow_zero, Nat.mul_one]
          refine Nat.le_of_mul_le_mul_right (c := 2 ^ ((j - -1074).toNat + more)) ?_ (Nat.two_pow_pos _)
          rw [Nat.mul_assoc, Nat.mul_assoc, ← Nat.pow_add, ← Nat.pow_add, ← Nat.pow_add,
            show 2 + ((i - j - more - 1 + 1074).toNat + ((j - -1074).toNat + more)) = u + 1 by omega, Nat.pow_succ, ← Nat.mul_assoc,
            show G + 1 + ((j - -1074).toNat + more) = v + 1 by omega, Nat.pow_succ]
          exact Nat.mul_le_mul_right _ key
        · rw [show (i - j - more - 1 + 1074).toNat = 0 by omega, Nat.pow_zero, Nat.mul_one]
          refine Nat.le_of_mul_le_mul_right (c := 2 ^ u) ?_ (Nat.two_pow_pos _)
          rw [Nat.mul_right_comm, ← Nat.pow_add, ← Nat.pow_add]
          refine Nat.le_trans (Nat.mul_le_mul_right _ key) ?_
          rw [← Nat.pow_add]
          exact two_pow_le (by omega)
    · omega
    · rw [hny] at h2; cases h2
  · exfalso
    obtain ⟨m, e, e3, _⟩ := hx.read hE hnx
    rw [e1] at e3; cases e3
  · rw [hnx] at h2; cases h2
end Go.Proofs.Ytecglaggmheokaa
