/- Bounds by powers of two: what an operation's result can be at most. -/
import Derived.Test.YtecncnkbgfjdcaaZFConv
import Derived.Test.YtecncnkbgfjdcaaZFWalk
import Derived.Test.YtecncnkbgfjdcaaZWRoot
set_option linter.unusedVariables false
set_option linter.unusedSimpArgs false
namespace Go.Proofs.Ytecncnkbgfjdcaa
open Ieee near

theorem two_pow_le {a b : Nat} (h : a ≤ b) : 2 ^ a ≤ 2 ^ b := Nat.pow_le_pow_right (by omega) h

/-- A power of two as a rung of float64. -/
theorem rung_pow (E : Nat) (hE : E ≤ 2098) : ∃ q, q ≤ FloatKind.f64.format.infRung ∧ units FloatKind.f64.format q = 2 ^ E := by
  by_cases h : E < 52
  · refine ⟨2 ^ E, ?_, ?_⟩
    · have := two_pow_le (Nat.le_of_lt h)
      rw [inf64]; omega
    · unfold units
      have h2 : 2 ^ E < 2 ^ 52 := Nat.pow_lt_pow_right (by omega) h
      rw [if_pos (by rw [bin64]; omega)]
  · refine ⟨(E - 52) * FloatKind.f64.format.binade + FloatKind.f64.format.binade, ?_, ?_⟩
    · rw [inf64, bin64]; omega
    · rw [units_at FloatKind.f64.format (E - 52) _ (by omega) (.inr (Nat.le_refl _))]
      rw [show FloatKind.f64.format.binade = 2 ^ 52 from rfl, ← Nat.pow_add]
      exact congrArg (2 ^ ·) (by omega)
theorem rung_pow32 (E : Nat) (h0 : 23 ≤ E) (hE : E ≤ 276) : ∃ q, q < FloatKind.f32.format.infRung ∧ units FloatKind.f32.format q = 2 ^ E := by
  refine ⟨(E - 23) * FloatKind.f32.format.binade + FloatKind.f32.format.binade, ?_, ?_⟩
  · rw [inf32, bin32]; omega
  · rw [units_at FloatKind.f32.format (E - 23) _ (by omega) (.inr (Nat.le_refl _))]
    rw [show FloatKind.f32.format.binade = 2 ^ 23 from rfl, ← Nat.pow_add]
    exact congrArg (2 ^ ·) (by omega)

/-- A float64 value is at most 2 ^ (E - 1074), or a NaN. -/
def UB (v : Option Nat) (E : Nat) : Prop := ∀ b, v = some b → units FloatKind.f64.format (rg FloatKind.f64.format b) ≤ 2 ^ E

theorem UB.none_ (E : Nat) : UB none E := fun _ h => by cases h
theorem UB.mono {v : Option Nat} {E F : Nat} (h : UB v E) (hEF : E ≤ F) : UB v F := fun b hb => Nat.le_trans (h b hb) (two_pow_le hEF)

/-- What UB says of a number read: its magnitude. -/
theorem UB.read {b E : Nat} (h : UB (some b) E) (hE : E < 2098) (hn : (FloatKind.f64.decode b).isNaN = false) :
    ∃ m e, FloatKind.f64.decode b = .number (sgn FloatKind.f64.format b) m e ∧ -1074 ≤ e ∧ m * 2 ^ (e + 1074).toNat ≤ 2 ^ E := by
  have hb := h b rfl
  rcases read_cases .f64 b with ⟨h1, m, e, e1, he, hm, _⟩ | ⟨h1, e1⟩ | ⟨h1, h2⟩
  · refine ⟨m, e, e1, by rw [lp64] at he; omega, ?_⟩
    rw [lp64] at hm
    rw [show e + 1074 = e - -1074 by omega, hm]; exact hb
  · exfalso
    rw [h1] at hb
    obtain ⟨N, hN⟩ : ∃ N : Nat, N = 2098 := ⟨_, rfl⟩
    obtain ⟨q, hq, hu⟩ := rung_pow N (by omega)
    have h3 := units_le FloatKind.f64.format hq
    rw [hu] at h3
    have h5 : 2 ^ E < 2 ^ N := Nat.pow_lt_pow_right (by omega) (by omega)
    exact absurd (Nat.le_trans h3 hb) (Nat.not_le.2 h5)
  · rw [hn] at h2; cases h2

/-- A magnitude at most a power of two is rounded to at most that. -/
theorem nearest_ub (s : Bool) (mag : Nat) (place : Int) (E : Nat) (hE : E ≤ 2098) (h : mag * 2 ^ (place + 1074).toNat ≤ 2 ^ E * 2 ^ (-1074 - place).toNat) : UB (some (FloatKind.f64.format.nearest s mag place)) E := by
  intro b hb
  obtain rfl : FloatKind.f64.format.nearest s mag place = b := Option.some.inj hb
  obtain ⟨q, hq, hu⟩ := rung_pow E hE
  have hr : rawRung FloatKind.f64.format mag place ≤ q := raw_le FloatKind.f64.format mag place q (by rw [lp64, hu, show place - -1074 = place + 1074 by omega]; exact h)
  rw [nearest_eq, rg_word .f64 _ _ (by have h1 := FloatKind.f64.format.infRung_lt; have := Nat.min_le_right (rawRung FloatKind.f64.format mag place) FloatKind.f64.format.infRung; omega)]
  rw [← hu]
  exact units_le _ (Nat.le_trans (Nat.min_le_left _ _) hr)

theorem fop_some {op : BinOp} {k : FloatKind} {a b : Option Nat} {r : Nat} (h : fop op k a b = some r) : ∃ x y, a = some x ∧ b = some y ∧ floatBits op k x y = some r := by
  unfold fop at h
  cases a with
  | none => cases h
  | some x =>
    cases b with
    | none => cases h
    | some y => exact ⟨x, y, rfl, rfl, h⟩

theorem bits_not_nan {op : BinOp} {k : FloatKind} {x y r : Nat} (h : floatBits op k x y = some r) : (k.decode x).isNaN = false ∧ (k.decode y).isNaN = false := by
  constructor
  · cases hx : (k.decode x).isNaN with
    | false => rfl
    | true => rw [floatBits_nan_l hx] at h; cases h
  · cases hy : (k.decode y).isNaN with
    | false => rfl
    | true => rw [floatBits_nan_r hy] at h; cases h

theorem UB.mul {a b : Option Nat} {E F G : Nat} (ha : UB a E) (hb : UB b F) (hE : E < 2098) (hF : F < 2098) (hG : E + F ≤ G + 1074) (hG2 : G ≤ 2098) : UB (fop .mul .f64 a b) G := by
  intro r hr
  obtain ⟨x, y, rfl, rfl, h⟩ := fop_some hr
  obtain ⟨hx, hy⟩ := bits_not_nan h
  obtain ⟨m, i, e1, hi, hm⟩ := ha.read hE hx
  obtain ⟨n, j, e2, hj, hn⟩ := hb.read hF hy
  have h1 : floatBits .mul .f64 x y = some (FloatKind.f64.format.nearest (sgn FloatKind.f64.format x ^^ sgn FloatKind.f64.format y) (m * n) (i + j)) := by
    show (((FloatKind.f64.decode x).product (FloatKind.f64.decode y)).map FloatKind.f64.format.write) = _
    rw [e1, e2]; rfl
  rw [h1] at h
  refine nearest_ub _ (m * n) (i + j) G hG2 ?_ r h
  have h2 : m * n * 2 ^ ((i + 1074).toNat + (j + 1074).toNat) ≤ 2 ^ (G + 1074) := by
    rw [Nat.pow_add, show m * n * (2 ^ (i + 1074).toNat * 2 ^ (j + 1074).toNat) = (m * 2 ^ (i + 1074).toNat) * (n * 2 ^ (j + 1074).toNat) from by
      rw [Nat.mul_mul_mul_comm]]
    refine Nat.le_trans (Nat.mul_le_mul hm hn) ?_
    rw [← Nat.pow_add]; exact two_pow_le hG
  by_cases hS : 0 ≤ i + j + 1074
  · rw [show (-1074 - (i + j)).toNat = 0 by omega, Nat.pow_zero, Nat.mul_one]
    refine Nat.le_of_mul_le_mul_right ?_ (Nat.two_pow_pos 1074)
    rw [← Nat.pow_add 2 G 1074, Nat.mul_assoc, ← Nat.pow_add 2 _ 1074, show (i + j + 1074).toNat + 1074 = (i + 1074).toNat + (j + 1074).toNat by omega]
    exact h2
  · rw [show (i + j + 1074).toNat = 0 by omega, Nat.pow_zero, Nat.mul_one]
    refine Nat.le_of_mul_le_mul_right ?_ (Nat.two_pow_pos ((i + 1074).toNat + (j + 1074).toNat))
    refine Nat.le_trans h2 ?_
    rw [Nat.mul_assoc, ← Nat.pow_add, ← Nat.pow_add]
    exact two_pow_le (by omega)
end Go.Proofs.Ytecncnkbgfjdcaa
set_option linter.unusedVariables false
set_option linter.unusedSimpArgs false
namespace Go.Proofs.Ytecncnkbgfjdcaa
open Ieee near

theorem natAbs_signed (s : Bool) (m u : Nat) : (signed s m u).natAbs = m * 2 ^ u := by
  unfold signed
  split
  · rw [Int.natAbs_neg, Int.natAbs_natCast, Nat.shiftLeft_eq]
  · rw [Int.natAbs_natCast, Nat.shiftLeft_eq]

theorem UB.sum {x y : Nat} {E F G : Nat} {z : Datum} (ha : UB (some x) E) (hb : UB (some y) F) (hE : E < 2098) (hF : F < 2098) (hG : max E F < G) (hG2 : G ≤ 2098)
    (hx : (FloatKind.f64.decode x).isNaN = false) (hy : (FloatKind.f64.decode y).isNaN = false) (neg : Bool)
    (h : (FloatKind.f64.decode x).sum (if neg then (FloatKind.f64.decode y).opposite else FloatKind.f64.decode y) = some z) : UB (some (FloatKind.f64.format.write z)) G := by
  obtain ⟨m, i, e1, hi, hm⟩ := ha.read hE hx
  obtain ⟨n, j, e2, hj, hn⟩ := hb.read hF hy
  have h1 : ∃ s t, (FloatKind.f64.decode x).sum (if neg then (FloatKind.f64.decode y).opposite else FloatKind.f64.decode y) =
      (Datum.number s m i).sum (Datum.number t n j) := by
    rw [e1, e2]
    cases neg
    · exact ⟨_, _, rfl⟩
    · exact ⟨_, _, rfl⟩
  obtain ⟨s, t, h1⟩ := h1
  rw [h1] at h
  unfold Datum.sum at h
  dsimp only at h
  obtain rfl := Option.some.inj h
  refine nearest_ub _ _ _ G hG2 ?_
  have hbase : -1074 ≤ min i j := by omega
  rw [show (-1074 - min i j).toNat = 0 by omega, Nat.pow_zero, Nat.mul_one]
  have h2 : (signed s m (i - min i j).toNat + signed t n (j - min i j).toNat).natAbs ≤ m * 2 ^ (i - min i j).toNat + n * 2 ^ (j - min i j).toNat := by
    refine Nat.le_trans (Int.natAbs_add_le _ _) ?_
    rw [natAbs_signed, natAbs_signed]
    exact Nat.le_refl _
  refine Nat.le_trans (Nat.mul_le_mul_right _ h2) ?_
  rw [Nat.add_mul, Nat.mul_assoc, Nat.mul_assoc, ← Nat.pow_add, ← Nat.pow_add,
    show (i - min i j).toNat + (min i j + 1074).toNat = (i + 1074).toNat by omega, show (j - min i j).toNat + (min i j + 1074).toNat = (j + 1074).toNat by omega]
  have h3 := two_pow_le (show E ≤ G - 1 by omega)
  have h4 := two_pow_le (show F ≤ G - 1 by omega)
  have h5 : 2 ^ G = 2 ^ (G - 1) + 2 ^ (G - 1) := by
    rw [← Nat.two_mul, ← Nat.pow_succ']
    exact congrArg (2 ^ ·) (by omega)
  omega

theorem UB.add {a b : Option Nat} {E F G : Nat} (ha : UB a E) (hb : UB b F) (hE : E < 2098) (hF : F < 2098) (hG : max E F < G) (hG2 : G ≤ 2098) : UB (fop .add .f64 a b) G := by
  intro r hr
  obtain ⟨x, y, rfl, rfl, h⟩ := fop_some hr
  obtain ⟨hx, hy⟩ := bits_not_nan h
  have h' : ((FloatKind.f64.decode x).sum (FloatKind.f64.decode y)).map FloatKind.f64.format.write = some r := h
  obtain ⟨z, hz, rfl⟩ := Option.map_eq_some_iff.1 h'
  exact UB.sum ha hb hE hF hG hG2 hx hy false hz _ rfl
theorem UB.sub {a b : Option Nat} {E F G : Nat} (ha : UB a E) (hb : UB b F) (hE : E < 2098) (hF : F < 2098) (hG : max E F < G) (hG2 : G ≤ 2098) : UB (fop .sub .f64 a b) G := by
  intro r hr
  obtain ⟨x, y, rfl, rfl, h⟩ := fop_some hr
  obtain ⟨hx, hy⟩ := bits_not_nan h
  have h' : ((FloatKind.f64.decode x).sum (FloatKind.f64.decode y).opposite).map FloatKind.f64.format.write = some r := h
  obtain ⟨z, hz, rfl⟩ := Option.map_eq_some_iff.1 h'
  exact UB.sum ha hb hE hF hG hG2 hx hy true hz _ rfl

/-- The quotient of two numbers, the one at most 2 ^ (G - 1074) times the other. -/
theorem UB.div_of {x y r E : Nat} {G : Nat} (hG2 : G + 1 ≤ 2098) (hx : UB (some x) E) (hE : E < 2098) (hy : rg FloatKind.f64.format y < FloatKind.f64.format.infRung) (hy0 : 0 < rg FloatKind.f64.format y)
    (hle : units FloatKind.f64.format (rg FloatKind.f64.format x) * 2 ^ 1074 ≤ units FloatKind.f64.format (rg FloatKind.f64.format y) * 2 ^ G)
    (h : floatBits .quo .f64 x y = some r) : UB (some r) (G + 1) := by
  obtain ⟨hnx, hny⟩ := bits_not_nan h
  rcases read_cases .f64 x with ⟨hx1, m, i, e1, hi, hm, _⟩ | ⟨hx1, e1⟩ | ⟨_, h2⟩
  · rcases read_cases .f64 y with ⟨hy1, n, j, e2, hj, hn, _⟩ | ⟨hy1, e2⟩ | ⟨_, h2⟩
    · rw [lp64] at hi hj hm hn
      have hn0 : n ≠ 0 := by
        rintro rfl
        rw [Nat.zero_mul] at hn
        have h0 : units FloatKind.f64.format 0 = 0 := by unfold units; rw [if_pos (binade_pos _)]
        have := units_inj FloatKind.f64.format (hn.symm.trans h0.symm)
        omega
      have h' : ((FloatKind.f64.decode x).quotient 54 (FloatKind.f64.decode y)).map FloatKind.f64.format.write = some r := h
      rw [e1, e2] at h'
      unfold Datum.quotient at h'
      dsimp only at h'
      rw [if_neg hn0] at h'
      obtain rfl := Option.some.inj h'
      generalize hmore : 54 + n.log2 - m.log2 = more
      by_cases hm0 : m = 0
      · subst hm0
        refine nearest_ub _ _ _ (G + 1) hG2 ?_
        rw [Nat.zero_shiftLeft, Nat.zero_div, Nat.zero_mod]
        simp
      have hstick : ∀ b : Bool, b.toNat ≤ 1 := fun b => by cases b <;> decide
      have hs := hstick (m <<< more % n != 0)
      generalize (m <<< more % n != 0).toNat = st at hs ⊢
      refine nearest_ub _ _ _ (G + 1) hG2 ?_
      · -- the whole quotient is at least one
        have hq1 : 1 ≤ m <<< more / n := by
          rw [Nat.shiftLeft_eq, Nat.le_div_iff_mul_le (by omega), Nat.one_mul]
          have h1 : n < 2 ^ (n.log2 + 1) := Nat.lt_log2_self
          have h2 : 2 ^ m.log2 ≤ m := Nat.log2_self_le hm0
          have h3 : 2 ^ (n.log2 + 1) ≤ 2 ^ m.log2 * 2 ^ more := by rw [← Nat.pow_add]; exact two_pow_le (by omega)
          have h4 := Nat.mul_le_mul_right (2 ^ more) h2
          omega
        have hq2 : m <<< more / n * n ≤ m * 2 ^ more := by rw [Nat.shiftLeft_eq]; exact Nat.div_mul_le_self _ _
        generalize m <<< more / n = q at hq1 hq2 ⊢
        have hmag : 2 * q + st ≤ 4 * q := by omega
        refine Nat.le_trans (Nat.mul_le_mul_right _ hmag) ?_
        -- q * n ≤ m * 2^more, m * 2^(i+1074) * 2^1074 ≤ n * 2^(j+1074) * 2^G
        rw [← hm, ← hn] at hle
        have key : q * (2 ^ ((i - -1074).toNat + 1074)) ≤ 2 ^ ((j - -1074).toNat + G + more) := by
          refine Nat.le_of_mul_le_mul_right (Nat.le_trans ?_ (Nat.le_refl _)) (Nat.pos_of_ne_zero hn0)
          calc q * 2 ^ ((i - -1074).toNat + 1074) * n = q * n * 2 ^ ((i - -1074).toNat + 1074) := by rw [Nat.mul_right_comm]
            _ ≤ m * 2 ^ more * 2 ^ ((i - -1074).toNat + 1074) := Nat.mul_le_mul_right _ hq2
            _ = m * 2 ^ (i - -1074).toNat * 2 ^ 1074 * 2 ^ more := by rw [Nat.pow_add 2 (i - -1074).toNat 1074, Nat.mul_right_comm m, ← Nat.mul_assoc]
            _ ≤ n * 2 ^ (j - -1074).toNat * 2 ^ G * 2 ^ more := Nat.mul_le_mul_right _ hle
            _ = 2 ^ ((j - -1074).toNat + G + more) * n := by rw [Nat.pow_add, Nat.pow_add, Nat.mul_comm _ n, Nat.mul_assoc, Nat.mul_assoc, Nat.mul_assoc]
        rw [show 4 * q = q * 2 ^ 2 by omega]
        obtain ⟨u, hu⟩ : ∃ u, (i - -1074).toNat + 1074 = u := ⟨_, rfl⟩
        obtain ⟨v, hv⟩ : ∃ v, (j - -1074).toNat + G + more = v := ⟨_, rfl⟩
        rw [hu, hv] at key
        by_cases hS : 0 ≤ i - j - more - 1 + 1074
        · rw [show (-1074 - (i - j - more - 1)).toNat = 0 by omega, Nat.pow_zero, Nat.mul_one]
          refine Nat.le_of_mul_le_mul_right (c := 2 ^ ((j - -1074).toNat + more)) ?_ (Nat.two_pow_pos _)
          rw [Nat.mul_assoc, Nat.mul_assoc, ← Nat.pow_add, ← Nat.pow_add, ← Nat.pow_add,
            show 2 + ((i - j - more - 1 + 1074).toNat + ((j - -1074).toNat + more)) = u + 1 by omega, Nat.pow_succ, ← Nat.mul_assoc,
            show G + 1 + ((j - -1074).toNat + more) = v + 1 by omega, Nat.pow_succ]
          exact Nat.mul_le_mul_right _ key
        · rw [show (i - j - more - 1 + 1074).toNat = 0 by omega, Nat.pow_zero, Nat.mul_one]
          refine Nat.le_of_mul_le_mul_right (c := 2 ^ u) ?_ (Nat.two_pow_pos _)
          rw [Nat.mul_right_comm, ← Nat.pow_add, ← Nat.pow_add]
          refine Nat.le_trans (Nat.mul_le_mul_right _ key) ?_
          rw [← Nat.pow_add]
          exact two_pow_le (by omega)
    · omega
    · rw [hny] at h2; cases h2
  · exfalso
    obtain ⟨m, e, e3, _⟩ := hx.read hE hnx
    rw [e1] at e3; cases e3
  · rw [hnx] at h2; cases h2
end Go.Proofs.Ytecncnkbgfjdcaa
set_option linter.unusedVariables false
set_option linter.unusedSimpArgs false
namespace Go.Proofs.Ytecncnkbgfjdcaa
open Ieee near

theorem UB.divc {a : Option Nat} {c E F G : Nat} (ha : UB a E) (hE : E < 2098) (hc1 : rg FloatKind.f64.format c < FloatKind.f64.format.infRung) (hc0 : 0 < rg FloatKind.f64.format c)
    (hc : 2 ^ F ≤ units FloatKind.f64.format (rg FloatKind.f64.format c)) (hG : E + 1074 ≤ F + G) (hG2 : G + 1 ≤ 2098) : UB (fop .quo .f64 a (some c)) (G + 1) := by
  intro r hr
  obtain ⟨x, y, rfl, hy, h⟩ := fop_some hr
  obtain rfl := Option.some.inj hy
  refine UB.div_of hG2 ha hE hc1 hc0 ?_ h r rfl
  refine Nat.le_trans (Nat.mul_le_mul_right _ (ha x rfl)) ?_
  refine Nat.le_trans ?_ (Nat.mul_le_mul_right _ hc)
  rw [← Nat.pow_add 2 E 1074, ← Nat.pow_add]
  exact two_pow_le hG

/-- The square root on values. -/
def fsqrt (a : Option Nat) : Option Nat := a.bind fun x => FloatKind.f64.format.sqrt x

theorem rootFrom_sq (n : Nat) : ∀ (t r : Nat), r * r ≤ n → Datum.rootFrom n t r * Datum.rootFrom n t r ≤ n := by
  intro t
  induction t with
  | zero => intro r h; exact h
  | succ t ih =>
    intro r h
    unfold Datum.rootFrom
    dsimp only
    refine ih _ ?_
    split
    · assumption
    · exact h

theorem rootFrom_ge (n : Nat) : ∀ (t r : Nat), r ≤ Datum.rootFrom n t r := by
  intro t
  induction t with
  | zero => intro r; exact Nat.le_refl _
  | succ t ih =>
    intro r
    unfold Datum.rootFrom
    dsimp only
    refine Nat.le_trans ?_ (ih _)
    split
    · exact Nat.le_add_right _ _
    · exact Nat.le_refl _

theorem rootFrom_pos (n : Nat) (hn : 1 ≤ n) : ∀ t, 1 ≤ Datum.rootFrom n (t + 1) 0 := by
  intro t
  induction t with
  | zero =>
    unfold Datum.rootFrom Datum.rootFrom
    dsimp only
    rw [if_pos (by simpa using hn)]
    simp
  | succ t ih =>
    unfold Datum.rootFrom
    dsimp only
    split
    · refine Nat.le_trans ?_ (rootFrom_ge n _ _)
      rw [Nat.zero_add, Nat.one_shiftLeft]
      exact Nat.two_pow_pos _
    · exact ih

theorem sq_le_pow {a h : Nat} (h2 : a * a ≤ 2 ^ (2 * h)) : a ≤ 2 ^ h := by
  by_cases hc : a ≤ 2 ^ h
  · exact hc
  · exfalso
    have h3 : 2 ^ h + 1 ≤ a := by omega
    have h4 := Nat.mul_le_mul h3 h3
    have h5 : 2 ^ (2 * h) = 2 ^ h * 2 ^ h := by rw [Nat.two_mul, Nat.pow_add]
    rw [h5] at h2
    clear h5
    generalize 2 ^ h = P at *
    have h6 : (P + 1) * (P + 1) = P * P + P + P + 1 := by rw [Nat.add_mul, Nat.mul_add]; omega
    omega

theorem UB.sqrt {a : Option Nat} {E G : Nat} (ha : UB a E) (hE : E < 2098) (hG : E + 1077 ≤ 2 * G) (hG2 : G ≤ 2098) : UB (fsqrt a) G := by
  intro r hr
  obtain ⟨x, rfl, h⟩ := Option.bind_eq_some_iff.1 hr
  have hn : (FloatKind.f64.decode x).isNaN = false := by
    cases hn : (FloatKind.f64.decode x).isNaN with
    | false => rfl
    | true =>
      exfalso
      have h' : ((FloatKind.f64.decode x).root 54).map FloatKind.f64.format.write = some r := h
      cases hd : FloatKind.f64.decode x with
      | nan s f => rw [hd] at h'; cases h'
      | number s m e => rw [hd] at hn; cases hn
      | infinity s => rw [hd] at hn; cases hn
  obtain ⟨m, i, e1, hi, hm⟩ := ha.read hE hn
  have h' : ((FloatKind.f64.decode x).root 54).map FloatKind.f64.format.write = some r := h
  rw [e1] at h'
  unfold Datum.root at h'
  dsimp only at h'
  by_cases hm0 : m = 0
  · subst hm0
    rw [if_pos rfl] at h'
    obtain rfl := Option.some.inj h'
    refine nearest_ub _ _ _ G hG2 ?_ _ rfl
    rw [Nat.zero_mul]; exact Nat.zero_le _
  · rw [if_neg hm0] at h'
    split at h'
    · cases h'
    · obtain rfl := Option.some.inj h'
      generalize hmore0 : 2 * 54 - m.log2 = more0
      generalize hmore : more0 + ((i - more0) % 2).toNat = more
      have heven : (i - more) % 2 = 0 := by omega
      have hstick : ∀ b : Bool, b.toNat ≤ 1 := fun b => by cases b <;> decide
      generalize hw : Datum.rootFrom (m <<< more) ((m <<< more).log2 / 2 + 1) 0 = whole
      have hs := hstick (whole * whole != m <<< more)
      generalize (whole * whole != m <<< more).toNat = st at hs ⊢
      have hn1 : 1 ≤ m <<< more := by
        rw [Nat.shiftLeft_eq]; exact Nat.mul_pos (Nat.pos_of_ne_zero hm0) (Nat.two_pow_pos _)
      have hw1 : 1 ≤ whole := by rw [← hw]; exact rootFrom_pos _ hn1 _
      have hw2 : whole * whole ≤ m * 2 ^ more := by
        rw [← hw, ← Nat.shiftLeft_eq]; exact rootFrom_sq _ _ _ (Nat.zero_le _)
      refine nearest_ub _ _ _ G hG2 ?_ _ rfl
      have hmag : 2 * whole + st ≤ 2 ^ 2 * whole := by omega
      refine Nat.le_trans (Nat.mul_le_mul_right _ hmag) ?_
      obtain ⟨p, hp⟩ : ∃ p : Int, i - more = 2 * p := ⟨(i - more) / 2, by omega⟩
      rw [show (i - (more : Int)) / 2 = p by omega]
      -- whole^2 * 2^(i+1074) ≤ 2^(E+more)
      have h1 : whole * whole * 2 ^ (i + 1074).toNat ≤ 2 ^ (E + more) := by
        refine Nat.le_trans (Nat.mul_le_mul_right _ hw2) ?_
        rw [Nat.mul_right_comm, Nat.pow_add]
        exact Nat.mul_le_mul_right _ hm
      -- so the exponent is no less than nought
      have h2 : (i + 1074).toNat ≤ E + more := by
        have h3 : 1 * 2 ^ (i + 1074).toNat ≤ whole * whole * 2 ^ (i + 1074).toNat := Nat.mul_le_mul_right _ (Nat.mul_pos hw1 hw1)
        rw [Nat.one_mul] at h3
        exact (Nat.pow_le_pow_iff_right (by omega)).1 (Nat.le_trans h3 h1)
      obtain ⟨D, hD⟩ : ∃ D, E + more = D + (i + 1074).toNat := ⟨E + more - (i + 1074).toNat, by omega⟩
      have h4 : whole * whole ≤ 2 ^ D := by
        rw [hD, Nat.pow_add] at h1
        exact Nat.le_of_mul_le_mul_right h1 (Nat.two_pow_pos _)
      have h5 : whole ≤ 2 ^ ((D + 1) / 2) := sq_le_pow (Nat.le_trans h4 (two_pow_le (by omega)))
      refine Nat.le_trans (Nat.mul_le_mul_right _ (Nat.mul_le_mul_left _ h5)) ?_
      rw [← Nat.pow_add, ← Nat.pow_add, ← Nat.pow_add]
      exact two_pow_le (by omega)

/-- What is at most 2^127 stays finite when narrowed. -/
theorem fits_of_UB {v : Option Nat} {E : Nat} (h : UB v E) (hE : E ≤ 1201) : fitsNarrow v := by
  intro b hb hn _
  subst hb
  obtain ⟨m, e, e1, he, hm⟩ := h.read (by omega) hn
  rw [e1]
  rw [inf_iff, decide_eq_false_iff_not]
  show ¬ rg FloatKind.f32.format (FloatKind.f32.format.nearest _ m e) = _
  obtain ⟨N, hN⟩ : ∃ N : Nat, N = 276 := ⟨_, rfl⟩
  obtain ⟨q, hq, hu⟩ := rung_pow32 N (by omega) (by omega)
  have hr : rawRung FloatKind.f32.format m e ≤ q := by
    refine raw_le FloatKind.f32.format m e q ?_
    rw [lp32, hu]
    by_cases hc : -149 ≤ e
    · rw [show (-149 - e).toNat = 0 by omega, Nat.pow_zero, Nat.mul_one]
      refine Nat.le_of_mul_le_mul_right (c := 2 ^ 925) ?_ (Nat.two_pow_pos _)
      rw [Nat.mul_assoc, ← Nat.pow_add 2 _ 925, ← Nat.pow_add 2 N 925, show (e - -149).toNat + 925 = (e + 1074).toNat by omega]
      exact Nat.le_trans hm (two_pow_le (by omega))
    · rw [show (e - -149).toNat = 0 by omega, Nat.pow_zero, Nat.mul_one]
      refine Nat.le_of_mul_le_mul_right (c := 2 ^ (e + 1074).toNat) ?_ (Nat.two_pow_pos _)
      rw [Nat.mul_assoc, ← Nat.pow_add, ← Nat.pow_add]
      exact Nat.le_trans hm (two_pow_le (by omega))
  rw [nearest_eq, rg_word .f32 _ _ (by have h1 := FloatKind.f32.format.infRung_lt; have := Nat.min_le_right (rawRung FloatKind.f32.format m e) FloatKind.f32.format.infRung; omega)]
  omega
end Go.Proofs.Ytecncnkbgfjdcaa
set_option linter.unusedVariables false
set_option linter.unusedSimpArgs false
namespace Go.Proofs.Ytecncnkbgfjdcaa
open Go.RowKit near

theorem UB.wide_of {x : Nat} (hx : rg FloatKind.f32.format x < 2139095040) (N : Nat) (hN : N = 1202) : UB (fwide (val .f32 x)) N := by
  intro b hb
  have hn : (FloatKind.f32.decode x).isNaN = false := by
    rw [decode_isNaN, decide_eq_false_iff_not, inf32]
    show ¬ 2139095040 < rg FloatKind.f32.format x
    omega
  rw [val_some hn] at hb
  have hb' : FloatKind.f64.encode (FloatKind.f32.decode x) = b := Option.some.inj hb
  obtain ⟨q, hq, hql, hu⟩ := wide_number hx
  rw [hq] at hb'
  rw [← hb', rg_word .f64 _ _ (by rw [sw64]; omega), hu]
  have h3 := units_lt FloatKind.f32.format hx
  rw [units_inf32] at h3
  have h4 := Nat.le_of_lt (Nat.mul_lt_mul_of_pos_right h3 (Nat.two_pow_pos 925))
  refine Nat.le_trans h4 ?_
  have h6 := pow_scale 254 925 23 0 N 8388608 1 (by decide) (by decide) (by omega)
  exact Nat.le_of_eq (h6.trans (Nat.one_mul _))

theorem UB.wide {x : Nat} (hx : rg FloatKind.f32.format x < 2139095040) : UB (fwide (val .f32 x)) 1202 := UB.wide_of hx 1202 rfl

/-- The root of any float32, widened, can be narrowed. -/
theorem fits_sqrt (x : Nat) : fitsNarrow (fsqrt (fwide (val .f32 x))) := by
  cases hn : (FloatKind.f32.decode x).isNaN with
  | true => rw [val_none hn]; intro b hb; cases hb
  | false =>
    have hr := not_nan_rg hn
    rw [inf32] at hr
    by_cases hi : rg FloatKind.f32.format x = 2139095040
    · rw [val_some hn]
      intro b hb _ hinf
      have h1 : fsqrt (some (FloatKind.f64.encode (FloatKind.f32.decode x))) = some b := hb
      rw [wide_inf hi] at h1
      cases hs : sgn FloatKind.f32.format x with
      | true => rw [hs] at h1; exfalso; revert h1; rw [show fsqrt (some (FloatKind.f64.format.word true 9218868437227405312)) = none by decide +kernel]; intro h; cases h
      | false =>
        rw [hs] at h1
        rw [show fsqrt (some (FloatKind.f64.format.word false 9218868437227405312)) = some 9218868437227405312 by decide +kernel] at h1
        obtain rfl := Option.some.inj h1
        exfalso; revert hinf; decide +kernel
    · exact fits_of_UB (UB.sqrt (G := 1140) (UB.wide (by omega)) (by omega) (by omega) (by omega)) (by omega)

theorem sqrt_entry (x : Nat) : Extern.MathSqrt.sqrt #[.float .f64 x] = (match FloatKind.f64.format.sqrt x with
    | some r => pure (.float .f64 r)
    | none => do pure (.float .f64 (← choose (.nanBits .f64 x x)))) := rfl
theorem mathSqrt_any (x : Nat) (w : World) : Calls Try.prog 54 #[.float .f64 x] w fun e w' => RetF .f64 (fsqrt (val .f64 x)) w e w' := by
  have hext := fun W => run_callFunc_extern (P := Try.prog) Try.func67 (by kernel_rfl) (by kernel_rfl) (by kernel_rfl) (e := Extern.MathSqrt.sqrt) (by kernel_rfl) #[.float .f64 x] W
  have hval : val .f64 x = some x ∨ val .f64 x = none := by
    cases hn : (FloatKind.f64.decode x).isNaN with
    | true => exact .inr (val_none hn)
    | false => exact .inl (val_some hn)
  cases hq : FloatKind.f64.format.sqrt x with
  | some r =>
    have hrun : ∀ W, (callFunc 67 #[.float .f64 x]).run Try.prog W = .ok (.value (.float .f64 r)) W := by
      intro W
      rw [hext W]
      rw [sqrt_entry, hq]
      rfl
    have hd : ((FloatKind.f64.decode x).root 54).map FloatKind.f64.format.write = some r := hq
    have HF : Hid (FIs .f64 r (fsqrt (val .f64 x))) := by
      refine Lib.hid ?_
      obtain ⟨d, h1, rfl⟩ := Option.map_eq_some_iff.1 hd
      have hdn : d.isNaN = false := by
        cases hx : FloatKind.f64.decode x with
        | nan s f => rw [hx] at h1; cases h1
        | infinity s => rw [hx] at h1; simp only [Ieee.Datum.root] at h1; split at h1 <;> cases h1; rfl
        | number s m e => rw [hx] at h1; simp only [Ieee.Datum.root] at h1; (repeat' split at h1) <;> first | (cases h1; done) | (cases h1; rfl)
      have hxn : (FloatKind.f64.decode x).isNaN = false := by
        cases hx : FloatKind.f64.decode x with
        | nan s f => rw [hx] at h1; cases h1
        | infinity s => rfl
        | number s m e => rfl
      rw [val_some hxn]
      show FIs .f64 _ (FloatKind.f64.format.sqrt x)
      rw [hq]
      exact FIs.mk (val_some (write_not_nan .f64 d hdn)) (Ieee.Format.write_lt _ _)
    clear hext hval hq hd
    go_enter Try.func54, Try.ntmps54
    go_wp2_with fail
    go_ret
    exact ⟨_, 0, rfl, HF.out, rfl⟩
  | none =>
    have hrun : ∀ W, (callFunc 67 #[.float .f64 x]).run Try.prog W = .ok (.value (.float .f64 ((Question.nanBits .f64 x x).cut (W.tape W.drawn (.nanBits .f64 x x))))) W.drew := by
      intro W
      rw [hext W]
      rw [sqrt_entry, hq]
      simp [Question.forced]
    have HF : Hid (fsqrt (val .f64 x) = none) := by
      refine Lib.hid ?_
      rcases hval with h | h
      · rw [h]; exact hq
      · rw [h]; rfl
    clear hext hval hq
    go_enter Try.func54, Try.ntmps54
    go_wp2_with fail
    go_ret
    exact ⟨_, 1, rfl, by rw [HF.out]; exact FIs.mk (val_nanCut _ _ _ _) (nanCut_lt _ _ _ _), rfl⟩
theorem l01Narrow_any (x : Nat) (hfit : fitsNarrow (val .f64 x)) (w : World) : Calls Try.prog 62 #[.float .f64 x] w fun e w' => RetF .f32 (fnarrow (val .f64 x)) w e w' := by
  have Hf := Lib.hid hfit
  clear hfit
  go_enter Try.func62, Try.ntmps62
  go_wp2_with (refine wpList_narrow rfl _ _ _ rfl (by kernel_rfl) (by kernel_rfl) _ rfl Hf.out ?_; intro r n hr)
  go_ret
  exact ⟨_, _, rfl, hr, rfl⟩
end Go.Proofs.Ytecncnkbgfjdcaa
set_option linter.unusedVariables false
set_option linter.unusedSimpArgs false
namespace Go.Proofs.Ytecncnkbgfjdcaa
open Go.RowKit near

theorem wpw {k : FloatKind} {r : Nat} {v : Option Nat} (h : FIs k r v) : val k r = v := h.out

end Go.Proofs.Ytecncnkbgfjdcaa
set_option linter.unusedVariables false
set_option linter.unusedSimpArgs false
namespace Go.Proofs.Ytecncnkbgfjdcaa
open Ieee near

def fl (n : Int) : Nat := FloatKind.f64.nearest n
def one64 : Nat := 4607182418800017408
def two64 : Nat := 4611686018427387904

theorem inf64' : FloatKind.f64.format.infRung = 2047 * 4503599627370496 := rfl

/-- A float64 that is positive and no NaN, with its exponent field d: what its word reads as. -/
theorem read_normal {y d f : Nat} (hy : y = d * 4503599627370496 + f) (hf : f < 4503599627370496) (hd : 1 ≤ d) (hd2 : d ≤ 2046) :
    FloatKind.f64.decode y = .number false (4503599627370496 + f) (-1074 + (d - 1 : Nat)) := by
  have hsw : FloatKind.f64.format.signWeight = 9223372036854775808 := rfl
  have h1 : y / FloatKind.f64.format.signWeight = 0 := by rw [hsw]; exact Nat.div_eq_of_lt (by omega)
  have h2 : y % FloatKind.f64.format.signWeight = y := by rw [hsw]; exact Nat.mod_eq_of_lt (by omega)
  unfold FloatKind.decode Format.read
  dsimp only
  rw [h1, h2, if_neg (by rw [bin64]; omega), if_pos (by rw [inf64']; omega), bin64, lp64]
  have h3 : y % 4503599627370496 = f := by omega
  have h4 : y / 4503599627370496 = d := by omega
  rw [h3, h4]; rfl

theorem log2_eq {m k : Nat} (h1 : 2 ^ k ≤ m) (h2 : m < 2 ^ (k + 1)) : m.log2 = k := by
  have hm : m ≠ 0 := by have := Nat.two_pow_pos k; omega
  have h3 := Nat.log2_self_le hm
  have h4 : m < 2 ^ (m.log2 + 1) := Nat.lt_log2_self
  have h5 : k < m.log2 + 1 := (Nat.pow_lt_pow_iff_right (by omega)).1 (Nat.lt_of_le_of_lt h1 h4)
  have h6 : m.log2 < k + 1 := (Nat.pow_lt_pow_iff_right (by omega)).1 (Nat.lt_of_le_of_lt h3 h2)
  omega

theorem units_normal {d f : Nat} (hf : f < 4503599627370496) (hd : 1 ≤ d) : units FloatKind.f64.format (d * 4503599627370496 + f) = (4503599627370496 + f) * 2 ^ (d - 1) := by
  have := units_at FloatKind.f64.format (d - 1) (4503599627370496 + f) (by rw [bin64]; omega) (.inr (by rw [bin64]; omega))
  rw [bin64] at this
  rw [← this]
  exact congrArg (units FloatKind.f64.format) (by omega)

theorem pow_scale3 (A B M N K c : Nat) (hM : M = N * K) (hK : K = 2 ^ c) (h : c + A = B) : M * 2 ^ A = N * 2 ^ B := by
  subst hM; subst hK; subst h
  rw [Nat.mul_assoc, ← Nat.pow_add]

theorem units_word {q d f M L : Nat} (hq : q = d * 4503599627370496 + f) (hf : f < 4503599627370496) (hd : 1 ≤ d) (hM : M = 4503599627370496 + f) (hL : L = d - 1) : units FloatKind.f64.format q = M * 2 ^ L := by
  subst hq; subst hM; subst hL
  exact units_normal hf hd

theorem two_read : FloatKind.f64.decode two64 = .number false 4503599627370496 (-51) := by decide +kernel

/-- y / 2. -/
theorem halve_of {y t q : Nat} (ht : FloatKind.f64.decode t = .number false 4503599627370496 (-51)) (hq : q + 4503599627370496 = y) (h1 : 2 * 4503599627370496 ≤ y) (h2 : y < 2047 * 4503599627370496) : floatBits .quo .f64 y t = some q := by
  obtain ⟨d, f, hy, hf⟩ : ∃ d f, y = d * 4503599627370496 + f ∧ f < 4503599627370496 := ⟨y / 4503599627370496, y % 4503599627370496, by omega, by omega⟩
  have hd : 2 ≤ d := by omega
  have hd2 : d ≤ 2046 := by omega
  show ((FloatKind.f64.decode y).quotient 54 (FloatKind.f64.decode t)).map FloatKind.f64.format.write = _
  rw [read_normal hy hf (by omega) hd2, ht]
  unfold Datum.quotient
  dsimp only
  have hl1 : (4503599627370496 + f).log2 = 52 := log2_eq (by omega) (by omega)
  have hl2 : Nat.log2 4503599627370496 = 52 := by decide +kernel
  rw [if_neg (by omega), hl1, hl2, Nat.shiftLeft_eq]
  have e1 : (4503599627370496 + f) * 2 ^ (54 + 52 - 52) = (4503599627370496 + f) * 4 * 4503599627370496 := by omega
  rw [e1, Nat.mul_div_cancel _ (by omega), Nat.mul_mod_left]
  show some (FloatKind.f64.format.nearest _ _ _) = _
  congr 1
  rw [show 2 * ((4503599627370496 + f) * 4) + (0 != 0).toNat = (4503599627370496 + f) * 8 by simp; omega]
  rw [nearest_exact FloatKind.f64.format _ _ _ q (by rw [inf64']; omega) ?_]
  · rfl
  · rw [lp64, show q = (d - 1) * 4503599627370496 + f by omega, units_normal hf (by omega), show (8 : Nat) = 2 ^ 3 from rfl, Nat.mul_assoc, Nat.mul_assoc, ← Nat.pow_add, ← Nat.pow_add]
    exact congrArg (fun t => (4503599627370496 + f) * 2 ^ t) (by omega)

theorem halve {y : Nat} (h1 : 2 * 4503599627370496 ≤ y) (h2 : y < 2047 * 4503599627370496) : floatBits .quo .f64 y two64 = some (y - 4503599627370496) := halve_of two_read (by omega) h1 h2

/-- y * 2. -/
theorem double_of {y t q : Nat} (ht : FloatKind.f64.decode t = .number false 4503599627370496 (-51)) (hq : q = y + 4503599627370496) (h1 : 4503599627370496 ≤ y) (h2 : y + 4503599627370496 < 2047 * 4503599627370496) : floatBits .mul .f64 y t = some q := by
  obtain ⟨d, f, hy, hf⟩ : ∃ d f, y = d * 4503599627370496 + f ∧ f < 4503599627370496 := ⟨y / 4503599627370496, y % 4503599627370496, by omega, by omega⟩
  have hd : 1 ≤ d := by omega
  have hd2 : d ≤ 2045 := by omega
  show ((FloatKind.f64.decode y).product (FloatKind.f64.decode t)).map FloatKind.f64.format.write = _
  rw [read_normal hy hf (by omega) (by omega), ht]
  unfold Datum.product
  dsimp only
  show some (FloatKind.f64.format.nearest _ _ _) = _
  congr 1
  rw [nearest_exact FloatKind.f64.format _ _ _ q (by rw [inf64']; omega) ?_]
  · rfl
  · rw [lp64, show q = (d + 1) * 4503599627370496 + f by omega, units_normal hf (by omega)]
    conv => lhs; rw [Nat.mul_assoc, show (4503599627370496 : Nat) * 2 ^ (-1074 + ((d - 1 : Nat) : Int) + -51 - -1074).toNat = 2 ^ (52 + (-1074 + ((d - 1 : Nat) : Int) + -51 - -1074).toNat) from by rw [Nat.pow_add]]
    rw [Nat.mul_assoc, ← Nat.pow_add]
    exact congrArg (fun t => (4503599627370496 + f) * 2 ^ t) (by omega)

theorem double {y : Nat} (h1 : 4503599627370496 ≤ y) (h2 : y + 4503599627370496 < 2047 * 4503599627370496) : floatBits .mul .f64 y two64 = some (y + 4503599627370496) := double_of two_read rfl h1 h2

/-- Positive words stand to each other as their numbers do. -/
theorem order_pos {x y : Nat} (hx : x ≤ 2047 * 4503599627370496) (hy : y ≤ 2047 * 4503599627370496) : FloatKind.f64.format.order x y = some (if x < y then .lt else if x = y then .eq else .gt) := by
  have hsw : FloatKind.f64.format.signWeight = 9223372036854775808 := rfl
  have pos : ∀ q, q ≤ 2047 * 4503599627370496 → rg FloatKind.f64.format q = q ∧ Z FloatKind.f64.format q = units FloatKind.f64.format q := by
    intro q hq
    have h1 : sgn FloatKind.f64.format q = false := by
      unfold sgn
      rw [hsw, Nat.div_eq_of_lt (by omega)]; rfl
    have h2 : rg FloatKind.f64.format q = q := by unfold rg; rw [hsw]; exact Nat.mod_eq_of_lt (by omega)
    refine ⟨h2, ?_⟩
    unfold Z
    rw [h1, h2]; rfl
  obtain ⟨a1, a2⟩ := pos x hx
  obtain ⟨b1, b2⟩ := pos y hy
  rw [order_Z .f64 x y (by rw [a1, inf64']; exact hx) (by rw [b1, inf64']; exact hy), a2, b2]
  rcases Nat.lt_trichotomy x y with h | h | h
  · have := units_lt FloatKind.f64.format h
    rw [cmp_lt (by exact_mod_cast this), if_pos h]
  · subst h
    rw [cmp_eq rfl, if_neg (by omega), if_pos rfl]
  · have := units_lt FloatKind.f64.format h
    rw [cmp_gt (by exact_mod_cast this), if_neg (by omega), if_neg (by omega)]

theorem lt_pos {x y : Nat} (hx : x ≤ 2047 * 4503599627370496) (hy : y ≤ 2047 * 4503599627370496) : (FloatKind.f64.format.order x y == some .lt) = decide (x < y) := by
  rw [order_pos hx hy]
  by_cases h : x < y
  · rw [if_pos h, decide_eq_true h]; rfl
  · rw [if_neg h, decide_eq_false h]
    split <;> rfl
theorem ge_pos {x y : Nat} (hx : x ≤ 2047 * 4503599627370496) (hy : y ≤ 2047 * 4503599627370496) : (FloatKind.f64.format.order x y == some .gt || FloatKind.f64.format.order x y == some .eq) = decide (y ≤ x) := by
  rw [order_pos hx hy]
  by_cases h : x < y
  · rw [if_pos h, decide_eq_false (by omega)]; rfl
  · rw [if_neg h, decide_eq_true (by omega)]
    split <;> rfl

/-- The words of 0.75, 1.5. -/
def c075 : Nat := 4604930618986332160
def c15 : Nat := 4609434218613702656

def logE (y : Nat) : Int := ((y : Int) - 4604930618986332160) / 4503599627370496
def logZ (y : Nat) : Nat := ((y : Int) - logE y * 4503599627370496).toNat

theorem log_unique {y z : Nat} {e : Int} (h : (z : Int) = y - e * 4503599627370496) (h1 : 4604930618986332160 ≤ z) (h2 : z < 4609434218613702656) : e = logE y ∧ z = logZ y := by
  have he : e = logE y := by unfold logE; omega
  refine ⟨he, ?_⟩
  unfold logZ
  rw [← he]; omega

/-- The series: 1/1 + u (1/3 + u (1/5 + ..)), from 25 down; j rounds. -/
def logQ (u : Option Nat) : Nat → Option Nat
  | 0 => some 0
  | j + 1 => fop .add .f64 (fop .quo .f64 (some one64) (some (fl (25 - 2 * (j : Int))))) (fop .mul .f64 u (logQ u j))

def logS (z : Option Nat) : Option Nat := fop .quo .f64 (fop .sub .f64 z (some one64)) (fop .add .f64 z (some one64))
/-- 2 s q + e ln 2. -/
def logTail (s : Option Nat) (e : Int) : Option Nat :=
  fop .add .f64 (fop .mul .f64 (some two64) (fop .mul .f64 s (logQ (fop .mul .f64 s s) 13))) (fop .mul .f64 (some (fl e)) (some 4604418534313441775))
/-- The logarithm of a positive number with the word y. -/
def logV (y : Nat) : Option Nat := logTail (logS (some (logZ y))) (logE y)

theorem val_one64 : val .f64 4607182418800017408 = some one64 := by decide +kernel
theorem val_two64 : val .f64 4611686018427387904 = some two64 := by decide +kernel
theorem val_fl_small : ∀ n : Nat, n < 400 → val .f64 (fl ((n : Int) - 200)) = some (fl ((n : Int) - 200)) := by decide +kernel
theorem fl_dec : ∀ n : Nat, n < 200 → floatBits .sub .f64 (fl (-(n : Int))) 4607182418800017408 = some (fl (-(n : Int) - 1)) := by decide +kernel
theorem fl_inc : ∀ n : Nat, n < 200 → floatBits .add .f64 (fl (n : Int)) 4607182418800017408 = some (fl ((n : Int) + 1)) := by decide +kernel
theorem k_val : ∀ j : Nat, j < 14 → val .f64 (fl (25 - 2 * (j : Int))) = some (fl (25 - 2 * (j : Int))) := by decide +kernel
theorem k_ge : ∀ j : Nat, j < 13 → (FloatKind.f64.format.order (fl (25 - 2 * (j : Int))) 4607182418800017408 == some .gt || FloatKind.f64.format.order (fl (25 - 2 * (j : Int))) 4607182418800017408 == some .eq) = true := by decide +kernel
theorem k_end : (FloatKind.f64.format.order (fl (25 - 2 * ((13 : Nat) : Int))) 4607182418800017408 == some .gt || FloatKind.f64.format.order (fl (25 - 2 * ((13 : Nat) : Int))) 4607182418800017408 == some .eq) = false := by decide +kernel
theorem k_step : ∀ j : Nat, j < 13 → floatBits .sub .f64 (fl (25 - 2 * (j : Int))) 4611686018427387904 = some (fl (25 - 2 * ((j + 1 : Nat) : Int))) := by decide +kernel

theorem FIs.eq {k : FloatKind} {r c : Nat} (h : FIs k r (some c)) : r = c := (val_eq_some h.out).1.symm
end Go.Proofs.Ytecncnkbgfjdcaa
set_option linter.unusedVariables false
set_option linter.unusedSimpArgs false
namespace Go.Proofs.Ytecncnkbgfjdcaa
open Go.RowKit near

def bitsOf : Value → Nat | .float _ b => b | _ => 0

/-- A number y that has been halved e times. -/
def Down (y y1 e : Nat) : Prop := y1 + e * 4503599627370496 = y ∧ (e = 0 ∨ 4604930618986332160 ≤ y1)
theorem Down.start (y : Nat) : Down y y 0 := ⟨by omega, .inl rfl⟩
theorem Down.step {y y1 e : Nat} (h : Down y y1 e) (h1 : 4609434218613702656 ≤ y1) : ∃ y2, y2 + 4503599627370496 = y1 ∧ Down y y2 (e + 1) := by
  refine ⟨y1 - 4503599627370496, by omega, ?_, .inr (by omega)⟩
  have := h.1
  rw [Nat.add_mul]
  omega
/-- y over 2^e is y1. -/
def Norm (y y1 : Nat) (e : Int) : Prop := (y1 : Int) = y - e * 4503599627370496
theorem Down.norm {y y1 e : Nat} (h : Down y y1 e) : Norm y y1 e := by have := h.1; unfold Norm; omega
theorem Norm.up {y y1 : Nat} {e : Int} (h : Norm y y1 e) : Norm y (y1 + 4503599627370496) (e - 1) := by
  unfold Norm at *
  rw [Int.sub_mul]; omega
theorem Norm.dn {y y1 y2 : Nat} {e : Int} (h : Norm y y1 e) (h2 : y2 + 4503599627370496 = y1) : Norm y y2 (e + 1) := by
  unfold Norm at *
  rw [Int.add_mul]; omega

/-- What a positive float64 of a middle size is: facts that a walk needs of it. -/
structure Mid (y : Nat) : Prop where
  lo : 870 * 4503599627370496 ≤ y
  hi : y < 1160 * 4503599627370496

theorem order_y {y c : Nat} (hy : y < 1160 * 4503599627370496) (hc : c ≤ 2047 * 4503599627370496) : FloatKind.f64.format.order y c = some (if y < c then .lt else if y = c then .eq else .gt) := order_pos (by omega) hc
theorem Mid.self {y : Nat} (h : Mid y) : (FloatKind.f64.format.order y y != some .eq) = false := by
  rw [order_y h.hi (by have := h.hi; omega), if_neg (by omega), if_pos rfl]; rfl
theorem Mid.lt0 {y : Nat} (h : Mid y) : (FloatKind.f64.format.order y 0 == some .lt) = false := by
  rw [order_y h.hi (by omega), if_neg (by omega)]; split <;> rfl
theorem Mid.eq0 {y : Nat} (h : Mid y) : (FloatKind.f64.format.order y 0 == some .eq) = false := by
  have := h.lo
  rw [order_y h.hi (by omega), if_neg (by omega), if_neg (by omega)]; rfl
theorem Mid.max {y : Nat} (h : Mid y) : (FloatKind.f64.format.order y 9218868437227405311 == some .gt) = false := by
  have := h.hi
  rw [order_y h.hi (by omega), if_pos (by omega)]; rfl
theorem Mid.val {y : Nat} (h : Mid y) : val .f64 y = some y := by
  refine val_some ?_
  have := h.hi
  rw [decode_isNaN, decide_eq_false_iff_not, sw64, inf64]
  omega

theorem logS_of {z a b s : Nat} (hz : val .f64 z = some z) (ha : FIs .f64 a (fop .sub .f64 (val .f64 z) (val .f64 4607182418800017408))) (hb : FIs .f64 b (fop .add .f64 (val .f64 z) (val .f64 4607182418800017408)))
    (hs : FIs .f64 s (fop .quo .f64 (val .f64 a) (val .f64 b))) : FIs .f64 s (logS (some z)) := by
  rw [ha.out, hb.out, hz, val_one64] at hs; exact hs

theorem logQ_step {u q a b c : Nat} {U : Option Nat} {j : Nat} (hj : j < 13) (hu : val .f64 u = U) (hq : FIs .f64 q (logQ U j))
    (ha : FIs .f64 a (fop .quo .f64 (val .f64 4607182418800017408) (val .f64 (fl (25 - 2 * (j : Int)))))) (hb : FIs .f64 b (fop .mul .f64 (val .f64 u) (val .f64 q)))
    (hc : FIs .f64 c (fop .add .f64 (val .f64 a) (val .f64 b))) : FIs .f64 c (logQ U (j + 1)) := by
  rw [ha.out, hb.out, hu, hq.out, val_one64, k_val j (by omega)] at hc
  exact hc

theorem logTail_of {s q a b c d : Nat} {S : Option Nat} {e : Int} (he : -200 ≤ e) (he2 : e < 200) (hs : val .f64 s = S) (hq : FIs .f64 q (logQ (fop .mul .f64 S S) 13))
    (ha : FIs .f64 a (fop .mul .f64 (val .f64 s) (val .f64 q))) (hb : FIs .f64 b (fop .mul .f64 (val .f64 4611686018427387904) (val .f64 a)))
    (hc : FIs .f64 c (fop .mul .f64 (val .f64 (fl e)) (val .f64 4604418534313441775))) (hd : FIs .f64 d (fop .add .f64 (val .f64 b) (val .f64 c))) : FIs .f64 d (logTail S e) := by
  have h1 : val .f64 (fl e) = some (fl e) := by
    have := val_fl_small (e + 200).toNat (by omega)
    rw [show (((e + 200).toNat : Nat) : Int) - 200 = e by omega] at this
    exact this
  have h2 : val .f64 4604418534313441775 = some 4604418534313441775 := by decide +kernel
  rw [hb.out, hc.out, ha.out, hs, hq.out, val_two64, h1, h2] at hd
  exact hd

theorem isInf_no (y : Nat) (h : (FloatKind.f64.format.order y 9218868437227405311 == some .gt) = false) (w : World) : Calls Try.prog 70 #[.float .f64 y, .int .i64 1] w fun e w' => e = .returned (.bool false) ∧ w = w' := by
  go_enter Try.func70, Try.ntmps70
  go_wp2_with fail
  go_ret
  exact ⟨rfl, rfl⟩
end Go.Proofs.Ytecncnkbgfjdcaa
set_option linter.unusedVariables false
set_option linter.unusedSimpArgs false
namespace Go.Proofs.Ytecncnkbgfjdcaa
open Go.RowKit near

theorem fl_zero : fl 0 = 0 := by decide +kernel
theorem dec_run (P : Program) (e : Nat) (h : e < 200) (W : World) : (binOp .sub 39 (.float .f64 (fl (-(e : Int)))) (.float .f64 4607182418800017408)).run P W = .ok (.float .f64 (fl (-((e + 1 : Nat) : Int)))) W := by
  have := run_float_arith (P := P) W .sub 39 .f64 _ _ _ (fl_dec e h)
  rw [show -(e : Int) - 1 = -((e + 1 : Nat) : Int) by omega] at this
  exact this
theorem inc_run (P : Program) (k : Int) (h0 : 0 ≤ k) (h : k < 200) (W : World) : (binOp .add 39 (.float .f64 (fl k)) (.float .f64 4607182418800017408)).run P W = .ok (.float .f64 (fl (k + 1))) W := by
  obtain ⟨n, rfl⟩ := Int.eq_ofNat_of_zero_le h0
  exact run_float_arith (P := P) W .add 39 .f64 _ _ _ (fl_inc n (by omega))
theorem kstep_run (P : Program) (j : Nat) (h : j < 13) (W : World) : (binOp .sub 39 (.float .f64 (fl (25 - 2 * (j : Int)))) (.float .f64 4611686018427387904)).run P W = .ok (.float .f64 (fl (25 - 2 * ((j + 1 : Nat) : Int)))) W :=
  run_float_arith (P := P) W .sub 39 .f64 _ _ _ (k_step j h)

/-- y doubled e times. -/
def Upw (y y1 e : Nat) : Prop := y1 = y + e * 4503599627370496 ∧ (e = 0 ∨ y1 < 4609434218613702656)
theorem Upw.step {y y1 e : Nat} (h : Upw y y1 e) (h1 : y1 < 4604930618986332160) : ∃ y2, y2 = y1 + 4503599627370496 ∧ Upw y y2 (e + 1) := by
  refine ⟨_, rfl, ?_, .inr (by omega)⟩
  have := h.1
  rw [Nat.add_mul]
  omega

/-- Which round the counter 25, 23, .. tells. -/
def j_of (v : Value) : Nat := ((List.range 14).find? fun (j : Nat) => bitsOf v == fl (25 - 2 * ((j : Nat) : Int))).getD 13
theorem j_of_all : ∀ j : Nat, j < 14 → j_of (.float .f64 (fl (25 - 2 * (j : Int)))) = j := by decide +kernel
theorem j_lt (j : Nat) (h : j < 13) : 13 - j_of (.float .f64 (fl (25 - 2 * ((j + 1 : Nat) : Int)))) < 13 - j_of (.float .f64 (fl (25 - 2 * (j : Int)))) := by
  rw [j_of_all _ (by omega), j_of_all _ (by omega)]; omega

set_option maxHeartbeats 2000000 in
theorem implLog_pos (y : Nat) (hm : Mid y) (w : World) : Calls Try.prog 41 #[.float .f64 y] w fun e w' => RetF .f64 (logV y) w e w' := by
  have HM := Lib.hid hm
  clear hm
  go_enter Try.func41, Try.ntmps41
  go_wp2_with fail
  go_loop [0, 3] (fun v i => ∃ y1 e : Nat, v = .float .f64 y1 ∧ i = .float .f64 (fl (-(e : Int))) ∧ e < 200 ∧ Upw y y1 e) (fun v _ => 4609434218613702656 - bitsOf v)
  case atStart => exact ⟨y, 0, rfl, by rw [show -((0 : Nat) : Int) = 0 from rfl, fl_zero], by omega, ⟨by omega, .inl rfl⟩⟩
  case round =>
    obtain ⟨y1, e, rfl, rfl, he, hup⟩ := hrel
    have HD := Lib.hid hup
    have Hy := Lib.hid (show y1 < 1160 * 4503599627370496 by
      have := HM.out.hi
      rcases hup.2 with h0 | h0
      · have := hup.1; subst h0; omega
      · omega)
    have Hlo := Lib.hid (show 870 * 4503599627370496 ≤ y1 by have := HM.out.lo; have := hup.1; omega)
    clear hup
    by_cases h075 : y1 < 4604930618986332160
    · have ht : (FloatKind.f64.format.order y1 4604930618986332160 == some .lt) = true := by
        rw [lt_pos (by omega) (by omega), decide_eq_true h075]
      obtain ⟨y2, hy2, hd2⟩ := HD.out.step h075
      have HE := Lib.hid (show e + 1 < 200 by have := hd2.1; have := HM.out.lo; omega)
      have hq := run_float_arith (P := Try.prog) (op := .mul) (t := 39) (k := .f64) (h := double_of (t := 4611686018427387904) two_read hy2 (by have := Hlo.out; omega) (by omega))
      have hdec := dec_run Try.prog e he
      have H2 := Lib.hid hd2
      have Hlt := Lib.hid (show 4609434218613702656 - y2 < 4609434218613702656 - y1 by omega)
      clear h075 hy2 hd2
      go_wp2_with fail
      go_round
      case rel => exact ⟨y2, e + 1, rfl, rfl, HE.out, H2.out⟩
      case measure => exact Hlt.out
    · have ht : (FloatKind.f64.format.order y1 4604930618986332160 == some .lt) = false := by
        have := Hy.out
        rw [lt_pos (by omega) (by omega), decide_eq_false h075]
      have HN := Lib.hid (show Norm y y1 (-(e : Int)) ∧ 4604930618986332160 ≤ y1 ∧ y1 < 1160 * 4503599627370496 ∧ (4609434218613702656 ≤ y1 → (0 : Int) ≤ -(e : Int)) by
        refine ⟨?_, by omega, Hy.out, fun h => ?_⟩
        · have := HD.out.1; unfold Norm; rw [Int.neg_mul]; omega
        · rcases HD.out.2 with h0 | h0
          · omega
          · omega)
      have He := Lib.hid he
      clear h075 he
      go_wp2_with fail
      clear ht
      go_loop [0, 3] (fun v i => ∃ (y3 : Nat) (k : Int), v = .float .f64 y3 ∧ i = .float .f64 (fl k) ∧ Hid (Norm y y3 k ∧ 4604930618986332160 ≤ y3 ∧ y3 < 1160 * 4503599627370496 ∧ (4609434218613702656 ≤ y3 → 0 ≤ k))) (fun v _ => bitsOf v)
      case atStart => exact ⟨y1, _, rfl, rfl, HN⟩
      case round =>
        obtain ⟨y3, k, rfl, rfl, hb⟩ := hrel
        by_cases h15 : 4609434218613702656 ≤ y3
        · have ht : (FloatKind.f64.format.order y3 4609434218613702656 == some .gt || FloatKind.f64.format.order y3 4609434218613702656 == some .eq) = true := by
            have := hb.out.2.2.1
            rw [ge_pos (by omega) (by omega), decide_eq_true h15]
          obtain ⟨y4, hy4⟩ : ∃ y4, y4 + 4503599627370496 = y3 := ⟨y3 - 4503599627370496, by omega⟩
          have hk : 0 ≤ k ∧ k < 199 := by
            refine ⟨hb.out.2.2.2 h15, ?_⟩
            have h1 := hb.out.1
            have h2 := HM.out.hi
            unfold Norm at h1
            omega
          have hq := run_float_arith (P := Try.prog) (op := .quo) (t := 39) (k := .f64) (h := halve_of (t := 4611686018427387904) two_read hy4 (by omega) (by have := hb.out.2.2.1; omega))
          have hinc := inc_run Try.prog k hk.1 (by omega)
          have H4 := Lib.hid (show Norm y y4 (k + 1) ∧ 4604930618986332160 ≤ y4 ∧ y4 < 1160 * 4503599627370496 ∧ (4609434218613702656 ≤ y4 → 0 ≤ k + 1) by
            have h1 := hb.out.1.dn hy4
            have h2 := hb.out.2.2.1
            exact ⟨h1, by omega, by omega, fun _ => by omega⟩)
          have Hlt := Lib.hid (show y4 < y3 by omega)
          clear h15 hy4 hk
          go_wp2_with fail
          go_round
          case rel => exact ⟨y4, k + 1, rfl, rfl, H4⟩
          case measure => exact Hlt.out
        · have ht : (FloatKind.f64.format.order y3 4609434218613702656 == some .gt || FloatKind.f64.format.order y3 4609434218613702656 == some .eq) = false := by
            have := hb.out.2.2.1
            rw [ge_pos (by omega) (by omega), decide_eq_false h15]
          have HU := Lib.hid (log_unique hb.out.1 hb.out.2.1 (by omega))
          have HV := Lib.hid (show val .f64 y3 = some y3 by
            refine val_some ?_
            rw [decode_isNaN, decide_eq_false_iff_not, sw64, inf64]
            omega)
          have HE := Lib.hid (show -200 ≤ k ∧ k < 200 by
            have h1 := hb.out.1
            have h2 := hb.out.2.1
            have h3 := HM.out.hi
            have h4 := HM.out.lo
            unfold Norm at h1
            omega)
          have hk0 : fl (25 - 2 * ((0 : Nat) : Int)) = 4627730092099895296 := by decide +kernel
          have HK0 := Lib.hid hk0
          clear h15 hb hk0
          have t1 : True := trivial; have t2 : True := trivial; have t3 : True := trivial; have t4 : True := trivial
          go_wp2_with (first | (have _t := t1; refine wpList_fop rfl _ _ _ _ _ rfl rfl _ _ _ rfl rfl ?_; intro r1 n1 h1; clear t1) | (have _t := t2; refine wpList_fop rfl _ _ _ _ _ rfl rfl _ _ _ rfl rfl ?_; intro r2 n2 h2; clear t2) | (have _t := t3; refine wpList_fop rfl _ _ _ _ _ rfl rfl _ _ _ rfl rfl ?_; intro r3 n3 h3; clear t3) | (have _t := t4; refine wpList_fop rfl _ _ _ _ _ rfl rfl _ _ _ rfl rfl ?_; intro r4 n4 h4; clear t4))
          clear ht
          have HS := Lib.hid (logS_of HV.out h1 h2 h3)
          have HU2 : Hid (val .f64 r4 = fop .mul .f64 (logS (some y3)) (logS (some y3))) := by
            have := h4.out
            rw [HS.out.out] at this
            exact Lib.hid this
          clear h1 h2 h3 h4
          generalize hU : fop .mul .f64 (logS (some y3)) (logS (some y3)) = U at HU2
          have HUe := Lib.hid hU
          clear hU
          go_loopw [6, 7] (fun v i wr => ∃ (q j m : Nat), v = .float .f64 q ∧ i = .float .f64 (fl (25 - 2 * (j : Int))) ∧ j ≤ 13 ∧ FIs .f64 q (logQ U j) ∧ wr = w.drewN m) (fun _ i _ => 13 - j_of i)
          case atStart => exact ⟨0, 0, _, rfl, by rw [HK0.out], by omega, FIs.mk val_zero64 (by decide), rfl⟩
          case round =>
            obtain ⟨q, j, m, rfl, rfl, hj, hq, rfl⟩ := hrel
            by_cases hj13 : j < 13
            · have hge := k_ge j hj13
              have hks := kstep_run Try.prog j hj13
              have Hj := Lib.hid (j_lt j hj13)
              have t1 : True := trivial; have t2 : True := trivial; have t3 : True := trivial
              go_wp2_with (first | (have _t := t1; refine wpList_fop rfl _ _ _ _ _ rfl rfl _ _ _ rfl rfl ?_; intro r1 n1 h1; clear t1) | (have _t := t2; refine wpList_fop rfl _ _ _ _ _ rfl rfl _ _ _ rfl rfl ?_; intro r2 n2 h2; clear t2) | (have _t := t3; refine wpList_fop rfl _ _ _ _ _ rfl rfl _ _ _ rfl rfl ?_; intro r3 n3 h3; clear t3))
              have hstep := Lib.hid (logQ_step hj13 HU2.out hq h1 h2 h3)
              go_roundw
              case rel => exact ⟨_, j + 1, _, rfl, rfl, by omega, hstep.out, rfl⟩
              case measure => exact Hj.out
            · obtain rfl : j = 13 := by omega
              have hge := k_end
              have t1 : True := trivial; have t2 : True := trivial; have t3 : True := trivial; have t4 : True := trivial
              go_wp2_with (first | (have _t := t1; refine wpList_fop rfl _ _ _ _ _ rfl rfl _ _ _ rfl rfl ?_; intro r1 n1 h1; clear t1) | (have _t := t2; refine wpList_fop rfl _ _ _ _ _ rfl rfl _ _ _ rfl rfl ?_; intro r2 n2 h2; clear t2) | (have _t := t3; refine wpList_fop rfl _ _ _ _ _ rfl rfl _ _ _ rfl rfl ?_; intro r3 n3 h3; clear t3) | (have _t := t4; refine wpList_fop rfl _ _ _ _ _ rfl rfl _ _ _ rfl rfl ?_; intro r4 n4 h4; clear t4))
              go_ret
              have hq' := hq
              rw [← HUe.out] at hq'
              refine ⟨_, _, rfl, ?_, rfl⟩
              obtain ⟨ek, ez⟩ := HU.out
              have := logTail_of HE.out.1 HE.out.2 HS.out.out hq' h1 h2 h3 h4
              unfold logV
              rw [← ek, ← ez]
              exact this
end Go.Proofs.Ytecncnkbgfjdcaa
set_option linter.unusedVariables false
set_option linter.unusedSimpArgs false
namespace Go.Proofs.Ytecncnkbgfjdcaa
open Go.RowKit near

theorem Z_zero (k : FloatKind) : Z k.format 0 = 0 := by
  refine (Z_zero_iff k 0).2 ?_
  cases k <;> rfl

theorem units_pos {k : FloatKind} {q : Nat} (h : 0 < q) : 0 < units k.format q := by
  have := units_lt k.format h
  omega

/-- How a number stands to nought. -/
theorem order_zero (k : FloatKind) {x : Nat} (hn : (k.decode x).isNaN = false) : k.format.order x 0 = some (if rg k.format x = 0 then .eq else if sgn k.format x then .lt else .gt) := by
  rw [order_Z k x 0 (not_nan_rg hn) (by cases k <;> decide), Z_zero]
  by_cases h0 : rg k.format x = 0
  · rw [if_pos h0, cmp_eq ((Z_zero_iff k x).2 h0)]
  · rw [if_neg h0]
    have hp := units_pos (k := k) (Nat.pos_of_ne_zero h0)
    unfold Z
    cases sgn k.format x
    · rw [if_neg (by decide), if_neg (by decide), cmp_gt (by omega)]
    · rw [if_pos rfl, if_pos rfl, cmp_lt (by omega)]

theorem order_eq_zero (k : FloatKind) {x : Nat} (hn : (k.decode x).isNaN = false) : (k.format.order x 0 == some .eq) = decide (rg k.format x = 0) := by
  rw [order_zero k hn]
  by_cases h0 : rg k.format x = 0
  · rw [if_pos h0, decide_eq_true h0]; rfl
  · rw [if_neg h0, decide_eq_false h0]; cases sgn k.format x <;> rfl
theorem order_lt_zero (k : FloatKind) {x : Nat} (hn : (k.decode x).isNaN = false) : (k.format.order x 0 == some .lt) = (decide (rg k.format x ≠ 0) && sgn k.format x) := by
  rw [order_zero k hn]
  by_cases h0 : rg k.format x = 0
  · rw [if_pos h0, decide_eq_false (by simpa using h0)]; rfl
  · rw [if_neg h0, decide_eq_true h0]; cases sgn k.format x <;> rfl
theorem order_gt_zero (k : FloatKind) {x : Nat} (hn : (k.decode x).isNaN = false) : (k.format.order x 0 == some .gt) = (decide (rg k.format x ≠ 0) && !sgn k.format x) := by
  rw [order_zero k hn]
  by_cases h0 : rg k.format x = 0
  · rw [if_pos h0, decide_eq_false (by simpa using h0)]; rfl
  · rw [if_neg h0, decide_eq_true h0]; cases sgn k.format x <;> rfl
theorem order_nan_zero (k : FloatKind) {x : Nat} (hn : (k.decode x).isNaN = true) (y : Nat) : k.format.order x y = none := order_nan_l (a := k.format.read x) (b := k.format.read y) hn
theorem self_num (k : FloatKind) {x : Nat} (hn : (k.decode x).isNaN = false) : (k.format.order x x != some .eq) = false := by
  rw [ne_self, val_some hn]; rfl
theorem self_nan (k : FloatKind) {x : Nat} (hn : (k.decode x).isNaN = true) : (k.format.order x x != some .eq) = true := by
  rw [ne_self, val_none hn]; rfl

theorem wide_number' {b : Nat} (hb : rg FloatKind.f32.format b < 2139095040) :
    ∃ q P, FloatKind.f64.encode (FloatKind.f32.decode b) = FloatKind.f64.format.word (sgn FloatKind.f32.format b) q ∧ q < 5183643171103440896 ∧ 0 < P ∧ units FloatKind.f64.format q = units FloatKind.f32.format (rg FloatKind.f32.format b) * P := by
  obtain ⟨q, h1, h2, h3⟩ := wide_number hb
  exact ⟨q, _, h1, h2, Nat.two_pow_pos 925, h3⟩
theorem mid_lo (N : Nat) (hN : N = 925) {u uq : Nat} (hu : uq = u * 2 ^ N) (h : 0 < u) : 4503599627370496 * 2 ^ 873 ≤ uq := by
  have h2 := pow_scale3 873 N 4503599627370496 1 4503599627370496 52 (by omega) (by decide) (by omega)
  rw [h2, hu]
  exact Nat.mul_le_mul_right _ h
/-- A float32 and the float64 that it is widened to, by kinds. -/
structure WideOf (x r : Nat) : Prop where
  num : (FloatKind.f64.decode r).isNaN = false
  word : r = FloatKind.f64.encode (FloatKind.f32.decode x)
  sign : sgn FloatKind.f64.format r = sgn FloatKind.f32.format x
  zero : rg FloatKind.f64.format r = 0 ↔ rg FloatKind.f32.format x = 0
  inf : rg FloatKind.f64.format r = 9218868437227405312 ↔ rg FloatKind.f32.format x = 2139095040

theorem wide_of {x r : Nat} (hn : (FloatKind.f32.decode x).isNaN = false) (hr : FIs .f64 r (fwide (val .f32 x))) : WideOf x r := by
  have hle := not_nan_rg hn
  rw [inf32] at hle
  have hw : r = FloatKind.f64.encode (FloatKind.f32.decode x) := by
    have := hr.out
    rw [val_some hn] at this
    exact (val_eq_some this).1.symm
  have hnum : (FloatKind.f64.decode r).isNaN = false := by
    have := hr.out
    rw [val_some hn] at this
    exact (val_eq_some this).2
  refine ⟨hnum, hw, sgn_wide hn hr, ?_, ?_⟩
  · by_cases hi : rg FloatKind.f32.format x = 2139095040
    · rw [hw, wide_inf hi, rg_word .f64 _ _ (by rw [sw64]; omega), hi]; omega
    · obtain ⟨q, P, hq, hql, hP, hu⟩ := wide_number' (b := x) (by omega)
      rw [hw, hq, rg_word .f64 _ _ (by rw [sw64]; omega)]
      have z64 := units_zero FloatKind.f64.format
      have z32 := units_zero FloatKind.f32.format
      constructor
      · intro h
        subst h
        rw [z64] at hu
        have h2 : units FloatKind.f32.format (rg FloatKind.f32.format x) = 0 := by
          rcases Nat.eq_zero_or_pos (units FloatKind.f32.format (rg FloatKind.f32.format x)) with h | h
          · exact h
          · exact absurd hu (Nat.ne_of_lt (Nat.mul_pos h hP))
        exact units_inj _ (h2.trans z32.symm)
      · intro h
        rw [h, z32] at hu
        exact units_inj _ ((hu.trans (Nat.zero_mul P)).trans z64.symm)
  · by_cases hi : rg FloatKind.f32.format x = 2139095040
    · rw [hw, wide_inf hi, rg_word .f64 _ _ (by rw [sw64]; omega)]; simp [hi]
    · obtain ⟨q, hq, hql, hu⟩ := wide_number (b := x) (by omega)
      rw [hw, hq, rg_word .f64 _ _ (by rw [sw64]; omega)]; omega

/-- A finite number but nought, widened: its exponent is a middle one. -/
theorem wide_mid {x r : Nat} (hn : (FloatKind.f32.decode x).isNaN = false) (h : WideOf x r) (h0 : rg FloatKind.f32.format x ≠ 0) (hi : rg FloatKind.f32.format x ≠ 2139095040) :
    874 * 4503599627370496 ≤ rg FloatKind.f64.format r ∧ rg FloatKind.f64.format r < 1151 * 4503599627370496 := by
  have hle := not_nan_rg hn
  rw [inf32] at hle
  obtain ⟨q, hq, hql, hu⟩ := wide_number (b := x) (by omega)
  rw [h.word, hq, rg_word .f64 _ _ (by rw [sw64]; omega)]
  refine ⟨?_, by omega⟩
  refine le_of_units FloatKind.f64.format ?_
  have h1 := units_word (q := 874 * 4503599627370496) (d := 874) (f := 0) (M := 4503599627370496) (L := 873) (by omega) (by omega) (by omega) (by omega) (by omega)
  exact Nat.le_trans (Nat.le_of_eq h1) (mid_lo 925 rfl hu (units_pos (k := .f32) (Nat.pos_of_ne_zero h0)))

theorem val_nan64 : val .f64 9221120237041090561 = none := by decide +kernel
theorem nan_any (w : World) : Calls Try.prog 33 #[] w fun e w' => e = .returned (.float .f64 9221120237041090561) ∧ w = w' := by
  go_enter Try.func33, Try.ntmps33
  go_wp2_with fail
  go_ret
  exact ⟨rfl, rfl⟩
end Go.Proofs.Ytecncnkbgfjdcaa
set_option linter.unusedVariables false
set_option linter.unusedSimpArgs false
namespace Go.Proofs.Ytecncnkbgfjdcaa
open Ieee near

theorem sum_Z (x y : Nat) (neg : Bool) (hx : rg FloatKind.f64.format x < FloatKind.f64.format.infRung) (hy : rg FloatKind.f64.format y < FloatKind.f64.format.infRung) :
    ∃ s m e, (FloatKind.f64.decode x).sum (if neg then (FloatKind.f64.decode y).opposite else FloatKind.f64.decode y) = some (.number s m e) ∧ -1074 ≤ e ∧
      m * 2 ^ (e + 1074).toNat = (Z FloatKind.f64.format x + (if neg then -Z FloatKind.f64.format y else Z FloatKind.f64.format y)).natAbs := by
  rcases read_cases .f64 x with ⟨h1, m, i, e1, hi, hm, _⟩ | ⟨h1, _⟩ | ⟨h1, _⟩
  · rcases read_cases .f64 y with ⟨h2, n, j, e2, hj, hn, _⟩ | ⟨h2, _⟩ | ⟨h2, _⟩
    · rw [lp64] at hi hj hm hn
      have key : ∀ (s t : Bool), (signed s m (i - min i j).toNat + signed t n (j - min i j).toNat).natAbs * 2 ^ (min i j + 1074).toNat =
          ((if s then -(units FloatKind.f64.format (rg FloatKind.f64.format x) : Int) else (units FloatKind.f64.format (rg FloatKind.f64.format x) : Int)) + (if t then -(units FloatKind.f64.format (rg FloatKind.f64.format y) : Int) else (units FloatKind.f64.format (rg FloatKind.f64.format y) : Int))).natAbs := by
        intro s t
        rw [← hm, ← hn, show (i - -1074).toNat = (i - min i j).toNat + (min i j + 1074).toNat by omega, show (j - -1074).toNat = (j - min i j).toNat + (min i j + 1074).toNat by omega, Nat.pow_add, Nat.pow_add, ← Nat.mul_assoc, ← Nat.mul_assoc]
        unfold signed
        rw [Nat.shiftLeft_eq, Nat.shiftLeft_eq]
        generalize m * 2 ^ (i - min i j).toNat = a
        generalize n * 2 ^ (j - min i j).toNat = b
        generalize 2 ^ (min i j + 1074).toNat = P
        rw [show ((if s then -(a : Int) else (a : Int)) + (if t then -(b : Int) else (b : Int))).natAbs * P = (((if s then -(a : Int) else (a : Int)) + (if t then -(b : Int) else (b : Int))) * (P : Int)).natAbs from by rw [Int.natAbs_mul, Int.natAbs_natCast]]
        rw [Int.add_mul]
        congr 2
        · cases s <;> simp [Int.neg_mul]
        · cases t <;> simp [Int.neg_mul]
      rw [e1, e2]
      cases neg with
      | false =>
        refine ⟨_, _, _, rfl, by omega, ?_⟩
        rw [key]; rfl
      | true =>
        refine ⟨_, _, _, rfl, by omega, ?_⟩
        rw [key]
        unfold Z
        cases sgn FloatKind.f64.format y <;> simp
    · omega
    · omega
  · omega
  · omega

theorem UB.sub_Z {x y G : Nat} (hx : rg FloatKind.f64.format x < FloatKind.f64.format.infRung) (hy : rg FloatKind.f64.format y < FloatKind.f64.format.infRung) (hG : G ≤ 2098)
    (h : (Z FloatKind.f64.format x - Z FloatKind.f64.format y).natAbs ≤ 2 ^ G) : UB (fop .sub .f64 (some x) (some y)) G := by
  obtain ⟨s, m, e, h1, h2, h3⟩ := sum_Z x y true hx hy
  intro r hr
  have h4 : ((FloatKind.f64.decode x).sum (FloatKind.f64.decode y).opposite).map FloatKind.f64.format.write = some r := hr
  rw [show (FloatKind.f64.decode x).sum (FloatKind.f64.decode y).opposite = _ from h1] at h4
  refine nearest_ub s m e G hG ?_ r h4
  rw [show (-1074 - e).toNat = 0 by omega, Nat.pow_zero, Nat.mul_one, h3]
  rw [if_pos rfl, ← Int.sub_eq_add_neg]; exact h

/-- A sum that is at least the number with the word q is rounded to at least that. -/
theorem LB.add_Z {x y q r : Nat} (hx : rg FloatKind.f64.format x < FloatKind.f64.format.infRung) (hy : rg FloatKind.f64.format y < FloatKind.f64.format.infRung) (hq : q ≤ FloatKind.f64.format.infRung)
    (h : units FloatKind.f64.format q ≤ (Z FloatKind.f64.format x + Z FloatKind.f64.format y).natAbs) (hr : floatBits .add .f64 x y = some r) : q ≤ rg FloatKind.f64.format r := by
  obtain ⟨s, m, e, h1, h2, h3⟩ := sum_Z x y false hx hy
  have h4 : ((FloatKind.f64.decode x).sum (FloatKind.f64.decode y)).map FloatKind.f64.format.write = some r := hr
  rw [show (FloatKind.f64.decode x).sum (FloatKind.f64.decode y) = _ from h1] at h4
  obtain rfl := Option.some.inj h4
  show q ≤ rg _ (FloatKind.f64.format.nearest s m e)
  rw [nearest_eq, rg_word .f64 _ _ (by have h5 := FloatKind.f64.format.infRung_lt; have := Nat.min_le_right (rawRung FloatKind.f64.format m e) FloatKind.f64.format.infRung; omega)]
  refine Nat.le_min.2 ⟨le_raw FloatKind.f64.format m e q ?_, hq⟩
  rw [lp64, show (-1074 - e).toNat = 0 by omega, Nat.pow_zero, Nat.mul_one, show e - -1074 = e + 1074 by omega, h3]
  exact h

theorem units_words (N : Nat) (hN : N = 1072) : units FloatKind.f64.format 4604930618986332160 = 3 * 2 ^ N ∧ units FloatKind.f64.format 4607182418800017408 = 4 * 2 ^ N ∧ units FloatKind.f64.format 4609434218613702656 = 6 * 2 ^ N := by
  have h1 := units_word (q := 4604930618986332160) (d := 1022) (f := 2251799813685248) (M := 6755399441055744) (L := 1021) (by omega) (by omega) (by omega) (by omega) (by omega)
  have h2 := units_word (q := 4607182418800017408) (d := 1023) (f := 0) (M := 4503599627370496) (L := 1022) (by omega) (by omega) (by omega) (by omega) (by omega)
  have h3 := units_word (q := 4609434218613702656) (d := 1023) (f := 2251799813685248) (M := 6755399441055744) (L := 1022) (by omega) (by omega) (by omega) (by omega) (by omega)
  have g1 := pow_scale3 1021 N 6755399441055744 3 2251799813685248 51 (by decide) (by decide) (by omega)
  have g2 := pow_scale3 1022 N 4503599627370496 4 1125899906842624 50 (by decide) (by decide) (by omega)
  have g3 := pow_scale3 1022 N 6755399441055744 6 1125899906842624 50 (by decide) (by decide) (by omega)
  exact ⟨h1.trans g1, h2.trans g2, h3.trans g3⟩

/-- The words between 0.75 and 1.5: (z - 1) / (z + 1) is at most 1. -/
theorem logS_ub {z : Nat} (h1 : 4604930618986332160 ≤ z) (h2 : z < 4609434218613702656) : UB (logS (some z)) 1074 := by
  suffices H : ∀ N : Nat, N = 1072 → UB (logS (some z)) (N + 1 + 1) from H 1072 rfl
  intro N hN
  obtain ⟨u1, u2, u3⟩ := units_words N hN
  have hsw : FloatKind.f64.format.signWeight = 9223372036854775808 := rfl
  have pos : ∀ q, q < 9223372036854775808 → rg FloatKind.f64.format q = q ∧ Z FloatKind.f64.format q = units FloatKind.f64.format q := by
    intro q hq
    have h1 : sgn FloatKind.f64.format q = false := by
      unfold sgn
      rw [hsw, Nat.div_eq_of_lt hq]; rfl
    have h2 : rg FloatKind.f64.format q = q := by unfold rg; rw [hsw]; exact Nat.mod_eq_of_lt hq
    refine ⟨h2, ?_⟩
    unfold Z
    rw [h1, h2]; rfl
  obtain ⟨a1, a2⟩ := pos z (by omega)
  obtain ⟨b1, b2⟩ := pos 4607182418800017408 (by omega)
  have hlo := units_le FloatKind.f64.format h1
  have hhi := units_le FloatKind.f64.format (Nat.le_of_lt h2)
  rw [u1] at hlo
  rw [u3] at hhi
  have hP : 2 ^ (N + 1) = 2 * 2 ^ N := by rw [Nat.pow_succ, Nat.mul_comm]
  have hfin1 : rg FloatKind.f64.format z < FloatKind.f64.format.infRung := by rw [a1, inf64]; omega
  have hfin2 : rg FloatKind.f64.format 4607182418800017408 < FloatKind.f64.format.infRung := by rw [b1, inf64]; omega
  have hsub : UB (fop .sub .f64 (some z) (some one64)) (N + 1) := by
    refine UB.sub_Z hfin1 hfin2 (by omega) ?_
    rw [a2, show one64 = 4607182418800017408 from rfl, b2, u2, hP]
    generalize 2 ^ N = P at *
    generalize units FloatKind.f64.format z = u at *
    omega
  intro s hs
  obtain ⟨x, y, hx, hy, hq⟩ := fop_some hs
  have hy' : floatBits .add .f64 z 4607182418800017408 = some y := hy
  have hge : 4607182418800017408 ≤ rg FloatKind.f64.format y := by
    refine LB.add_Z hfin1 hfin2 (by rw [inf64]; omega) ?_ hy'
    rw [a2, b2, u2]
    generalize 2 ^ N = P at *
    generalize units FloatKind.f64.format z = u at *
    omega
  have hyfin : rg FloatKind.f64.format y < FloatKind.f64.format.infRung := by
    have hub : UB (fop .add .f64 (some z) (some 4607182418800017408)) (N + 10) := by
      refine UB.add (E := N + 3) (F := N + 3) ?_ ?_ (by omega) (by omega) (by omega) (by omega)
      · intro b hb
        obtain rfl := Option.some.inj hb
        rw [a1]
        refine Nat.le_trans hhi ?_
        rw [Nat.pow_add]; omega
      · intro b hb
        obtain rfl := Option.some.inj hb
        rw [b1, u2, Nat.pow_add]; omega
    obtain ⟨m, e, e1, _, _⟩ := UB.read (b := y) (fun b hb => hub b (hy.trans (by rw [← hb]))) (by omega) (floatBits_not_nan hy')
    rcases read_cases .f64 y with ⟨h, _⟩ | ⟨_, e2⟩ | ⟨_, e2⟩
    · exact h
    · rw [e1] at e2; cases e2
    · rw [e1] at e2; cases e2
  refine UB.div_of (G := N + 1) (E := N + 1) (by omega) ?_ (by omega) hyfin (by omega) ?_ hq s rfl
  · intro b hb
    exact hsub b (hx.trans hb)
  · have h5 := units_le FloatKind.f64.format hge
    rw [u2] at h5
    have h6 := hsub x hx
    refine Nat.le_trans (Nat.mul_le_mul_right _ h6) ?_
    refine Nat.le_trans ?_ (Nat.mul_le_mul_right _ h5)
    rw [show 4 * 2 ^ N = 2 ^ (N + 2) by rw [Nat.pow_add]; omega, ← Nat.pow_add 2 (N + 1) 1074, ← Nat.pow_add 2 (N + 2) (N + 1)]
    exact two_pow_le (by omega)

/-- A value's bound, asked by evaluation. -/
def ubB (v : Option Nat) (E : Nat) : Bool := match v with | none => true | some b => decide (units FloatKind.f64.format (rg FloatKind.f64.format b) ≤ 2 ^ E)
theorem ub_of_B {v : Option Nat} {E : Nat} (h : ubB v E = true) : UB v E := by
  intro b hb
  subst hb
  exact of_decide_eq_true h

theorem ub_inv : ∀ j : Nat, j < 13 → ubB (fop .quo .f64 (some one64) (some (fl (25 - 2 * (j : Int))))) 1074 = true := by decide +kernel
theorem ub_two : ubB (some two64) 1075 = true := by decide +kernel
theorem ub_ln2 : ubB (some 4604418534313441775) 1074 = true := by decide +kernel
theorem ub_e : ∀ n : Nat, n < 400 → ubB (some (fl ((n : Int) - 200))) 1082 = true := by decide +kernel

theorem ub_zero : UB (some 0) (1075 + 0) := ub_of_B (by decide +kernel)
theorem logQ_ub {u : Option Nat} (hu : UB u 1074) : ∀ j : Nat, j ≤ 13 → UB (logQ u j) (1075 + j)
  | 0, _ => ub_zero
  | j + 1, h => by
    have ih := logQ_ub hu j (by omega)
    have h1 := ub_of_B (ub_inv j (by omega))
    exact UB.add (E := 1074) (F := 1075 + j) h1 (UB.mul hu ih (by omega) (by omega) (by omega) (by omega)) (by omega) (by omega) (by omega) (by omega)

/-- The logarithm of a number of a middle size is at most 2^16. -/
theorem logV_ub {y : Nat} (h1 : 870 * 4503599627370496 ≤ y) (h2 : y < 1160 * 4503599627370496) : UB (logV y) 1090 := by
  have he : -200 ≤ logE y ∧ logE y < 200 := by unfold logE; omega
  have hz : 4604930618986332160 ≤ logZ y ∧ logZ y < 4609434218613702656 := by unfold logZ logE; omega
  have hs := logS_ub hz.1 hz.2
  have hu := UB.mul hs hs (G := 1074) (by omega) (by omega) (by omega) (by omega)
  have hq := logQ_ub hu 13 (by omega)
  have h3 := UB.mul hs hq (G := 1088) (by omega) (by omega) (by omega) (by omega)
  have h4 := UB.mul (ub_of_B ub_two) h3 (G := 1089) (by omega) (by omega) (by omega) (by omega)
  have h5 := ub_of_B (ub_e (logE y + 200).toNat (by omega))
  rw [show (((logE y + 200).toNat : Nat) : Int) - 200 = logE y by omega] at h5
  have h6 := UB.mul h5 (ub_of_B ub_ln2) (G := 1082) (by omega) (by omega) (by omega) (by omega)
  exact UB.add h4 h6 (by omega) (by omega) (by omega) (by omega)
end Go.Proofs.Ytecncnkbgfjdcaa
set_option linter.unusedVariables false
set_option linter.unusedSimpArgs false
namespace Go.Proofs.Ytecncnkbgfjdcaa
open Ieee Go.RowKit near

/-- A number taken from itself: nothing is left of a finite one, and an infinity is no number then. -/
theorem sub_self_num {x : Nat} (h : rg FloatKind.f32.format x < 2139095040) : fop .sub .f32 (some x) (some x) = some 0 := by
  rcases read_cases .f32 x with ⟨_, m, e, hd, _⟩ | ⟨h1, _⟩ | ⟨h1, _⟩
  · show ((FloatKind.f32.decode x).sum (FloatKind.f32.decode x).opposite).map FloatKind.f32.format.write = some 0
    rw [hd]
    unfold Datum.opposite Datum.sum
    dsimp only
    rw [Int.min_self, Int.sub_self]
    have h2 : signed (sgn FloatKind.f32.format x) m (0 : Int).toNat + signed (!sgn FloatKind.f32.format x) m (0 : Int).toNat = 0 := by
      unfold signed
      cases sgn FloatKind.f32.format x
      · rw [if_neg (by decide), if_pos (by decide)]; omega
      · rw [if_pos rfl, if_neg (by decide)]; omega
    rw [h2, if_pos rfl]
    have h3 : (sgn FloatKind.f32.format x && !sgn FloatKind.f32.format x) = false := by cases sgn FloatKind.f32.format x <;> rfl
    rw [h3]
    show some (FloatKind.f32.format.nearest false (0 : Int).natAbs e) = some 0
    rw [show (0 : Int).natAbs = 0 from rfl, nearest_exact _ _ _ _ 0 (by rw [inf32]; omega) (by rw [units_zero, Nat.zero_mul, Nat.zero_mul])]
    rfl
  · rw [inf32] at h1; omega
  · rw [inf32] at h1; omega
theorem sub_self_inf {x : Nat} (h : rg FloatKind.f32.format x = 2139095040) : fop .sub .f32 (some x) (some x) = none := by
  rcases read_cases .f32 x with ⟨h1, _⟩ | ⟨h1, hd⟩ | ⟨h1, _⟩
  · rw [inf32] at h1; omega
  · show ((FloatKind.f32.decode x).sum (FloatKind.f32.decode x).opposite).map FloatKind.f32.format.write = none
    rw [hd]
    unfold Datum.opposite Datum.sum
    cases sgn FloatKind.f32.format x <;> rfl
  · rw [inf32] at h1; omega
theorem finB_num {x : Nat} (hn : (FloatKind.f32.decode x).isNaN = false) (h : rg FloatKind.f32.format x < 2139095040) : finB (val .f32 x) = true := by
  rw [val_some hn]; unfold finB; rw [sub_self_num h]; decide +kernel
theorem finB_inf {x : Nat} (hn : (FloatKind.f32.decode x).isNaN = false) (h : rg FloatKind.f32.format x = 2139095040) : finB (val .f32 x) = false := by
  rw [val_some hn]; unfold finB; rw [sub_self_inf h]; rfl

/-- The kinds of what a logarithm is asked of. -/
def LW (r : Nat) : Option Nat :=
  if (FloatKind.f64.decode r).isNaN then none else if rg FloatKind.f64.format r = 0 then some 18442240474082181120
  else if sgn FloatKind.f64.format r then none else if rg FloatKind.f64.format r = 9218868437227405312 then some 9218868437227405312 else logV r

theorem pos_rg {r : Nat} (h : r < 18446744073709551616) (hs : sgn FloatKind.f64.format r = false) : rg FloatKind.f64.format r = r := by
  have := word_of .f64 r h
  rw [hs] at this
  exact this

theorem fits_inf (s : Bool) : fitsNarrow (some (FloatKind.f64.format.word s 9218868437227405312)) := by
  intro b hb _ hi
  obtain rfl := Option.some.inj hb
  exfalso
  revert hi
  cases s <;> decide +kernel
theorem fits_none : fitsNarrow none := by intro b hb; cases hb
theorem val_ninf : val .f64 18442240474082181120 = some 18442240474082181120 := by decide +kernel
theorem val_pinf : val .f64 9218868437227405312 = some 9218868437227405312 := by decide +kernel

theorem fits_LW {x r : Nat} (hr : FIs .f64 r (fwide (val .f32 x))) : fitsNarrow (LW r) := by
  unfold LW
  cases hn : (FloatKind.f32.decode x).isNaN with
  | true =>
    have h1 := hr.out
    rw [val_none hn] at h1
    rw [if_pos (val_eq_none h1)]; exact fits_none
  | false =>
    have W := wide_of hn hr
    rw [if_neg (by rw [W.num]; decide)]
    split
    · exact fits_inf true
    · split
      · exact fits_none
      · split
        · exact fits_inf false
        · rename_i h1 h2 h3
          have hs : sgn FloatKind.f64.format r = false := by cases h : sgn FloatKind.f64.format r; rfl; exact absurd h h2
          have hm := wide_mid hn W (fun h => h1 (W.zero.2 h)) (fun h => h3 (W.inf.2 h))
          rw [pos_rg hr.lt64 hs] at hm
          exact fits_of_UB (logV_ub (by omega) (by omega)) (by omega)

theorem run_neq_self {P : Program} : True := trivial

theorem isInf_yes (y : Nat) (h : (FloatKind.f64.format.order y 9218868437227405311 == some .gt) = true) (w : World) : Calls Try.prog 70 #[.float .f64 y, .int .i64 1] w fun e w' => e = .returned (.bool true) ∧ w = w' := by
  go_enter Try.func70, Try.ntmps70
  go_wp2_with fail
  go_ret
  exact ⟨rfl, rfl⟩
/-- What LogNumber answers. -/
def LN (x : Nat) : Option Nat :=
  if (FloatKind.f32.decode x).isNaN then none else if rg FloatKind.f32.format x = 0 then some 4286578688
  else if sgn FloatKind.f32.format x then none else if rg FloatKind.f32.format x = 2139095040 then some 2139095040 else fnarrow (logV (FloatKind.f64.encode (FloatKind.f32.decode x)))
theorem LN_of {x r : Nat} (hr : FIs .f64 r (fwide (val .f32 x))) : fnarrow (LW r) = LN x := by
  unfold LW LN
  cases hn : (FloatKind.f32.decode x).isNaN with
  | true =>
    have h1 := hr.out
    rw [val_none hn] at h1
    rw [if_pos (val_eq_none h1), if_pos rfl]; rfl
  | false =>
    have W := wide_of hn hr
    rw [if_neg (by rw [W.num]; exact Bool.false_ne_true), if_neg Bool.false_ne_true, W.sign]
    by_cases h1 : rg FloatKind.f32.format x = 0
    · rw [if_pos h1, if_pos (W.zero.2 h1)]; decide +kernel
    · rw [if_neg h1, if_neg (fun h => h1 (W.zero.1 h))]
      split
      · rfl
      · by_cases h3 : rg FloatKind.f32.format x = 2139095040
        · rw [if_pos h3, if_pos (W.inf.2 h3)]; decide +kernel
        · rw [if_neg h3, if_neg (fun h => h3 (W.inf.1 h)), ← W.word]
end Go.Proofs.Ytecncnkbgfjdcaa
set_option linter.unusedVariables false
set_option linter.unusedSimpArgs false
namespace Go.Proofs.Ytecncnkbgfjdcaa
open Ieee near

theorem zero_cut (s : Bool) (n drop : Nat) : Toward.zero.cut s n drop = n / 2 ^ drop := by
  have h0 : Toward.zero.cut s n drop = n / (1 <<< min drop (n.log2 + 2)) := rfl
  rw [h0, Nat.one_shiftLeft]
  by_cases h : drop ≤ n.log2 + 2
  · rw [Nat.min_eq_left h]
  · rw [Nat.min_eq_right (by omega)]
    have h4 : n < 2 ^ (n.log2 + 1) := Nat.lt_log2_self
    have h5 := two_pow_le (show n.log2 + 1 ≤ n.log2 + 2 by omega)
    have h6 := two_pow_le (show n.log2 + 1 ≤ drop by omega)
    rw [Nat.div_eq_of_lt (by omega), Nat.div_eq_of_lt (by omega)]

/-- The whole part of a number, as a whole number and as a float64. -/
def cutN (x : Nat) : Int := ((FloatKind.f64.decode x).toInt .zero).getD 0
def cutW (x : Nat) : Nat := FloatKind.f64.nearest (cutN x)

theorem nearest_zero (s : Bool) : FloatKind.f64.format.nearest s 0 0 = FloatKind.f64.format.word s 0 := rfl
theorem word_false (q : Nat) : FloatKind.f64.format.word false q = q := rfl

theorem rung_lt (q c N : Nat) (hc : c < 2047 * 4503599627370496) (hu : units FloatKind.f64.format q ≤ units FloatKind.f64.format c) : q < FloatKind.f64.format.infRung := by
  have := le_of_units FloatKind.f64.format hu
  rw [inf64']; omega

/-- A finite number below 2^52: what is read, what is cut off, and what is left. -/
structure CutOf (x : Nat) (s : Bool) (m : Nat) (n : Nat) : Prop where
  read : ∃ e, FloatKind.f64.decode x = .number s m e ∧ Toward.zero.cut s (m <<< e.toNat) (-e).toNat = n
  small : n < 9007199254740992
  left : UB (fop .sub .f64 (some x) (some (FloatKind.f64.format.nearest s n 0))) 1074
  same : FloatKind.f64.format.nearest s n 0 = FloatKind.f64.format.nearest s n 0

theorem units_52 : units FloatKind.f64.format 4841369599423283200 = 4503599627370496 * 2 ^ 1074 :=
  units_word (q := 4841369599423283200) (d := 1075) (f := 0) (M := 4503599627370496) (L := 1074) (by omega) (by omega) (by omega) (by omega) (by omega)

theorem cut_parts (N m : Nat) (e : Int) (hN : N = 1074) (he : -1074 ≤ e) (hm : m < 9007199254740992) (hu : m * 2 ^ (e + 1074).toNat ≤ 4503599627370496 * 2 ^ N) :
    (m <<< e.toNat) / 2 ^ (-e).toNat < 9007199254740992 ∧ (m <<< e.toNat) / 2 ^ (-e).toNat * 2 ^ N ≤ m * 2 ^ (e + 1074).toNat ∧ m * 2 ^ (e + 1074).toNat ≤ (m <<< e.toNat) / 2 ^ (-e).toNat * 2 ^ N + 2 ^ N := by
  rw [Nat.shiftLeft_eq]
  have hP := Nat.two_pow_pos N
  rcases Int.le_total 0 e with h | h
  · rw [show (-e).toNat = 0 by omega, Nat.pow_zero, Nat.div_one]
    have h1 : (e + 1074).toNat = e.toNat + N := by omega
    rw [h1, Nat.pow_add, ← Nat.mul_assoc] at hu
    rw [h1, Nat.pow_add, ← Nat.mul_assoc]
    have h2 := Nat.le_of_mul_le_mul_right hu hP
    exact ⟨by omega, Nat.le_refl _, Nat.le_add_right _ _⟩
  · rw [show e.toNat = 0 by omega, Nat.pow_zero, Nat.mul_one]
    obtain ⟨k, hk⟩ : ∃ k, k = (-e).toNat := ⟨_, rfl⟩
    have hk2 : N = k + (e + 1074).toNat := by omega
    rw [← hk]
    generalize (e + 1074).toNat = j at *
    rw [hk2, Nat.pow_add]
    have hQ := Nat.two_pow_pos k
    have h1 := Nat.div_mul_le_self m (2 ^ k)
    have h2 : m < m / 2 ^ k * 2 ^ k + 2 ^ k := by
      have := Nat.lt_div_mul_add (a := m) hQ
      exact this
    refine ⟨Nat.lt_of_le_of_lt (Nat.div_le_self _ _) hm, ?_, ?_⟩
    · rw [← Nat.mul_assoc]; exact Nat.mul_le_mul_right _ h1
    · rw [← Nat.mul_assoc, ← Nat.add_mul]; exact Nat.mul_le_mul_right _ (Nat.le_of_lt h2)

theorem Z_near (x N : Nat) (hN : N = 1074) (s : Bool) (q n u : Nat) (hs : sgn FloatKind.f64.format x = s) (hux : units FloatKind.f64.format (rg FloatKind.f64.format x) = u) (hq : q < FloatKind.f64.format.infRung)
    (hu : units FloatKind.f64.format q = n * 2 ^ N) (h1 : n * 2 ^ N ≤ u) (h2 : u ≤ n * 2 ^ N + 2 ^ N) : (Z FloatKind.f64.format x - Z FloatKind.f64.format (FloatKind.f64.format.word s q)).natAbs ≤ 2 ^ N := by
  have hsw : q < FloatKind.f64.format.signWeight := by rw [inf64'] at hq; rw [sw64]; omega
  unfold Z
  rw [rg_word .f64 s q hsw, sgn_word .f64 s q hsw, hs, hux, hu]
  generalize n * 2 ^ N = A at *
  generalize 2 ^ N = P at *
  cases s
  · rw [if_neg (by decide), if_neg (by decide)]; omega
  · rw [if_pos rfl, if_pos rfl]; omega

theorem cut_of {x : Nat} (h : rg FloatKind.f64.format x < 4841369599423283200) : ∃ s m n, CutOf x s m n := by
  have hle := Nat.le_of_lt (units_lt FloatKind.f64.format h)
  rw [units_52] at hle
  rcases read_cases .f64 x with ⟨h1, m, e, hd, he, hu, hm⟩ | ⟨h1, _⟩ | ⟨h1, _⟩
  · rw [lp64] at he hu
    rw [bin64] at hm
    rw [show e - -1074 = e + 1074 by omega] at hu
    rw [← hu] at hle
    obtain ⟨a1, a2, a3⟩ := cut_parts 1074 m e rfl he hm hle
    refine ⟨_, m, (m <<< e.toNat) / 2 ^ (-e).toNat, ⟨e, hd, zero_cut _ _ _⟩, a1, ?_, rfl⟩
    generalize (m <<< e.toNat) / 2 ^ (-e).toNat = n at *
    obtain ⟨q, hq⟩ := represents FloatKind.f64.format n 0 (by rw [bin64]; omega) (by rw [lp64]; omega)
    rw [lp64, show (0 - -1074 : Int).toNat = 1074 by omega] at hq
    have hqi : q < FloatKind.f64.format.infRung := by
      refine rung_lt q _ 0 (show 4841369599423283200 < _ by omega) ?_
      rw [hq, units_52]
      exact Nat.le_trans a2 hle
    rw [nearest_exact FloatKind.f64.format _ n 0 q (Nat.le_of_lt hqi) (by rw [lp64, hq, show (-1074 - 0 : Int).toNat = 0 by omega, show (0 - -1074 : Int).toNat = 1074 by omega, Nat.pow_zero, Nat.mul_one])]
    refine UB.sub_Z h1 ?_ (by omega) ?_
    · rw [rg_word .f64 _ q (by rw [inf64'] at hqi; rw [sw64]; omega)]; exact hqi
    · exact Z_near x 1074 rfl _ q n _ rfl hu.symm hqi hq a2 a3
  · rw [inf64] at h1; omega
  · rw [inf64] at h1; omega

def half64 : Nat := 4602678819172646912
def quarter64 : Nat := 4598175219545276416
def twoPi64 : Nat := 4618760256179416344
def sP1 (T : Option Nat) : Option Nat := if fcmp .f64 T (some 0) == some .lt then fop .add .f64 T (some one64) else T
def sNeg (T : Option Nat) : Bool := fcmp .f64 T (some half64) == some .gt || fcmp .f64 T (some half64) == some .eq
def sP2 (T : Option Nat) : Option Nat := if sNeg T then fop .sub .f64 T (some half64) else T
def sP3 (T : Option Nat) : Option Nat := if fcmp .f64 T (some quarter64) == some .gt then fop .sub .f64 (some half64) T else T
def sC (j : Nat) : Nat := fl (2 * (8 - (j : Int)) * (2 * (8 - (j : Int)) + 1))
def sS (U : Option Nat) : Nat → Option Nat
  | 0 => some one64
  | j + 1 => fop .sub .f64 (some one64) (fop .quo .f64 (fop .mul .f64 U (sS U j)) (some (sC j)))
def fneg (v : Option Nat) : Option Nat := v.map (Op.negFloat .f64)
def sR (T : Option Nat) : Option Nat := fop .mul .f64 (fop .mul .f64 T (some twoPi64)) (sS (fop .mul .f64 (fop .mul .f64 T (some twoPi64)) (fop .mul .f64 T (some twoPi64))) 8)
def sineT (T : Option Nat) : Option Nat := if sNeg T then fneg (sR (sP3 (sP2 T))) else sR (sP3 (sP2 T))

theorem neg_rg (r : Nat) : rg FloatKind.f64.format (Op.negFloat .f64 r) = rg FloatKind.f64.format r := by
  show (r ^^^ 2 ^ 63) % 2 ^ 63 = r % 2 ^ 63
  rw [Nat.xor_mod_two_pow, Nat.mod_self, Nat.xor_zero]
theorem neg_lt {r : Nat} (h : r < 18446744073709551616) : Op.negFloat .f64 r < 18446744073709551616 := by
  show r ^^^ 2 ^ 63 < 2 ^ 64
  exact Nat.xor_lt_two_pow h (by decide)
theorem neg_nan (r : Nat) : (FloatKind.f64.decode (Op.negFloat .f64 r)).isNaN = (FloatKind.f64.decode r).isNaN := by
  rw [decode_isNaN, decode_isNaN]
  have := neg_rg r
  unfold rg at this
  rw [this]
theorem FIs.neg {r : Nat} {v : Option Nat} (h : FIs .f64 r v) : FIs .f64 (Op.negFloat .f64 r) (fneg v) := by
  refine FIs.mk ?_ (neg_lt h.lt64)
  rw [← h.out]
  cases hn : (FloatKind.f64.decode r).isNaN with
  | true => rw [val_none hn, val_none ((neg_nan r).trans hn)]; rfl
  | false => rw [val_some hn, val_some ((neg_nan r).trans hn)]; rfl
theorem UB.neg {v : Option Nat} {E : Nat} (h : UB v E) : UB (fneg v) E := by
  intro b hb
  obtain ⟨c, rfl, rfl⟩ := Option.map_eq_some_iff.1 hb
  rw [neg_rg]
  exact h c rfl

theorem ub_one : UB (some one64) 1074 := ub_of_B (by decide +kernel)
theorem ub_half : UB (some half64) 1073 := ub_of_B (by decide +kernel)
theorem ub_twoPi : UB (some twoPi64) 1077 := ub_of_B (by decide +kernel)
theorem UB.sP1 {T : Option Nat} (h : UB T 1074) : UB (sP1 T) 1075 := by
  unfold Go.Proofs.Ytecncnkbgfjdcaa.sP1
  split
  · exact UB.add h ub_one (by omega) (by omega) (by omega) (by omega)
  · exact h.mono (by omega)
theorem UB.sP2 {T : Option Nat} (h : UB T 1075) : UB (sP2 T) 1076 := by
  unfold Go.Proofs.Ytecncnkbgfjdcaa.sP2
  split
  · exact UB.sub h ub_half (by omega) (by omega) (by omega) (by omega)
  · exact h.mono (by omega)
theorem UB.sP3 {T : Option Nat} (h : UB T 1076) : UB (sP3 T) 1077 := by
  unfold Go.Proofs.Ytecncnkbgfjdcaa.sP3
  split
  · exact UB.sub ub_half h (by omega) (by omega) (by omega) (by omega)
  · exact h.mono (by omega)
def sCB (j : Nat) : Bool := decide (rg FloatKind.f64.format (sC j) < FloatKind.f64.format.infRung) && decide (0 < rg FloatKind.f64.format (sC j)) && decide (2 ^ 1076 ≤ units FloatKind.f64.format (rg FloatKind.f64.format (sC j)))
theorem sCB_all : ∀ j : Nat, j < 8 → sCB j = true := by decide +kernel
theorem sS_ub {U : Option Nat} (hu : UB U 1086) : ∀ j : Nat, j ≤ 8 → UB (sS U j) (1074 + 12 * j)
  | 0, _ => ub_one
  | j + 1, h => by
    have ih := sS_ub hu j (by omega)
    have hc := sCB_all j (by omega)
    unfold sCB at hc
    rw [Bool.and_eq_true, Bool.and_eq_true, decide_eq_true_eq, decide_eq_true_eq, decide_eq_true_eq] at hc
    have h1 := UB.mul hu ih (G := 1086 + 12 * j) (by omega) (by omega) (by omega) (by omega)
    have h2 := UB.divc (F := 1076) (G := 1084 + 12 * j) h1 (by omega) hc.1.1 hc.1.2 hc.2 (by omega) (by omega)
    exact UB.sub ub_one h2 (by omega) (by omega) (by omega) (by omega)
theorem UB.sR {T : Option Nat} (h : UB T 1077) : UB (sR T) 1176 := by
  have h1 := UB.mul h ub_twoPi (G := 1080) (by omega) (by omega) (by omega) (by omega)
  have h2 := UB.mul h1 h1 (G := 1086) (by omega) (by omega) (by omega) (by omega)
  exact UB.mul h1 (sS_ub h2 8 (by omega)) (by omega) (by omega) (by omega) (by omega)
theorem sineT_ub {T : Option Nat} (h : UB T 1075) : UB (sineT T) 1176 := by
  have h1 := UB.sR (UB.sP3 (UB.sP2 h))
  unfold sineT
  split
  · exact h1.neg
  · exact h1
end Go.Proofs.Ytecncnkbgfjdcaa
set_option linter.unusedVariables false
set_option linter.unusedSimpArgs false
namespace Go.Proofs.Ytecncnkbgfjdcaa
open Ieee near

/-- A float64 that is finite. -/
def Fin64 (x : Nat) : Prop := rg FloatKind.f64.format x < 9218868437227405312

theorem Fin64.num {x : Nat} (h : Fin64 x) : (FloatKind.f64.decode x).isNaN = false := by
  rw [decode_isNaN, decide_eq_false_iff_not, inf64]
  show ¬ 9218868437227405312 < rg FloatKind.f64.format x
  unfold Fin64 at h
  omega
theorem Fin64.val {x : Nat} (h : Fin64 x) : val .f64 x = some x := val_some h.num
theorem Fin64.read {x : Nat} (h : Fin64 x) : ∃ s m e, FloatKind.f64.decode x = .number s m e := by
  rcases read_cases .f64 x with ⟨_, m, e, hd, _⟩ | ⟨h1, _⟩ | ⟨h1, _⟩
  · exact ⟨_, m, e, hd⟩
  · unfold Fin64 at h; rw [inf64] at h1; omega
  · unfold Fin64 at h; rw [inf64] at h1; omega
theorem fin_sub {x y : Nat} (hx : Fin64 x) (hy : Fin64 y) : ∃ r, floatBits .sub .f64 x y = some r := by
  obtain ⟨s, m, e, h1⟩ := hx.read
  obtain ⟨t, n, f, h2⟩ := hy.read
  show ∃ r, ((FloatKind.f64.decode x).sum (FloatKind.f64.decode y).opposite).map FloatKind.f64.format.write = some r
  rw [h1, h2]
  exact ⟨_, rfl⟩
theorem fin_add {x y : Nat} (hx : Fin64 x) (hy : Fin64 y) : ∃ r, floatBits .add .f64 x y = some r := by
  obtain ⟨s, m, e, h1⟩ := hx.read
  obtain ⟨t, n, f, h2⟩ := hy.read
  show ∃ r, ((FloatKind.f64.decode x).sum (FloatKind.f64.decode y)).map FloatKind.f64.format.write = some r
  rw [h1, h2]
  exact ⟨_, rfl⟩
theorem fin_ub {x E : Nat} (h : UB (some x) E) (hE : E < 2098) (hn : (FloatKind.f64.decode x).isNaN = false) : Fin64 x := by
  obtain ⟨m, e, e1, _, _⟩ := h.read hE hn
  rcases read_cases .f64 x with ⟨h, _⟩ | ⟨_, e2⟩ | ⟨_, e2⟩
  · exact h
  · rw [e1] at e2; cases e2
  · rw [e1] at e2; cases e2
theorem fop_bits {op : BinOp} {x y r : Nat} (h : floatBits op .f64 x y = some r) : fop op .f64 (some x) (some y) = some r := h

/-- What is determined of a part of a turn t0 ahead of the sine's loop. -/
structure Prep (t0 u1 t1 u2 t2 u3 t3 : Nat) (b1 b2 b3 : Bool) : Prop where
  c1 : (FloatKind.f64.format.order t0 0 == some .lt) = b1
  a1 : floatBits .add .f64 t0 4607182418800017408 = some u1
  e1 : t1 = if b1 then u1 else t0
  c2 : (FloatKind.f64.format.order t1 4602678819172646912 == some .gt || FloatKind.f64.format.order t1 4602678819172646912 == some .eq) = b2
  a2 : floatBits .sub .f64 t1 4602678819172646912 = some u2
  e2 : t2 = if b2 then u2 else t1
  c3 : (FloatKind.f64.format.order t2 4598175219545276416 == some .gt) = b3
  a3 : floatBits .sub .f64 4602678819172646912 t2 = some u3
  e3 : t3 = if b3 then u3 else t2
  p1 : sP1 (some t0) = some t1
  p2 : sP2 (some t1) = some t2
  p3 : sP3 (some t2) = some t3
  n2 : sNeg (some t1) = b2
  f1 : Fin64 t1
  f3 : Fin64 t3
  u : UB (some t1) 1075
theorem prep {t0 : Nat} (hub : UB (some t0) 1074) (hn : (FloatKind.f64.decode t0).isNaN = false) : ∃ u1 t1 u2 t2 u3 t3 b1 b2 b3, Prep t0 u1 t1 u2 t2 u3 t3 b1 b2 b3 := by
  have f0 := fin_ub hub (by omega) hn
  have fone : Fin64 4607182418800017408 := by unfold Fin64; decide +kernel
  have fhalf : Fin64 4602678819172646912 := by unfold Fin64; decide +kernel
  obtain ⟨u1, a1⟩ := fin_add f0 fone
  obtain ⟨t1, e1⟩ : ∃ t1, t1 = if (FloatKind.f64.format.order t0 0 == some .lt) then u1 else t0 := ⟨_, rfl⟩
  have p1 : sP1 (some t0) = some t1 := by
    rw [e1]; unfold sP1
    show (if (FloatKind.f64.format.order t0 0 == some .lt) = true then floatBits .add .f64 t0 4607182418800017408 else some t0) = _
    rw [a1]; split <;> rfl
  have h1 : UB (some t1) 1075 := by rw [← p1]; exact UB.sP1 hub
  have n1 : (FloatKind.f64.decode t1).isNaN = false := by
    rw [e1]; split
    · exact floatBits_not_nan a1
    · exact hn
  have f1 := fin_ub h1 (by omega) n1
  obtain ⟨u2, a2⟩ := fin_sub f1 fhalf
  obtain ⟨t2, e2⟩ : ∃ t2, t2 = if (FloatKind.f64.format.order t1 4602678819172646912 == some .gt || FloatKind.f64.format.order t1 4602678819172646912 == some .eq) then u2 else t1 := ⟨_, rfl⟩
  have p2 : sP2 (some t1) = some t2 := by
    rw [e2]; unfold sP2
    show (if (FloatKind.f64.format.order t1 4602678819172646912 == some .gt || FloatKind.f64.format.order t1 4602678819172646912 == some .eq) = true then floatBits .sub .f64 t1 4602678819172646912 else some t1) = _
    rw [a2]; split <;> rfl
  have h2 : UB (some t2) 1076 := by rw [← p2]; exact UB.sP2 h1
  have n2 : (FloatKind.f64.decode t2).isNaN = false := by
    rw [e2]; split
    · exact floatBits_not_nan a2
    · exact n1
  have f2 := fin_ub h2 (by omega) n2
  obtain ⟨u3, a3⟩ := fin_sub fhalf f2
  obtain ⟨t3, e3⟩ : ∃ t3, t3 = if (FloatKind.f64.format.order t2 4598175219545276416 == some .gt) then u3 else t2 := ⟨_, rfl⟩
  have p3 : sP3 (some t2) = some t3 := by
    rw [e3]; unfold sP3
    show (if (FloatKind.f64.format.order t2 4598175219545276416 == some .gt) = true then floatBits .sub .f64 4602678819172646912 t2 else some t2) = _
    rw [a3]; split <;> rfl
  have h3 : UB (some t3) 1077 := by rw [← p3]; exact UB.sP3 h2
  have n3 : (FloatKind.f64.decode t3).isNaN = false := by
    rw [e3]; split
    · exact floatBits_not_nan a3
    · exact n2
  exact ⟨u1, t1, u2, t2, u3, t3, _, _, _, rfl, a1, e1, rfl, a2, e2, rfl, a3, e3, p1, p2, p3, rfl, f1, fin_ub h3 (by omega) n3, h1⟩

/-- What is determined of a float64 below 2^52. -/
structure Cut (x : Nat) (n : Int) (tr W t0 : Nat) (z : Bool) : Prop where
  toInt : floatToIntVal .f64 x .i64 = some n
  near : FloatKind.f64.nearest n = W
  trunc : FloatKind.f64.encode ((FloatKind.f64.decode x).integral .zero) = tr
  zero : (FloatKind.f64.format.order tr 0 == some .eq) = z
  word : W = if z then 0 else tr
  sub : floatBits .sub .f64 x W = some t0
  ub : UB (some t0) 1074
  num : (FloatKind.f64.decode t0).isNaN = false
  x0 : Fin64 x

theorem zero_mul_of {u P : Nat} (e : u = 0 * P) : u = 0 := e.trans (Nat.zero_mul P)
theorem mul_ne {n : Nat} (P : Nat) (hP : 0 < P) (h : 0 < n) (e : 0 = n * P) : False := absurd e (Nat.ne_of_lt (Nat.mul_pos h hP))

theorem fin_zero (s : Bool) : Fin64 (FloatKind.f64.format.word s 0) := by
  unfold Fin64
  cases s <;> decide +kernel

/-- Nought taken away, of either sign: the same bound. -/
theorem Z_word0 (s : Bool) : Z FloatKind.f64.format (FloatKind.f64.format.word s 0) = 0 := by
  refine (Z_zero_iff .f64 _).2 ?_
  exact rg_word .f64 s 0 (by decide)

theorem cut_all {x : Nat} (h : rg FloatKind.f64.format x < 4841369599423283200) : ∃ n tr W t0 z, Cut x n tr W t0 z := by
  have hle := Nat.le_of_lt (units_lt FloatKind.f64.format h)
  rw [units_52] at hle
  have hx0 : Fin64 x := by unfold Fin64; omega
  rcases read_cases .f64 x with ⟨h1, m, e, hd, he, hu, hm⟩ | ⟨h1, _⟩ | ⟨h1, _⟩
  · rw [lp64] at he hu
    rw [bin64] at hm
    rw [show e - -1074 = e + 1074 by omega] at hu
    rw [← hu] at hle
    obtain ⟨a1, a2, a3⟩ := cut_parts 1074 m e rfl he hm hle
    obtain ⟨s, hs⟩ : ∃ s, s = sgn FloatKind.f64.format x := ⟨_, rfl⟩
    rw [← hs] at hd
    obtain ⟨n, hn⟩ : ∃ n, n = (m <<< e.toNat) / 2 ^ (-e).toNat := ⟨_, rfl⟩
    rw [← hn] at a1 a2 a3
    have hint : (FloatKind.f64.decode x).integral .zero = .number s n 0 := by
      rw [hd]
      show Datum.number s (Toward.zero.cut s (m <<< e.toNat) (-e).toNat) 0 = _
      rw [zero_cut, ← hn]
    obtain ⟨q, hq⟩ := represents FloatKind.f64.format n 0 (by rw [bin64]; omega) (by rw [lp64]; omega)
    rw [lp64, show (0 - -1074 : Int).toNat = 1074 by omega] at hq
    have hqi : q < FloatKind.f64.format.infRung := by
      refine rung_lt q _ 0 (show 4841369599423283200 < _ by omega) ?_
      rw [hq, units_52]
      exact Nat.le_trans a2 hle
    have hnear : ∀ t : Bool, FloatKind.f64.format.nearest t n 0 = FloatKind.f64.format.word t q := fun t =>
      nearest_exact FloatKind.f64.format t n 0 q (Nat.le_of_lt hqi) (by rw [lp64, hq, show (-1074 - 0 : Int).toNat = 0 by omega, show (0 - -1074 : Int).toNat = 1074 by omega, Nat.pow_zero, Nat.mul_one])
    have hsw : q < FloatKind.f64.format.signWeight := by rw [inf64'] at hqi; rw [sw64]; omega
    have hfw : ∀ t : Bool, Fin64 (FloatKind.f64.format.word t q) := fun t => by
      unfold Fin64
      rw [rg_word .f64 t q hsw]
      rw [inf64] at hqi; exact hqi
    have hq0 : q = 0 ↔ n = 0 := by
      have z := units_zero FloatKind.f64.format
      constructor
      · intro h0
        subst h0
        rw [z] at hq
        rcases Nat.eq_zero_or_pos n with h | h
        · exact h
        · exact (mul_ne _ (Nat.two_pow_pos 1074) h hq).elim
      · intro h0
        subst h0
        exact units_inj _ ((zero_mul_of hq).trans z.symm)
    have hti : (FloatKind.f64.decode x).toInt .zero = some (signed s n 0) := by
      unfold Datum.toInt
      rw [hint]
    have hsg : signed s n 0 = if s then -(n : Int) else (n : Int) := by
      unfold signed
      rw [Nat.shiftLeft_zero]
    have hz := order_eq_zero .f64 (x := FloatKind.f64.format.word s q) (hfw s).num
    rw [rg_word .f64 s q hsw] at hz
    have hW : ∀ W, (W = if decide (q = 0) then 0 else FloatKind.f64.format.word s q) → Fin64 W ∧ UB (fop .sub .f64 (some x) (some W)) 1074 := by
      intro W hW
      by_cases h0 : q = 0
      · rw [decide_eq_true h0, if_pos rfl] at hW
        subst hW
        refine ⟨fin_zero false, UB.sub_Z h1 (fin_zero false) (by omega) ?_⟩
        have hz0 : Z FloatKind.f64.format 0 = 0 := Z_word0 false
        have h5 := Z_near x 1074 rfl s q n _ hs.symm hu.symm hqi hq a2 a3
        rw [h0, Z_word0] at h5
        rw [hz0]; exact h5
      · rw [decide_eq_false h0, if_neg Bool.false_ne_true] at hW
        subst hW
        exact ⟨hfw s, UB.sub_Z h1 (hfw s) (by omega) (Z_near x 1074 rfl s q n _ hs.symm hu.symm hqi hq a2 a3)⟩
    obtain ⟨W, eW⟩ : ∃ W, W = if decide (q = 0) then 0 else FloatKind.f64.format.word s q := ⟨_, rfl⟩
    obtain ⟨fW, uW⟩ := hW W eW
    obtain ⟨t0, ht⟩ := fin_sub hx0 fW
    refine ⟨signed s n 0, FloatKind.f64.format.word s q, W, t0, decide (q = 0), ?_, ?_, ?_, hz, eW, ht, ?_, floatBits_not_nan ht, hx0⟩
    · unfold floatToIntVal
      rw [hti]
      dsimp only
      rw [if_pos]
      rw [hsg]
      have e1 : IntKind.min .i64 = -9223372036854775808 := rfl
      have e2 : IntKind.max .i64 = 9223372036854775807 := rfl
      rw [e1, e2]
      split <;> omega
    · show FloatKind.f64.format.nearest (decide (signed s n 0 < 0)) (signed s n 0).natAbs 0 = W
      have hna : (signed s n 0).natAbs = n := by rw [hsg]; split <;> omega
      rw [hna, hnear, eW]
      by_cases h0 : q = 0
      · rw [decide_eq_true h0, if_pos rfl, h0, hsg, hq0.1 h0]
        cases s <;> rfl
      · rw [decide_eq_false h0, if_neg Bool.false_ne_true]
        have hn0 : n ≠ 0 := fun h => h0 (hq0.2 h)
        congr 1
        rw [hsg]
        cases s
        · rw [if_neg Bool.false_ne_true, decide_eq_false (by omega)]
        · rw [if_pos rfl, decide_eq_true (by omega)]
    · rw [hint]
      exact hnear s
    · rw [← fop_bits ht]; exact uW
  · rw [inf64] at h1; omega
  · rw [inf64] at h1; omega

theorem sub_self64 {x : Nat} (h : Fin64 x) : floatBits .sub .f64 x x = some 0 := by
  obtain ⟨s, m, e, hd⟩ := h.read
  show ((FloatKind.f64.decode x).sum (FloatKind.f64.decode x).opposite).map FloatKind.f64.format.write = some 0
  rw [hd]
  unfold Datum.opposite Datum.sum
  dsimp only
  rw [Int.min_self, Int.sub_self]
  have h2 : signed s m (0 : Int).toNat + signed (!s) m (0 : Int).toNat = 0 := by
    unfold signed
    cases s
    · rw [if_neg (by decide), if_pos (by decide)]; omega
    · rw [if_pos rfl, if_neg (by decide)]; omega
  rw [h2, if_pos rfl]
  have h3 : (s && !s) = false := by cases s <;> rfl
  rw [h3]
  show some (FloatKind.f64.format.nearest false (0 : Int).natAbs e) = some 0
  rw [show (0 : Int).natAbs = 0 from rfl, nearest_exact _ _ _ _ 0 (by rw [inf64]; omega) (by rw [units_zero, Nat.zero_mul, Nat.zero_mul])]
  rfl
theorem sub_self_none {x : Nat} (h : ¬ Fin64 x) : fop .sub .f64 (val .f64 x) (val .f64 x) = none := by
  cases hn : (FloatKind.f64.decode x).isNaN with
  | true => rw [val_none hn]; rfl
  | false =>
    rw [val_some hn]
    rcases read_cases .f64 x with ⟨h1, _⟩ | ⟨h1, hd⟩ | ⟨h1, h2⟩
    · exact absurd h1 h
    · show ((FloatKind.f64.decode x).sum (FloatKind.f64.decode x).opposite).map FloatKind.f64.format.write = none
      rw [hd]
      unfold Datum.opposite Datum.sum
      cases sgn FloatKind.f64.format x <;> rfl
    · rw [h2] at hn; cases hn

/-- Not below 2^52: either sign. -/
theorem huge_pos {x : Nat} (h : Fin64 x) : (FloatKind.f64.format.order x 4841369599423283200 == some .gt || FloatKind.f64.format.order x 4841369599423283200 == some .eq) = (!sgn FloatKind.f64.format x && decide (4841369599423283200 ≤ rg FloatKind.f64.format x)) := by
  have hc : Z FloatKind.f64.format 4841369599423283200 = units FloatKind.f64.format 4841369599423283200 := rfl
  rw [order_Z .f64 x 4841369599423283200 (Nat.le_of_lt h) (by decide), hc]
  unfold Z
  have hp := units_pos (k := .f64) (q := 4841369599423283200) (by omega)
  cases hs : sgn FloatKind.f64.format x with
  | true =>
    rw [if_pos rfl, cmp_lt (by omega)]; rfl
  | false =>
    rw [if_neg Bool.false_ne_true]
    by_cases h1 : 4841369599423283200 ≤ rg FloatKind.f64.format x
    · rw [decide_eq_true h1]
      rcases Nat.lt_or_eq_of_le h1 with h2 | h2
      · have := units_lt FloatKind.f64.format h2
        rw [cmp_gt (by omega)]; rfl
      · rw [← h2, cmp_eq rfl]; rfl
    · rw [decide_eq_false h1]
      have := units_lt FloatKind.f64.format (show rg FloatKind.f64.format x < 4841369599423283200 by omega)
      rw [cmp_lt (by omega)]; rfl
theorem huge_neg {x : Nat} (h : Fin64 x) : (FloatKind.f64.format.order x 14064741636278059008 == some .lt || FloatKind.f64.format.order x 14064741636278059008 == some .eq) = (sgn FloatKind.f64.format x && decide (4841369599423283200 ≤ rg FloatKind.f64.format x)) := by
  have hc : Z FloatKind.f64.format 14064741636278059008 = -(units FloatKind.f64.format 4841369599423283200 : Int) := rfl
  rw [order_Z .f64 x 14064741636278059008 (Nat.le_of_lt h) (by decide), hc]
  unfold Z
  have hp := units_pos (k := .f64) (q := 4841369599423283200) (by omega)
  cases hs : sgn FloatKind.f64.format x with
  | false =>
    rw [if_neg Bool.false_ne_true, cmp_gt (by omega)]; rfl
  | true =>
    rw [if_pos rfl]
    by_cases h1 : 4841369599423283200 ≤ rg FloatKind.f64.format x
    · rw [decide_eq_true h1]
      rcases Nat.lt_or_eq_of_le h1 with h2 | h2
      · have := units_lt FloatKind.f64.format h2
        rw [cmp_lt (by omega)]; rfl
      · rw [← h2, cmp_eq rfl]; rfl
    · rw [decide_eq_false h1]
      have := units_lt FloatKind.f64.format (show rg FloatKind.f64.format x < 4841369599423283200 by omega)
      rw [cmp_gt (by omega)]; rfl

theorem sC_val : ∀ j : Nat, j < 8 → val .f64 (sC j) = some (sC j) := by decide +kernel
theorem s_two : ∀ j : Nat, j < 8 → floatBits .mul .f64 4611686018427387904 (fl (8 - (j : Int))) = some (fl (2 * (8 - (j : Int)))) := by decide +kernel
theorem s_inc : ∀ j : Nat, j < 8 → floatBits .add .f64 (fl (2 * (8 - (j : Int)))) 4607182418800017408 = some (fl (2 * (8 - (j : Int)) + 1)) := by decide +kernel
theorem s_mul : ∀ j : Nat, j < 8 → floatBits .mul .f64 (fl (2 * (8 - (j : Int)))) (fl (2 * (8 - (j : Int)) + 1)) = some (sC j) := by decide +kernel
theorem s_dec : ∀ j : Nat, j < 8 → floatBits .sub .f64 (fl (8 - (j : Int))) 4607182418800017408 = some (fl (8 - ((j + 1 : Nat) : Int))) := by decide +kernel
theorem s_ge : ∀ j : Nat, j < 8 → (FloatKind.f64.format.order (fl (8 - (j : Int))) 4607182418800017408 == some .gt || FloatKind.f64.format.order (fl (8 - (j : Int))) 4607182418800017408 == some .eq) = true := by decide +kernel
theorem s_end : (FloatKind.f64.format.order (fl (8 - ((8 : Nat) : Int))) 4607182418800017408 == some .gt || FloatKind.f64.format.order (fl (8 - ((8 : Nat) : Int))) 4607182418800017408 == some .eq) = false := by decide +kernel
theorem s_start : 4620693217682128896 = fl (8 - ((0 : Nat) : Int)) := by decide +kernel
end Go.Proofs.Ytecncnkbgfjdcaa
set_option linter.unusedVariables false
set_option linter.unusedSimpArgs false
namespace Go.Proofs.Ytecncnkbgfjdcaa
open Ieee near

/-- A value that is a number, at most 2^(E - 1074). -/
def FV (v : Option Nat) (E : Nat) : Prop := UB v E ∧ ∃ b, v = some b ∧ (FloatKind.f64.decode b).isNaN = false
theorem FV.ub {v : Option Nat} {E : Nat} (h : FV v E) : UB v E := h.1
theorem FV.fin {v : Option Nat} {E : Nat} (h : FV v E) (hE : E < 2098) : ∃ b, v = some b ∧ Fin64 b := by
  obtain ⟨hu, b, rfl, hn⟩ := h
  exact ⟨b, rfl, fin_ub hu hE hn⟩
theorem FV.of {x E : Nat} (h : UB (some x) E) (hn : (FloatKind.f64.decode x).isNaN = false) : FV (some x) E := ⟨h, x, rfl, hn⟩
theorem fin_mul {x y : Nat} (hx : Fin64 x) (hy : Fin64 y) : ∃ r, floatBits .mul .f64 x y = some r := by
  obtain ⟨s, m, e, h1⟩ := hx.read
  obtain ⟨t, n, f, h2⟩ := hy.read
  show ∃ r, ((FloatKind.f64.decode x).product (FloatKind.f64.decode y)).map FloatKind.f64.format.write = some r
  rw [h1, h2]
  exact ⟨_, rfl⟩
theorem FV.mul {a b : Option Nat} {E F G : Nat} (ha : FV a E) (hb : FV b F) (hE : E < 2098) (hF : F < 2098) (hG : E + F ≤ G + 1074) (hG2 : G ≤ 2098) : FV (fop .mul .f64 a b) G := by
  obtain ⟨x, rfl, hx⟩ := ha.fin hE
  obtain ⟨y, rfl, hy⟩ := hb.fin hF
  obtain ⟨r, hr⟩ := fin_mul hx hy
  exact ⟨UB.mul ha.ub hb.ub hE hF hG hG2, r, hr, floatBits_not_nan hr⟩
theorem FV.add {a b : Option Nat} {E F G : Nat} (ha : FV a E) (hb : FV b F) (hE : E < 2098) (hF : F < 2098) (hG : max E F < G) (hG2 : G ≤ 2098) : FV (fop .add .f64 a b) G := by
  obtain ⟨x, rfl, hx⟩ := ha.fin hE
  obtain ⟨y, rfl, hy⟩ := hb.fin hF
  obtain ⟨r, hr⟩ := fin_add hx hy
  exact ⟨UB.add ha.ub hb.ub hE hF hG hG2, r, hr, floatBits_not_nan hr⟩
theorem FV.sub {a b : Option Nat} {E F G : Nat} (ha : FV a E) (hb : FV b F) (hE : E < 2098) (hF : F < 2098) (hG : max E F < G) (hG2 : G ≤ 2098) : FV (fop .sub .f64 a b) G := by
  obtain ⟨x, rfl, hx⟩ := ha.fin hE
  obtain ⟨y, rfl, hy⟩ := hb.fin hF
  obtain ⟨r, hr⟩ := fin_sub hx hy
  exact ⟨UB.sub ha.ub hb.ub hE hF hG hG2, r, hr, floatBits_not_nan hr⟩
theorem fin_quo {x y : Nat} (hx : Fin64 x) (hy : Fin64 y) (h0 : 0 < rg FloatKind.f64.format y) : ∃ r, floatBits .quo .f64 x y = some r := by
  obtain ⟨s, m, e, h1⟩ := hx.read
  rcases read_cases .f64 y with ⟨_, n, f, h2, hf, hu, _⟩ | ⟨h2, _⟩ | ⟨h2, _⟩
  · have hp := units_pos (k := .f64) h0
    have hn : n ≠ 0 := by
      intro h
      subst h
      have := zero_mul_of hu.symm
      omega
    have hd : ((FloatKind.f64.decode x).quotient (2 * FloatKind.f64.format.fractionBits + 2) (FloatKind.f64.decode y)).isSome = true := by
      rw [h1, h2]
      unfold Datum.quotient
      dsimp only
      rw [if_neg hn]
      rfl
    have : (floatBits .quo .f64 x y).isSome = true := by
      show (((FloatKind.f64.decode x).quotient _ (FloatKind.f64.decode y)).map FloatKind.f64.format.write).isSome = true
      rw [Option.isSome_map, h1, h2]
      unfold Datum.quotient
      dsimp only
      rw [if_neg hn]
      rfl
    exact Option.isSome_iff_exists.1 this
  · unfold Fin64 at hy; rw [inf64] at h2; omega
  · unfold Fin64 at hy; rw [inf64] at h2; omega
theorem FV.divc {a : Option Nat} {c E F G : Nat} (ha : FV a E) (hE : E < 2098) (hc1 : rg FloatKind.f64.format c < FloatKind.f64.format.infRung) (hc0 : 0 < rg FloatKind.f64.format c)
    (hc : 2 ^ F ≤ units FloatKind.f64.format (rg FloatKind.f64.format c)) (hG : E + 1074 ≤ F + G) (hG2 : G + 1 ≤ 2098) : FV (fop .quo .f64 a (some c)) (G + 1) := by
  obtain ⟨x, rfl, hx⟩ := ha.fin hE
  obtain ⟨r, hr⟩ := fin_quo hx (show Fin64 c from hc1) hc0
  exact ⟨UB.divc ha.ub hE hc1 hc0 hc hG hG2, r, hr, floatBits_not_nan hr⟩
theorem FV.neg {v : Option Nat} {E : Nat} (h : FV v E) : FV (fneg v) E := by
  obtain ⟨hu, b, rfl, hn⟩ := h
  exact ⟨hu.neg, _, rfl, (neg_nan b).trans hn⟩
theorem fv_one : FV (some one64) 1074 := .of ub_one (by decide +kernel)
theorem fv_half : FV (some half64) 1073 := .of ub_half (by decide +kernel)
theorem fv_twoPi : FV (some twoPi64) 1077 := .of ub_twoPi (by decide +kernel)
theorem FV.mono {v : Option Nat} {E F : Nat} (h : FV v E) (hEF : E ≤ F) : FV v F := ⟨h.1.mono hEF, h.2⟩
theorem sS_fv {U : Option Nat} (hu : FV U 1086) : ∀ j : Nat, j ≤ 8 → FV (sS U j) (1074 + 12 * j)
  | 0, _ => fv_one
  | j + 1, h => by
    have ih := sS_fv hu j (by omega)
    have hc := sCB_all j (by omega)
    unfold sCB at hc
    rw [Bool.and_eq_true, Bool.and_eq_true, decide_eq_true_eq, decide_eq_true_eq, decide_eq_true_eq] at hc
    have h1 := FV.mul hu ih (G := 1086 + 12 * j) (by omega) (by omega) (by omega) (by omega)
    have h2 := FV.divc (F := 1076) (G := 1084 + 12 * j) h1 (by omega) hc.1.1 hc.1.2 hc.2 (by omega) (by omega)
    exact FV.sub fv_one h2 (by omega) (by omega) (by omega) (by omega)
theorem FV.sR {T : Option Nat} (h : FV T 1077) : FV (sR T) 1176 := by
  have h1 := FV.mul h fv_twoPi (G := 1080) (by omega) (by omega) (by omega) (by omega)
  have h2 := FV.mul h1 h1 (G := 1086) (by omega) (by omega) (by omega) (by omega)
  exact FV.mul h1 (sS_fv h2 8 (by omega)) (by omega) (by omega) (by omega) (by omega)
theorem FV.sP1 {T : Option Nat} (h : FV T 1074) : FV (sP1 T) 1075 := by
  unfold Go.Proofs.Ytecncnkbgfjdcaa.sP1
  split
  · exact FV.add h fv_one (by omega) (by omega) (by omega) (by omega)
  · exact h.mono (by omega)
theorem FV.sP2 {T : Option Nat} (h : FV T 1075) : FV (sP2 T) 1076 := by
  unfold Go.Proofs.Ytecncnkbgfjdcaa.sP2
  split
  · exact FV.sub h fv_half (by omega) (by omega) (by omega) (by omega)
  · exact h.mono (by omega)
theorem FV.sP3 {T : Option Nat} (h : FV T 1076) : FV (sP3 T) 1077 := by
  unfold Go.Proofs.Ytecncnkbgfjdcaa.sP3
  split
  · exact FV.sub fv_half h (by omega) (by omega) (by omega) (by omega)
  · exact h.mono (by omega)
/-- The sine of a part of a turn is a number. -/
theorem sineT_fv {T : Option Nat} (h : FV T 1075) : FV (sineT T) 1176 := by
  have h1 := FV.sR (FV.sP3 (FV.sP2 h))
  unfold sineT
  split
  · exact h1.neg
  · exact h1
end Go.Proofs.Ytecncnkbgfjdcaa
set_option linter.unusedVariables false
set_option linter.unusedSimpArgs false
namespace Go.Proofs.Ytecncnkbgfjdcaa
open Ieee near

theorem logS_fv {z : Nat} (h1 : 4604930618986332160 ≤ z) (h2 : z < 4609434218613702656) : FV (logS (some z)) 1074 := by
  refine ⟨logS_ub h1 h2, ?_⟩
  have hz : Fin64 z := by
    have : rg FloatKind.f64.format z ≤ z := Nat.mod_le _ _
    unfold Fin64; omega
  have hone : Fin64 4607182418800017408 := by unfold Fin64; decide +kernel
  obtain ⟨a, ha⟩ := fin_sub hz hone
  obtain ⟨b, hb⟩ := fin_add hz hone
  have hsw : FloatKind.f64.format.signWeight = 9223372036854775808 := rfl
  have pos : ∀ q, q < 9223372036854775808 → Z FloatKind.f64.format q = units FloatKind.f64.format q := by
    intro q hq
    have h1 : sgn FloatKind.f64.format q = false := by
      unfold sgn
      rw [hsw, Nat.div_eq_of_lt hq]; rfl
    have h2 : rg FloatKind.f64.format q = q := by unfold rg; rw [hsw]; exact Nat.mod_eq_of_lt hq
    unfold Z
    rw [h1, h2]; rfl
  have hge : 4607182418800017408 ≤ rg FloatKind.f64.format b := by
    refine LB.add_Z hz hone (by rw [inf64]; omega) ?_ hb
    rw [pos z (by omega), pos 4607182418800017408 (by omega)]
    omega
  have fz : FV (some z) 1075 := by
    refine FV.of ?_ hz.num
    have hl := logS_ub h1 h2
    have h3 := units_le FloatKind.f64.format (Nat.le_of_lt h2)
    intro c hc
    obtain rfl := Option.some.inj hc
    have e : rg FloatKind.f64.format z = z := by unfold rg; rw [hsw]; exact Nat.mod_eq_of_lt (by omega)
    rw [e]
    refine Nat.le_trans h3 ?_
    have : ubB (some 4609434218613702656) 1075 = true := by decide +kernel
    have h4 := ub_of_B this _ rfl
    rw [show rg FloatKind.f64.format 4609434218613702656 = 4609434218613702656 by decide +kernel] at h4
    exact h4
  have fsub := FV.sub (G := 1076) fz fv_one (by omega) (by omega) (by omega) (by omega)
  have fadd := FV.add (G := 1076) fz fv_one (by omega) (by omega) (by omega) (by omega)
  obtain ⟨a', ea, fa⟩ := fsub.fin (by omega)
  obtain ⟨b', eb, fb⟩ := fadd.fin (by omega)
  have ea2 : some a' = some a := ea.symm.trans ha
  have eb2 : some b' = some b := eb.symm.trans hb
  obtain rfl := Option.some.inj ea2
  obtain rfl := Option.some.inj eb2
  obtain ⟨r, hr⟩ := fin_quo fa fb (by omega)
  refine ⟨r, ?_, floatBits_not_nan hr⟩
  unfold logS
  rw [show fop .sub .f64 (some z) (some one64) = some a' from ea, show fop .add .f64 (some z) (some one64) = some b' from eb]
  exact hr

def numB (v : Option Nat) : Bool := match v with | none => false | some b => !(FloatKind.f64.decode b).isNaN
theorem FV.of_B {v : Option Nat} {E : Nat} (h : ubB v E = true) (h2 : numB v = true) : FV v E := by
  cases v with
  | none => cases h2
  | some b => exact ⟨ub_of_B h, b, rfl, by simpa [numB] using h2⟩
theorem num_inv : ∀ j : Nat, j < 13 → numB (fop .quo .f64 (some one64) (some (fl (25 - 2 * (j : Int))))) = true := by decide +kernel
theorem num_e : ∀ n : Nat, n < 400 → numB (some (fl ((n : Int) - 200))) = true := by decide +kernel
theorem fv_zero : FV (some 0) 1074 := FV.of_B (by decide +kernel) (by decide +kernel)
theorem logQ_fv {u : Option Nat} (hu : FV u 1074) : ∀ j : Nat, j ≤ 13 → FV (logQ u j) (1075 + j)
  | 0, _ => fv_zero.mono (by omega)
  | j + 1, h => by
    have ih := logQ_fv hu j (by omega)
    have h1 := FV.of_B (ub_inv j (by omega)) (num_inv j (by omega))
    exact FV.add (E := 1074) (F := 1075 + j) h1 (FV.mul hu ih (by omega) (by omega) (by omega) (by omega)) (by omega) (by omega) (by omega) (by omega)
theorem logV_fv {y : Nat} (h1 : 870 * 4503599627370496 ≤ y) (h2 : y < 1160 * 4503599627370496) : FV (logV y) 1090 := by
  have he : -200 ≤ logE y ∧ logE y < 200 := by unfold logE; omega
  have hz : 4604930618986332160 ≤ logZ y ∧ logZ y < 4609434218613702656 := by unfold logZ logE; omega
  have hs := logS_fv hz.1 hz.2
  have hu := FV.mul hs hs (G := 1074) (by omega) (by omega) (by omega) (by omega)
  have hq := logQ_fv hu 13 (by omega)
  have h3 := FV.mul hs hq (G := 1088) (by omega) (by omega) (by omega) (by omega)
  have h4 := FV.mul (FV.of_B ub_two (by decide +kernel)) h3 (G := 1089) (by omega) (by omega) (by omega) (by omega)
  have h5 := FV.of_B (ub_e (logE y + 200).toNat (by omega)) (num_e (logE y + 200).toNat (by omega))
  rw [show (((logE y + 200).toNat : Nat) : Int) - 200 = logE y by omega] at h5
  have h6 := FV.mul h5 (FV.of_B ub_ln2 (by decide +kernel)) (G := 1082) (by omega) (by omega) (by omega) (by omega)
  exact FV.add h4 h6 (by omega) (by omega) (by omega) (by omega)

theorem down_le (s : Bool) (n drop : Nat) : Toward.down.cut s n drop ≤ n / 2 ^ drop + 1 := by
  rw [← zero_cut s n drop]
  unfold Toward.cut
  dsimp only
  have : ∀ b : Bool, b.toNat ≤ 1 := by intro b; cases b <;> decide
  have := this (s && n % (1 <<< min drop (n.log2 + 2)) != 0)
  simp only [Bool.toNat_false]
  omega

/-- What math.Floor answers at a small number, and the int64 that it is. -/
structure Flo (t F : Nat) (n : Int) : Prop where
  fin : Fin64 t
  word : FloatKind.f64.encode ((FloatKind.f64.decode t).integral .down) = F
  int : floatToIntVal .f64 F .i64 = some n
theorem flo_bound (N m' : Nat) (hN : N = 1074) (h : m' ≤ 67108865) : m' * 2 ^ N < 4503599627370496 * 2 ^ N := Nat.mul_lt_mul_of_pos_right (by omega) (Nat.two_pow_pos N)
theorem flo_ex {t : Nat} (h : UB (some t) 1100) (hn : (FloatKind.f64.decode t).isNaN = false) : ∃ F n, Flo t F n := by
  have hf := fin_ub h (by omega) hn
  have hle : ∀ N, N = 1074 → units FloatKind.f64.format (rg FloatKind.f64.format t) ≤ 67108864 * 2 ^ N := by
    intro N hN
    have h1 := h t rfl
    refine Nat.le_trans h1 (Nat.le_of_eq ?_)
    rw [show 1100 = 26 + N by omega, Nat.pow_add]
  have hl := hle 1074 rfl
  rcases read_cases .f64 t with ⟨h1, m, e, hd, he, hu, hm⟩ | ⟨h1, _⟩ | ⟨h1, _⟩
  · rw [lp64] at he hu
    rw [bin64] at hm
    rw [show e - -1074 = e + 1074 by omega] at hu
    have hle2 : ∀ N, N = 1074 → m * 2 ^ (e + 1074).toNat ≤ 67108864 * 2 ^ N := by intro N hN; rw [hu]; exact hle N hN
    have hle3 : ∀ N, N = 1074 → m * 2 ^ (e + 1074).toNat ≤ 4503599627370496 * 2 ^ N := fun N hN => Nat.le_trans (hle2 N hN) (Nat.mul_le_mul_right (2 ^ N) (by omega))
    have hl2 := hle3 1074 rfl
    clear hl
    have hl := hle2 1074 rfl
    obtain ⟨a1, a2, a3⟩ := cut_parts 1074 m e rfl he hm hl2
    have a4 : (m <<< e.toNat) / 2 ^ (-e).toNat ≤ 67108864 := Nat.le_of_mul_le_mul_right (Nat.le_trans a2 hl) (Nat.two_pow_pos 1074)
    have a5 := down_le (sgn FloatKind.f64.format t) (m <<< e.toNat) (-e).toNat
    obtain ⟨k, hk⟩ : ∃ k, k = Toward.down.cut (sgn FloatKind.f64.format t) (m <<< e.toNat) (-e).toNat := ⟨_, rfl⟩
    rw [← hk] at a5
    have a6 : k ≤ 67108865 := by omega
    obtain ⟨q, hq⟩ := represents FloatKind.f64.format k 0 (by rw [bin64]; omega) (by rw [lp64]; omega)
    rw [lp64, show (0 - -1074 : Int).toNat = 1074 by omega] at hq
    have hq52 : q < 4841369599423283200 := by
      refine Nat.lt_of_not_le fun hle => ?_
      have h2 := units_le FloatKind.f64.format hle
      rw [hq, units_52] at h2
      exact Nat.lt_irrefl _ (Nat.lt_of_le_of_lt h2 (flo_bound 1074 k rfl a6))
    have hnear : FloatKind.f64.format.nearest (sgn FloatKind.f64.format t) k 0 = FloatKind.f64.format.word (sgn FloatKind.f64.format t) q :=
      nearest_exact FloatKind.f64.format _ k 0 q (by rw [inf64]; omega) (by rw [lp64, hq, show (-1074 - 0 : Int).toNat = 0 by omega, show (0 - -1074 : Int).toNat = 1074 by omega, Nat.pow_zero, Nat.mul_one])
    have hrg : rg FloatKind.f64.format (FloatKind.f64.format.word (sgn FloatKind.f64.format t) q) < 4841369599423283200 := by
      rw [rg_word .f64 _ q (by rw [sw64]; omega)]; exact hq52
    obtain ⟨n, tr, W, y0, z, hc⟩ := cut_all hrg
    refine ⟨_, n, hf, ?_, hc.toInt⟩
    rw [hd]
    show FloatKind.f64.format.nearest _ (Toward.down.cut _ (m <<< e.toNat) (-e).toNat) 0 = _
    rw [← hk, hnear]
  · unfold Fin64 at hf; rw [inf64] at h1; omega
  · unfold Fin64 at hf; rw [inf64] at h1; omega
end Go.Proofs.Ytecncnkbgfjdcaa
set_option linter.unusedVariables false
set_option linter.unusedSimpArgs false
namespace Go.Proofs.Ytecncnkbgfjdcaa
open Ieee near

def eight64 : Nat := 4620693217682128896
def aStep (t : Option Nat) : Option Nat := fop .quo .f64 t (fop .add .f64 (some one64) (fsqrt (fop .add .f64 (some one64) (fop .mul .f64 t t))))
def aP (u : Option Nat) : Nat → Option Nat
  | 0 => some 0
  | j + 1 => fop .sub .f64 (fop .quo .f64 (some one64) (some (fl (15 - 2 * (j : Int))))) (fop .mul .f64 u (aP u j))
def aE (t : Option Nat) : Option Nat := fop .quo .f64 (fop .mul .f64 (some eight64) (fop .mul .f64 t (aP (fop .mul .f64 t t) 8))) (some twoPi64)
def aOver (c : Bool) (e : Option Nat) : Option Nat := if c then fop .sub .f64 (some quarter64) e else e
def aLeft (c : Bool) (e : Option Nat) : Option Nat := if c then fop .sub .f64 (some half64) e else e
def aDown (c : Bool) (e : Option Nat) : Option Nat := if c then fneg e else e
def aIter (t : Option Nat) : Nat → Option Nat
  | 0 => t
  | j + 1 => aStep (aIter t j)
/-- The angle, out of the lesser part over the greater: were they turned, is x below nought, is y? -/
def aA (over xn yn : Bool) (t : Option Nat) : Option Nat := aDown yn (aLeft xn (aOver over (aE (aIter t 3))))

theorem sgn_nearest (s : Bool) (m : Nat) (e : Int) : sgn FloatKind.f64.format (FloatKind.f64.format.nearest s m e) = s := by
  rw [nearest_eq, sgn_word .f64 _ _ (by have h5 := FloatKind.f64.format.infRung_lt; have := Nat.min_le_right (rawRung FloatKind.f64.format m e) FloatKind.f64.format.infRung; omega)]

theorem mul_self_sgn {t r : Nat} (ht : Fin64 t) (h : floatBits .mul .f64 t t = some r) : sgn FloatKind.f64.format r = false := by
  obtain ⟨s, m, e, hd⟩ := ht.read
  have h' : ((FloatKind.f64.decode t).product (FloatKind.f64.decode t)).map FloatKind.f64.format.write = some r := h
  rw [hd] at h'
  obtain rfl := Option.some.inj h'
  show sgn FloatKind.f64.format (FloatKind.f64.format.nearest (s ^^ s) _ _) = false
  rw [sgn_nearest]
  cases s <;> rfl

theorem Z_pos {x : Nat} (h : sgn FloatKind.f64.format x = false) : Z FloatKind.f64.format x = units FloatKind.f64.format (rg FloatKind.f64.format x) := by
  unfold Z; rw [h]; rfl

theorem signed_pos (m u : Nat) : signed false m u = ((m <<< u : Nat) : Int) := rfl
theorem add_pos {x y r : Nat} (hx : Fin64 x) (hy : Fin64 y) (sx : sgn FloatKind.f64.format x = false) (sy : sgn FloatKind.f64.format y = false) (h : floatBits .add .f64 x y = some r) :
    sgn FloatKind.f64.format r = false ∧ rg FloatKind.f64.format x ≤ rg FloatKind.f64.format r := by
  have hx' : rg FloatKind.f64.format x < FloatKind.f64.format.infRung := hx
  have hy' : rg FloatKind.f64.format y < FloatKind.f64.format.infRung := hy
  refine ⟨?_, LB.add_Z hx' hy' (Nat.le_of_lt hx') ?_ h⟩
  · have h' : ((FloatKind.f64.decode x).sum (FloatKind.f64.decode y)).map FloatKind.f64.format.write = some r := h
    rcases read_cases .f64 x with ⟨h1, m, i, e1, hi, hm, _⟩ | ⟨h1, _⟩ | ⟨h1, _⟩
    · rcases read_cases .f64 y with ⟨h2, n, j, e2, hj, hn, _⟩ | ⟨h2, _⟩ | ⟨h2, _⟩
      · rw [e1, e2, sx, sy] at h'
        obtain rfl := Option.some.inj h'
        show sgn FloatKind.f64.format (FloatKind.f64.format.nearest (if signed false m (i - min i j).toNat + signed false n (j - min i j).toNat = 0 then false && false else decide (signed false m (i - min i j).toNat + signed false n (j - min i j).toNat < 0)) _ _) = false
        rw [sgn_nearest]
        rw [signed_pos, signed_pos]
        split
        · rfl
        · rw [decide_eq_false_iff_not]; exact Int.not_lt.2 (Int.add_nonneg (Int.natCast_nonneg _) (Int.natCast_nonneg _))
      · omega
      · omega
    · omega
    · omega
  · rw [Z_pos sx, Z_pos sy]; omega

theorem sqrt_pos {x : Nat} (hx : Fin64 x) (sx : sgn FloatKind.f64.format x = false) : ∃ r, fsqrt (some x) = some r ∧ sgn FloatKind.f64.format r = false ∧ (FloatKind.f64.decode r).isNaN = false := by
  rcases read_cases .f64 x with ⟨h1, m, i, e1, hi, hm, _⟩ | ⟨h1, _⟩ | ⟨h1, _⟩
  · rw [sx] at e1
    have key : ∀ q e, (FloatKind.f64.decode x).root 54 = some (.number false q e) → ∃ r, fsqrt (some x) = some r ∧ sgn FloatKind.f64.format r = false ∧ (FloatKind.f64.decode r).isNaN = false := by
      intro q e h
      refine ⟨FloatKind.f64.format.write (.number false q e), ?_, sgn_nearest _ _ _, write_not_nan .f64 _ rfl⟩
      show ((FloatKind.f64.decode x).root 54).map FloatKind.f64.format.write = _
      rw [h]; rfl
    by_cases hm0 : m = 0
    · refine key m i ?_
      rw [e1]; unfold Datum.root; dsimp only; rw [if_pos hm0]
    · obtain ⟨q, e, h⟩ : ∃ q e, (FloatKind.f64.decode x).root 54 = some (.number false q e) := by
        rw [e1]; unfold Datum.root; dsimp only; rw [if_neg hm0, if_neg (by decide)]; exact ⟨_, _, rfl⟩
      exact key q e h
  · unfold Fin64 at hx; rw [inf64] at h1; omega
  · unfold Fin64 at hx; rw [inf64] at h1; omega

theorem fin_one : Fin64 one64 := by unfold Fin64; decide +kernel
theorem sgn_one : sgn FloatKind.f64.format one64 = false := by decide +kernel
theorem rg_one : rg FloatKind.f64.format one64 = one64 := by decide +kernel

theorem aDen {t : Option Nat} (ht : FV t 1080) : ∃ d, fop .add .f64 (some one64) (fsqrt (fop .add .f64 (some one64) (fop .mul .f64 t t))) = some d ∧ Fin64 d ∧ one64 ≤ rg FloatKind.f64.format d := by
  have hm := FV.mul ht ht (G := 1086) (by omega) (by omega) (by omega) (by omega)
  obtain ⟨b, rfl, hb⟩ := ht.fin (by omega)
  obtain ⟨m, em, fm⟩ := hm.fin (by omega)
  have sm := mul_self_sgn hb em
  have hp := FV.add (G := 1087) fv_one hm (by omega) (by omega) (by omega) (by omega)
  obtain ⟨p, ep, fp⟩ := hp.fin (by omega)
  have sp := (add_pos fin_one fm sgn_one sm (by rw [em] at ep; exact ep)).1
  obtain ⟨s, es, ss, ns⟩ := sqrt_pos fp sp
  have hs := UB.sqrt (G := 1083) hp.ub (by omega) (by omega) (by omega)
  rw [ep, es] at hs ⊢
  have fs := FV.of hs ns
  have hd := FV.add (G := 1084) fv_one fs (by omega) (by omega) (by omega) (by omega)
  obtain ⟨d, ed, fd⟩ := hd.fin (by omega)
  have fsf := fin_ub hs (by omega) ns
  exact ⟨d, ed, fd, by rw [← rg_one]; exact (add_pos fin_one fsf sgn_one ss ed).2⟩

theorem units_one (N : Nat) (hN : N = 1074) : units FloatKind.f64.format one64 = 2 ^ N := by
  obtain ⟨M, rfl⟩ : ∃ M, N = M + 2 := ⟨N - 2, by omega⟩
  have h := (units_words M (by omega)).2.1
  rw [Nat.pow_add]
  rw [show one64 = 4607182418800017408 from rfl, h, Nat.mul_comm]

theorem div_step (A B C D : Nat) (h1 : A ≤ D) (h2 : B ≤ C) : A * B ≤ C * D := by
  rw [Nat.mul_comm C D]; exact Nat.mul_le_mul h1 h2

theorem fv_step {t : Option Nat} {E : Nat} (ht : FV t E) (hE : E ≤ 1080) : FV (aStep t) (E + 1) := by
  obtain ⟨d, ed, fd, hd⟩ := aDen (ht.mono hE)
  obtain ⟨b, rfl, hb⟩ := ht.fin (by omega)
  have hd0 : 0 < rg FloatKind.f64.format d := by have : 0 < one64 := by decide
                                                 omega
  obtain ⟨r, hr⟩ := fin_quo hb fd hd0
  unfold aStep
  rw [ed]
  refine ⟨?_, r, hr, floatBits_not_nan hr⟩
  have := UB.div_of (G := E) (by omega) ht.ub (by omega) (show rg FloatKind.f64.format d < FloatKind.f64.format.infRung from fd) hd0 ?_ hr
  · rw [show fop .quo .f64 (some b) (some d) = some r from hr]; exact this
  · have h1 := units_le FloatKind.f64.format hd
    rw [units_one 1074 rfl] at h1
    exact div_step _ _ _ _ (ht.ub b rfl) h1

theorem fv_iter {t : Option Nat} (ht : FV t 1075) : ∀ j : Nat, j ≤ 3 → FV (aIter t j) (1075 + j)
  | 0, _ => ht
  | j + 1, h => fv_step (E := 1075 + j) (fv_iter ht j (by omega)) (by omega)

theorem ang_inv : ∀ j : Nat, j < 8 → ubB (fop .quo .f64 (some one64) (some (fl (15 - 2 * (j : Int))))) 1074 = true := by decide +kernel
theorem ang_num : ∀ j : Nat, j < 8 → numB (fop .quo .f64 (some one64) (some (fl (15 - 2 * (j : Int))))) = true := by decide +kernel
theorem aP_fv {u : Option Nat} (hu : FV u 1082) : ∀ j : Nat, j ≤ 8 → FV (aP u j) (1074 + 9 * j)
  | 0, _ => fv_zero.mono (by omega)
  | j + 1, h => by
    have ih := aP_fv hu j (by omega)
    have h1 := FV.of_B (ang_inv j (by omega)) (ang_num j (by omega))
    exact FV.sub h1 (FV.mul (G := 1082 + 9 * j) hu ih (by omega) (by omega) (by omega) (by omega)) (by omega) (by omega) (by omega) (by omega)
def twoPiB : Bool := decide (rg FloatKind.f64.format twoPi64 < FloatKind.f64.format.infRung) && decide (0 < rg FloatKind.f64.format twoPi64) && decide (2 ^ 1076 ≤ units FloatKind.f64.format (rg FloatKind.f64.format twoPi64))
theorem twoPiB_yes : twoPiB = true := by decide +kernel
theorem aE_fv {t : Option Nat} (ht : FV t 1078) : FV (aE t) 1160 := by
  have hu := FV.mul ht ht (G := 1082) (by omega) (by omega) (by omega) (by omega)
  have hp := aP_fv hu 8 (by omega)
  have h1 := FV.mul ht hp (G := 1150) (by omega) (by omega) (by omega) (by omega)
  have h2 := FV.mul (FV.of_B (E := 1077) (by decide +kernel) (by decide +kernel)) h1 (G := 1153) (a := some eight64) (by omega) (by omega) (by omega) (by omega)
  have hc := twoPiB_yes
  unfold twoPiB at hc
  rw [Bool.and_eq_true, Bool.and_eq_true, decide_eq_true_eq, decide_eq_true_eq, decide_eq_true_eq] at hc
  exact FV.divc (F := 1076) (G := 1159) h2 (by omega) hc.1.1 hc.1.2 hc.2 (by omega) (by omega)
theorem aA_fv {t : Option Nat} (ht : FV t 1075) (o x y : Bool) : FV (aA o x y t) 1162 := by
  have h1 := aE_fv (fv_iter ht 3 (by omega))
  have h2 : FV (aOver o (aE (aIter t 3))) 1161 := by
    unfold aOver
    split
    · exact FV.sub (FV.of_B (E := 1072) (by decide +kernel) (by decide +kernel)) h1 (by omega) (by omega) (by omega) (by omega)
    · exact h1.mono (by omega)
  have h3 : FV (aLeft x (aOver o (aE (aIter t 3)))) 1162 := by
    unfold aLeft
    split
    · exact FV.sub fv_half h2 (by omega) (by omega) (by omega) (by omega)
    · exact h2.mono (by omega)
  unfold aA aDown
  split
  · exact h3.neg
  · exact h3
theorem fits_aA {t : Option Nat} (ht : FV t 1075) (o x y : Bool) : fitsNarrow (aA o x y t) := fits_of_UB (aA_fv ht o x y).ub (by omega)

/-- The lesser part over the greater is a number, at most 2. -/
theorem a0_fv {a b : Nat} (ha : Fin64 a) (hb : Fin64 b) (hub : UB (some b) 1300) (h0 : 0 < rg FloatKind.f64.format a) (hle : rg FloatKind.f64.format b ≤ rg FloatKind.f64.format a) : FV (fop .quo .f64 (some b) (some a)) 1075 := by
  obtain ⟨r, hr⟩ := fin_quo hb ha h0
  refine ⟨?_, r, hr, floatBits_not_nan hr⟩
  rw [show fop .quo .f64 (some b) (some a) = some r from hr]
  exact UB.div_of (G := 1074) (E := 1300) (by omega) hub (by omega) (show rg FloatKind.f64.format a < FloatKind.f64.format.infRung from ha) h0 (Nat.mul_le_mul_right _ (units_le _ hle)) hr

theorem a_ge : ∀ j : Nat, j < 8 → (FloatKind.f64.format.order (fl (15 - 2 * (j : Int))) 4607182418800017408 == some .gt || FloatKind.f64.format.order (fl (15 - 2 * (j : Int))) 4607182418800017408 == some .eq) = true := by decide +kernel
theorem a_end : (FloatKind.f64.format.order (fl (15 - 2 * ((8 : Nat) : Int))) 4607182418800017408 == some .gt || FloatKind.f64.format.order (fl (15 - 2 * ((8 : Nat) : Int))) 4607182418800017408 == some .eq) = false := by decide +kernel
theorem a_dec : ∀ j : Nat, j < 8 → floatBits .sub .f64 (fl (15 - 2 * (j : Int))) 4611686018427387904 = some (fl (15 - 2 * ((j + 1 : Nat) : Int))) := by decide +kernel
theorem a_val : ∀ j : Nat, j < 9 → val .f64 (fl (15 - 2 * (j : Int))) = some (fl (15 - 2 * (j : Int))) := by decide +kernel
theorem a_start : 4624633867356078080 = fl (15 - 2 * ((0 : Nat) : Int)) := by decide +kernel
end Go.Proofs.Ytecncnkbgfjdcaa
