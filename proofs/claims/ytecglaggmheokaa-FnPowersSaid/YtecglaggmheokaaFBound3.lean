/- Bounds by powers of two: quotients by a constant, roots; what may be narrowed. -/
import Derived.Test.YtecglaggmheokaaFBound2
set_option linter.unusedVariables false
set_option linter.unusedSimpArgs false
namespace Go.Proofs.Ytecglaggmheokaa
open Ieee near

theorem UB.divc {a : Option Nat} {c E F G : Nat} (ha : UB a E) (hE : E < 2098) (hc1 : rg FloatKind.f64.format c < FloatKind.f64.format.infRung) (hc0 : 0 < rg FloatKind.f64.format c)
    (hc : 2 ^ F ≤ units FloatKind.f64.format (rg FloatKind.f64.format c)) (hG : E + 1074 ≤ F + G) (hG2 : G + 1 ≤ 2098) : UB (fop .quo .f64 a (some c)) (G + 1) := by
  intro r hr
  obtain ⟨x, y, rfl, hy, h⟩ := fop_some hr
  obtain rfl := Option.some.inj hy
  refine UB.div_of hG2 ha hE hc1 hc0 ?_ h r rfl
  refine Nat.le_trans (Nat.mul_le_mul_right _ (ha x rfl)) ?_
  refine Nat.le_trans ?_ (Nat.mul_le_mul_right _ hc)
  rw [← Nat.pow_add 2 E 1074, ← Nat.pow_add]
  exact two_pow_le hG

/-- The square root on values. -/
def fsqrt (a : Option Nat) : Option Nat := a.bind fun x => FloatKind.f64.format.sqrt x

theorem rootFrom_sq (n : Nat) : ∀ (t r : Nat), r * r ≤ n → Datum.rootFrom n t r * Datum.rootFrom n t r ≤ n := by
  intro t
  induction t with
  | zero => intro r h; exact h
  | succ t ih =>
    intro r h
    unfold Datum.rootFrom
    dsimp only
    refine ih _ ?_
    split
    · assumption
    · exact h

theorem rootFrom_ge (n : Nat) : ∀ (t r : Nat), r ≤ Datum.rootFrom n t r := by
  intro t
  induction t with
  | zero => intro r; exact Nat.le_refl _
  | succ t ih =>
    intro r
    unfold Datum.rootFrom
    dsimp only
    refine Nat.le_trans ?_ (ih _)
    split
    · exact Nat.le_add_right _ _
    · exact Nat.le_refl _

theorem rootFrom_pos (n : Nat) (hn : 1 ≤ n) : ∀ t, 1 ≤ Datum.rootFrom n (t + 1) 0 := by
  intro t
  induction t with
  | zero =>
    unfold Datum.rootFrom Datum.rootFrom
    dsimp only
    rw [if_pos (by simpa using hn)]
    simp
  | succ t ih =>
    unfold Datum.rootFrom
    dsimp only
    split
    · refine Nat.le_trans ?_ (rootFrom_ge n _ _)
      rw [Nat.zero_add, Nat.one_shiftLeft]
      exact Nat.two_pow_pos _
    · exact ih

theorem sq_le_pow {a h : Nat} (h2 : a * a ≤ 2 ^ (2 * h)) : a ≤ 2 ^ h := by
  by_cases hc : a ≤ 2 ^ h
  · exact hc
  · exfalso
    have h3 : 2 ^ h + 1 ≤ a := by omega
    have h4 := Nat.mul_le_mul h3 h3
    have h5 : 2 ^ (2 * h) = 2 ^ h * 2 ^ h := by rw [Nat.two_mul, Nat.pow_add]
    rw [h5] at h2
    clear h5
    generalize 2 ^ h = P at *
    have h6 : (P + 1) * (P + 1) = P * P + P + P + 1 := by rw [Nat.add_mul, Nat.mul_add]; omega
    omega

theorem UB.sqrt {a : Option Nat} {E G : Nat} (ha : UB a E) (hE : E < 2098) (hG : E + 1077 ≤ 2 * G) (hG2 : G ≤ 2098) : UB (fsqrt a) G := by
  intro r hr
  obtain ⟨x, rfl, h⟩ := Option.bind_eq_some_iff.1 hr
  have hn : (FloatKind.f64.decode x).isNaN = false := by
    cases hn : (FloatKind.f64.decode x).isNaN with
    | false => rfl
    | true =>
      exfalso
      have h' : ((FloatKind.f64.decode x).root 54).map FloatKind.f64.format.write = some r := h
      cases hd : FloatKind.f64.decode x with
      | nan s f => rw [hd] at h'; cases h'
      | number s m e => rw [hd] at hn; cases hn
      | infinity s => rw [hd] at hn; cases hn
  obtain ⟨m, i, e1, hi, hm⟩ := ha.read hE hn
  have h' : ((FloatKind.f64.decode x).root 54).map FloatKind.f64.format.write = some r := h
  rw [e1] at h'
  unfold Datum.root at h'
  dsimp only at h'
  by_cases hm0 : m = 0
  · subst hm0
    rw [if_pos rfl] at h'
    obtain rfl := Option.some.inj h'
    refine nearest_ub _ _ _ G hG2 ?_ _ rfl
    rw [Nat.zero_mul]; exact Nat.zero_le _
  · rw [if_neg hm0] at h'
    split at h'
    · cases h'
    · obtain rfl := Option.some.inj h'
      generalize hmore0 : 2 * 54 - m.log2 = more0
      generalize hmore : more0 + ((i - more0) % 2).toNat = more
      have heven : (i - more) % 2 = 0 := by omega
      have hstick : ∀ b : Bool, b.toNat ≤ 1 := fun b => by cases b <;> decide
      generalize hw : Datum.rootFrom (m <<< more) ((m <<< more).log2 / 2 + 1) 0 = whole
      have hs := hstick (whole * whole != m <<< more)
      generalize (whole * whole != m <<< more).toNat = st at hs ⊢
      have hn1 : 1 ≤ m <<< more := by
        rw [Nat.shiftLeft_eq]; exact Nat.mul_pos (Nat.pos_of_ne_zero hm0) (Nat.two_pow_pos _)
      have hw1 : 1 ≤ whole := by rw [← hw]; exact rootFrom_pos _ hn1 _
      have hw2 : whole * whole ≤ m * 2 ^ more := by
        rw [← hw, ← Nat.shiftLeft_eq]; exact rootFrom_sq _ _ _ (Nat.zero_le _)
      refine nearest_ub _ _ _ G hG2 ?_ _ rfl
      have hmag : 2 * whole + st ≤ 2 ^ 2 * whole := by omega
      refine Nat.le_trans (Nat.mul_le_mul_right _ hmag) ?_
      obtain ⟨p, hp⟩ : ∃ p : Int, i - more = 2 * p := ⟨(i - more) / 2, by omega⟩
      rw [show (i - (more : Int)) / 2 = p by omega]
      -- whole^2 * 2^(i+1074) ≤ 2^(E+more)
      have h1 : whole * whole * 2 ^ (i + 1074).toNat ≤ 2 ^ (E + more) := by
        refine Nat.le_trans (Nat.mul_le_mul_right _ hw2) ?_
        rw [Nat.mul_right_comm, Nat.pow_add]
        exact Nat.mul_le_mul_right _ hm
      -- so the exponent is no less than nought
      have h2 : (i + 1074).toNat ≤ E + more := by
        have h3 : 1 * 2 ^ (i + 1074).toNat ≤ whole * whole * 2 ^ (i + 1074).toNat := Nat.mul_le_mul_right _ (Nat.mul_pos hw1 hw1)
        rw [Nat.one_mul] at h3
        exact (Nat.pow_le_pow_iff_right (by omega)).1 (Nat.le_trans h3 h1)
      obtain ⟨D, hD⟩ : ∃ D, E + more = D + (i + 1074).toNat := ⟨E + more - (i + 1074).toNat, by omega⟩
      have h4 : whole * whole ≤ 2 ^ D := by
        rw [hD, Nat.pow_add] at h1
        exact Nat.le_of_mul_le_mul_right h1 (Nat.two_pow_pos _)
      have h5 : whole ≤ 2 ^ ((D + 1) / 2) := sq_le_pow (Nat.le_trans h4 (two_pow_le (by omega)))
      refine Nat.le_trans (Nat.mul_le_mul_right _ (Nat.mul_le_mul_left _ h5)) ?_
      rw [← Nat.pow_add, ← Nat.pow_add, ← Nat.pow_add]
      exact two_pow_le (by omega)

/-- What is at most 2^127 stays finite when narrowed. -/
theorem fits_of_UB {v : Option Nat} {E : Nat} (h : UB v E) (hE : E ≤ 1201) : fitsNarrow v := by
  intro b hb hn _
  subst hb
  obtain ⟨m, e, e1, he, hm⟩ := h.read (by omega) hn
  rw [e1]
  rw [inf_iff, decide_eq_false_iff_not]
  show ¬ rg FloatKind.f32.format (FloatKind.f32.format.nearest _ m e) = _
  obtain ⟨N, hN⟩ : ∃ N : Nat, N = 276 := ⟨_, rfl⟩
  obtain ⟨q, hq, hu⟩ := rung_pow32 N (by omega) (by omega)
  have hr : rawRung FloatKind.f32.format m e ≤ q := by
    refine raw_le FloatKind.f32.format m e q ?_
    rw [lp32, hu]
    by_cases hc : -149 ≤ e
    · rw [show (-149 - e).toNat = 0 by omega, Nat.pow_zero, Nat.mul_one]
      refine Nat.le_of_mul_le_mul_right (c := 2 ^ 925) ?_ (Nat.two_pow_pos _)
      rw [Nat.mul_assoc, ← Nat.pow_add 2 _ 925, ← Nat.pow_add 2 N 925, show (e - -149).toNat + 925 = (e + 1074).toNat by omega]
      exact Nat.le_trans hm (two_pow_le (by omega))
    · rw [show (e - -149).toNat = 0 by omega, Nat.pow_zero, Nat.mul_one]
      refine Nat.le_of_mul_le_mul_right (c := 2 ^ (e + 1074).toNat) ?_ (Nat.two_pow_pos _)
      rw [Nat.mul_assoc, ← Nat.pow_add, ← Nat.pow_add]
      exact Nat.le_trans hm (two_pow_le (by omega))
  rw [nearest_eq, rg_word .f32 _ _ (by have h1 := FloatKind.f32.format.infRung_lt; have := Nat.min_le_right (rawRung FloatKind.f32.format m e) FloatKind.f32.format.infRung; omega)]
  omega
end Go.Proofs.Ytecglaggmheokaa
