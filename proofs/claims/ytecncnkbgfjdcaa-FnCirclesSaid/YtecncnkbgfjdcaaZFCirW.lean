/- The float32 words of n / 64: their products and their float64 words. -/
import Derived.Test.YtecncnkbgfjdcaaZFCirD
import Derived.Test.YtecncnkbgfjdcaaZFCirF
set_option linter.unusedVariables false
set_option linter.unusedSimpArgs false
namespace Go.Proofs.Ytecncnkbgfjdcaa
open Ieee near

/-- The float32 word of n / 64. -/
def w32 (n : Nat) : Nat := (120 + n.log2) * 8388608 + n * 2 ^ (23 - n.log2)
theorem log_bounds {n D : Nat} (h0 : n ≠ 0) (hD : n.log2 ≤ D) : 2 ^ D ≤ n * 2 ^ (D - n.log2) ∧ n * 2 ^ (D - n.log2) < 2 * 2 ^ D := by
  have l1 := Nat.log2_self_le h0
  have l2 : n < 2 ^ (n.log2 + 1) := Nat.lt_log2_self
  have e1 : 2 ^ n.log2 * 2 ^ (D - n.log2) = 2 ^ D := by rw [← Nat.pow_add, show n.log2 + (D - n.log2) = D by omega]
  have e2 := Nat.mul_le_mul_right (2 ^ (D - n.log2)) l1
  have e3 := Nat.mul_lt_mul_of_pos_right l2 (Nat.two_pow_pos (D - n.log2))
  rw [Nat.pow_succ, Nat.mul_right_comm, e1] at e3
  rw [e1] at e2
  omega
theorem b32' : FloatKind.f32.format.binade = 8388608 := rfl
/-- A positive word whose value is n / 64. -/
structure Sx (k : FloatKind) (x n : Nat) : Prop where
  lt : x < k.format.infRung
  un : units k.format x = n * 2 ^ (Lk k - 6)
theorem w32_sx {n : Nat} (h0 : n ≠ 0) (h1 : n < 65536) : Sx .f32 (w32 n) n := by
  have hb : n.log2 < 16 := (Nat.log2_lt h0).2 h1
  obtain ⟨b1, b2⟩ := log_bounds (D := 23) h0 (by omega)
  refine ⟨?_, ?_⟩
  · unfold w32; rw [inf32]; omega
  · have := units_at FloatKind.f32.format (120 + n.log2) (n * 2 ^ (23 - n.log2)) (by rw [b32']; omega) (.inr (by rw [b32']; omega))
    rw [b32'] at this
    unfold w32
    rw [this, Nat.mul_assoc, ← Nat.pow_add]
    congr 2
    show _ = 149 - 6
    omega
theorem wd_sx {n : Nat} (h0 : n ≠ 0) (h1 : n < 65536) : Sx .f64 (wd n) n := by
  have hb : n.log2 < 16 := (Nat.log2_lt h0).2 h1
  obtain ⟨b1, b2⟩ := log_bounds (D := 52) h0 (by omega)
  refine ⟨?_, ?_⟩
  · unfold wd; rw [inf64]; omega
  · have := units_at FloatKind.f64.format (1016 + n.log2) (n * 2 ^ (52 - n.log2)) (by rw [bin64]; omega) (.inr (by rw [bin64]; omega))
    rw [bin64] at this
    unfold wd
    rw [this, Nat.mul_assoc, ← Nat.pow_add]
    congr 2
    show _ = 1074 - 6
    omega
theorem Sx.sgn {k : FloatKind} {x n : Nat} (h : Sx k x n) : sgn k.format x = false ∧ rg k.format x = x := by
  have h1 := h.lt
  have h2 := inf_lt_sign k
  refine ⟨?_, Nat.mod_eq_of_lt (by omega)⟩
  unfold near.sgn
  rw [Nat.div_eq_of_lt (by omega)]
  rfl
theorem Sx.read {k : FloatKind} {x n : Nat} (h : Sx k x n) : ∃ m a : Nat, k.decode x = .number false m ((a : Int) - ((Lk k : Nat) : Int)) ∧ m * 2 ^ a = n * 2 ^ (Lk k - 6) := by
  obtain ⟨h1, h2⟩ := h.sgn
  have hl := h.lt
  rcases read_cases k x with ⟨_, m, e, e1, he, hm, _⟩ | ⟨h3, _⟩ | ⟨h3, _⟩
  · rw [lp_eq] at he hm
    rw [h1] at e1
    rw [h2, h.un] at hm
    refine ⟨m, (e - -((Lk k : Nat) : Int)).toNat, ?_, hm⟩
    rw [e1]; congr 1; omega
  · rw [h2] at h3; omega
  · rw [h2] at h3; omega
/-- What is rounded is a number of the format: a word. -/
theorem near_sx {k : FloatKind} {q n mag c d : Nat} (place : Int) (h : Sx k q n) (hm : mag * 2 ^ c = n * 2 ^ (Lk k - 6) * 2 ^ d) (hp : place + ((Lk k : Nat) : Int) = (c : Int) - (d : Int)) : k.format.nearest false mag place = q := by
  rw [nearest_exact k.format false mag place q (Nat.le_of_lt h.lt) ?_]
  · rfl
  · rw [lp_eq, h.un, show (place - -((Lk k : Nat) : Int)).toNat = c - d by omega, show (-((Lk k : Nat) : Int) - place).toNat = d - c by omega]
    exact shift_eq hm
theorem Sx.mul {x y q a b n : Nat} (hx : Sx .f32 x a) (hy : Sx .f32 y b) (hq : Sx .f32 q n) (hn : a * b = 64 * n) : floatBits .mul .f32 x y = some q := by
  obtain ⟨u, c, e1, hu⟩ := hx.read
  obtain ⟨v, d, e2, hv⟩ := hy.read
  have h1 : floatBits .mul .f32 x y = some (FloatKind.f32.format.nearest false (u * v) ((c : Int) - ((Lk .f32 : Nat) : Int) + ((d : Int) - ((Lk .f32 : Nat) : Int)))) := by
    show (((FloatKind.f32.decode x).product (FloatKind.f32.decode y)).map FloatKind.f32.format.write) = _
    rw [e1, e2]; rfl
  rw [h1, near_sx (c := c + d) (d := 149) _ hq ?_ (by show _ + (149 : Int) = _; rw [show ((Lk .f32 : Nat) : Int) = 149 from rfl]; omega)]
  rw [Nat.pow_add, Nat.mul_mul_mul_comm, hu, hv, Nat.mul_mul_mul_comm, hn]
  show 64 * n * (2 ^ 143 * 2 ^ 143) = n * 2 ^ 143 * 2 ^ 149
  rw [show (2 : Nat) ^ 149 = 64 * 2 ^ 143 from by decide]
  generalize 2 ^ 143 = P
  grind
theorem Sx.wide {x q n : Nat} (hx : Sx .f32 x n) (hq : Sx .f64 q n) : wid x = q := by
  obtain ⟨u, c, e1, hu⟩ := hx.read
  unfold wid
  rw [e1]
  obtain ⟨E, hE⟩ : ∃ E, E = 925 := ⟨_, rfl⟩
  refine near_sx (c := c + E) (d := 0) _ hq ?_ (by show _ + (1074 : Int) = _; rw [show ((Lk .f32 : Nat) : Int) = 149 from rfl]; omega)
  rw [Nat.pow_add, ← Nat.mul_assoc, hu, Nat.pow_zero, Nat.mul_one, Nat.mul_assoc, ← Nat.pow_add]
  exact congrArg (fun t => n * 2 ^ t) (by rw [hE]; decide)
theorem Sx.pos {x n : Nat} (hx : Sx .f32 x n) (hn : n ≠ 0) : (FloatKind.f32.decode x).isNaN = false ∧ finB (val .f32 x) = true ∧ leZ x = false ∧ x < 4294967296 := by
  obtain ⟨u, c, e1, hu⟩ := hx.read
  obtain ⟨h1, h2⟩ := hx.sgn
  have hl := hx.lt
  rw [inf32] at hl
  have hN : (FloatKind.f32.decode x).isNaN = false := by rw [e1]; rfl
  have hx0 : x ≠ 0 := by
    intro e
    have h3 := hx.un
    rw [e, units_zero] at h3
    exact absurd h3.symm (Nat.mul_ne_zero hn (Nat.ne_of_gt (Nat.two_pow_pos _)))
  refine ⟨hN, finB_num hN (by rw [h2]; exact hl), ?_, by omega⟩
  unfold leZ
  rw [order_lt_zero .f32 hN, order_eq_zero .f32 hN, h1, h2, decide_eq_false hx0]
  simp
end Go.Proofs.Ytecncnkbgfjdcaa
