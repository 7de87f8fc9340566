/- Values that are finite and bounded: the sine is a number. -/
import Derived.Test.YtecglaggmheokaaFSine2
set_option linter.unusedVariables false
set_option linter.unusedSimpArgs false
namespace Go.Proofs.Ytecglaggmheokaa
open Ieee near

/-- A value that is a number, at most 2^(E - 1074). -/
def FV (v : Option Nat) (E : Nat) : Prop := UB v E ∧ ∃ b, v = some b ∧ (FloatKind.f64.decode b).isNaN = false
theorem FV.ub {v : Option Nat} {E : Nat} (h : FV v E) : UB v E := h.1
theorem FV.fin {v : Option Nat} {E : Nat} (h : FV v E) (hE : E < 2098) : ∃ b, v = some b ∧ Fin64 b := by
  obtain ⟨hu, b, rfl, hn⟩ := h
  exact ⟨b, rfl, fin_ub hu hE hn⟩
theorem FV.of {x E : Nat} (h : UB (some x) E) (hn : (FloatKind.f64.decode x).isNaN = false) : FV (some x) E := ⟨h, x, rfl, hn⟩
theorem fin_mul {x y : Nat} (hx : Fin64 x) (hy : Fin64 y) : ∃ r, floatBits .mul .f64 x y = some r := by
  obtain ⟨s, m, e, h1⟩ := hx.read
  obtain ⟨t, n, f, h2⟩ := hy.read
  show ∃ r, ((FloatKind.f64.decode x).product (FloatKind.f64.decode y)).map FloatKind.f64.format.write = some r
  rw [h1, h2]
  exact ⟨_, rfl⟩
theorem FV.mul {a b : Option Nat} {E F G : Nat} (ha : FV a E) (hb : FV b F) (hE : E < 2098) (hF : F < 2098) (hG : E + F ≤ G + 1074) (hG2 : G ≤ 2098) : FV (fop .mul .f64 a b) G := by
  obtain ⟨x, rfl, hx⟩ := ha.fin hE
  obtain ⟨y, rfl, hy⟩ := hb.fin hF
  obtain ⟨r, hr⟩ := fin_mul hx hy
  exact ⟨UB.mul ha.ub hb.ub hE hF hG hG2, r, hr, floatBits_not_nan hr⟩
theorem FV.add {a b : Option Nat} {E F G : Nat} (ha : FV a E) (hb : FV b F) (hE : E < 2098) (hF : F < 2098) (hG : max E F < G) (hG2 : G ≤ 2098) : FV (fop .add .f64 a b) G := by
  obtain ⟨x, rfl, hx⟩ := ha.fin hE
  obtain ⟨y, rfl, hy⟩ := hb.fin hF
  obtain ⟨r, hr⟩ := fin_add hx hy
  exact ⟨UB.add ha.ub hb.ub hE hF hG hG2, r, hr, floatBits_not_nan hr⟩
theorem FV.sub {a b : Option Nat} {E F G : Nat} (ha : FV a E) (hb : FV b F) (hE : E < 2098) (hF : F < 2098) (hG : max E F < G) (hG2 : G ≤ 2098) : FV (fop .sub .f64 a b) G := by
  obtain ⟨x, rfl, hx⟩ := ha.fin hE
  obtain ⟨y, rfl, hy⟩ := hb.fin hF
  obtain ⟨r, hr⟩ := fin_sub hx hy
  exact ⟨UB.sub ha.ub hb.ub hE hF hG hG2, r, hr, floatBits_not_nan hr⟩
theorem fin_quo {x y : Nat} (hx : Fin64 x) (hy : Fin64 y) (h0 : 0 < rg FloatKind.f64.format y) : ∃ r, floatBits .quo .f64 x y = some r := by
  obtain ⟨s, m, e, h1⟩ := hx.read
  rcases read_cases .f64 y with ⟨_, n, f, h2, hf, hu, _⟩ | ⟨h2, _⟩ | ⟨h2, _⟩
  · have hp := units_pos (k := .f64) h0
    have hn : n ≠ 0 := by
      intro h
      subst h
      have := zero_mul_of hu.symm
      omega
    have hd : ((FloatKind.f64.decode x).quotient (2 * FloatKind.f64.format.fractionBits + 2) (FloatKind.f64.decode y)).isSome = true := by
      rw [h1, h2]
      unfold Datum.quotient
      dsimp only
      rw [if_neg hn]
      rfl
    have : (floatBits .quo .f64 x y).isSome = true := by
      show (((FloatKind.f64.decode x).quotient _ (FloatKind.f64.decode y)).map FloatKind.f64.format.write).isSome = true
      rw [Option.isSome_map, h1, h2]
      unfold Datum.quotient
      dsimp only
      rw [if_neg hn]
      rfl
    exact Option.isSome_iff_exists.1 this
  · unfold Fin64 at hy; rw [inf64] at h2; omega
  · unfold Fin64 at hy; rw [inf64] at h2; omega
theorem FV.divc {a : Option Nat} {c E F G : Nat} (ha : FV a E) (hE : E < 2098) (hc1 : rg FloatKind.f64.format c < FloatKind.f64.format.infRung) (hc0 : 0 < rg FloatKind.f64.format c)
    (hc : 2 ^ F ≤ units FloatKind.f64.format (rg FloatKind.f64.format c)) (hG : E + 1074 ≤ F + G) (hG2 : G + 1 ≤ 2098) : FV (fop .quo .f64 a (some c)) (G + 1) := by
  obtain ⟨x, rfl, hx⟩ := ha.fin hE
  obtain ⟨r, hr⟩ := fin_quo hx (show Fin64 c from hc1) hc0
  exact ⟨UB.divc ha.ub hE hc1 hc0 hc hG hG2, r, hr, floatBits_not_nan hr⟩
theorem FV.neg {v : Option Nat} {E : Nat} (h : FV v E) : FV (fneg v) E := by
  obtain ⟨hu, b, rfl, hn⟩ := h
  exact ⟨hu.neg, _, rfl, (neg_nan b).trans hn⟩
theorem fv_one : FV (some one64) 1074 := .of ub_one (by decide +kernel)
theorem fv_half : FV (some half64) 1073 := .of ub_half (by decide +kernel)
theorem fv_twoPi : FV (some twoPi64) 1077 := .of ub_twoPi (by decide +kernel)
theorem FV.mono {v : Option Nat} {E F : Nat} (h : FV v E) (hEF : E ≤ F) : FV v F := ⟨h.1.mono hEF, h.2⟩
theorem sS_fv {U : Option Nat} (hu : FV U 1086) : ∀ j : Nat, j ≤ 8 → FV (sS U j) (1074 + 12 * j)
  | 0, _ => fv_one
  | j + 1, h => by
    have ih := sS_fv hu j (by omega)
    have hc := sCB_all j (by omega)
    unfold sCB at hc
    rw [Bool.and_eq_true, Bool.and_eq_true, decide_eq_true_eq, decide_eq_true_eq, decide_eq_true_eq] at hc
    have h1 := FV.mul hu ih (G := 1086 + 12 * j) (by omega) (by omega) (by omega) (by omega)
    have h2 := FV.divc (F := 1076) (G := 1084 + 12 * j) h1 (by omega) hc.1.1 hc.1.2 hc.2 (by omega) (by omega)
    exact FV.sub fv_one h2 (by omega) (by omega) (by omega) (by omega)
theorem FV.sR {T : Option Nat} (h : FV T 1077) : FV (sR T) 1176 := by
  have h1 := FV.mul h fv_twoPi (G := 1080) (by omega) (by omega) (by omega) (by omega)
  have h2 := FV.mul h1 h1 (G := 1086) (by omega) (by omega) (by omega) (by omega)
  exact FV.mul h1 (sS_fv h2 8 (by omega)) (by omega) (by omega) (by omega) (by omega)
theorem FV.sP1 {T : Option Nat} (h : FV T 1074) : FV (sP1 T) 1075 := by
  unfold Go.Proofs.Ytecglaggmheokaa.sP1
  split
  · exact FV.add h fv_one (by omega) (by omega) (by omega) (by omega)
  · exact h.mono (by omega)
theorem FV.sP2 {T : Option Nat} (h : FV T 1075) : FV (sP2 T) 1076 := by
  unfold Go.Proofs.Ytecglaggmheokaa.sP2
  split
  · exact FV.sub h fv_half (by omega) (by omega) (by omega) (by omega)
  · exact h.mono (by omega)
theorem FV.sP3 {T : Option Nat} (h : FV T 1076) : FV (sP3 T) 1077 := by
  unfold Go.Proofs.Ytecglaggmheokaa.sP3
  split
  · exact FV.sub fv_half h (by omega) (by omega) (by omega) (by omega)
  · exact h.mono (by omega)
/-- The sine of a part of a turn is a number. -/
theorem sineT_fv {T : Option Nat} (h : FV T 1075) : FV (sineT T) 1176 := by
  have h1 := FV.sR (FV.sP3 (FV.sP2 h))
  unfold sineT
  split
  · exact h1.neg
  · exact h1
end Go.Proofs.Ytecglaggmheokaa
