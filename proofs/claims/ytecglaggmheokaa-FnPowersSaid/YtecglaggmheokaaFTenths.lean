/- The logarithm is a number; the floor of a small number, as an int64. -/
import Derived.Test.YtecglaggmheokaaFSine3
import Derived.Test.YtecglaggmheokaaFLogB
set_option linter.unusedVariables false
set_option linter.unusedSimpArgs false
namespace Go.Proofs.Ytecglaggmheokaa
open Ieee near

theorem logS_fv {z : Nat} (h1 : 4604930618986332160 ≤ z) (h2 : z < 4609434218613702656) : FV (logS (some z)) 1074 := by
  refine ⟨logS_ub h1 h2, ?_⟩
  have hz : Fin64 z := by
    have : rg FloatKind.f64.format z ≤ z := Nat.mod_le _ _
    unfold Fin64; omega
  have hone : Fin64 4607182418800017408 := by unfold Fin64; decide +kernel
  obtain ⟨a, ha⟩ := fin_sub hz hone
  obtain ⟨b, hb⟩ := fin_add hz hone
  have hsw : FloatKind.f64.format.signWeight = 9223372036854775808 := rfl
  have pos : ∀ q, q < 9223372036854775808 → Z FloatKind.f64.format q = units FloatKind.f64.format q := by
    intro q hq
    have h1 : sgn FloatKind.f64.format q = false := by
      unfold sgn
      rw [hsw, Nat.div_eq_of_lt hq]; rfl
    have h2 : rg FloatKind.f64.format q = q := by unfold rg; rw [hsw]; exact Nat.mod_eq_of_lt hq
    unfold Z
    rw [h1, h2]; rfl
  have hge : 4607182418800017408 ≤ rg FloatKind.f64.format b := by
    refine LB.add_Z hz hone (by rw [inf64]; omega) ?_ hb
    rw [pos z (by omega), pos 4607182418800017408 (by omega)]
    omega
  have fz : FV (some z) 1075 := by
    refine FV.of ?_ hz.num
    have hl := logS_ub h1 h2
    have h3 := units_le FloatKind.f64.format (Nat.le_of_lt h2)
    intro c hc
    obtain rfl := Option.some.inj hc
    have e : rg FloatKind.f64.format z = z := by unfold rg; rw [hsw]; exact Nat.mod_eq_of_lt (by omega)
    rw [e]
    refine Nat.le_trans h3 ?_
    have : ubB (some 4609434218613702656) 1075 = true := by decide +kernel
    have h4 := ub_of_B this _ rfl
    rw [show rg FloatKind.f64.format 4609434218613702656 = 4609434218613702656 by decide +kernel] at h4
    exact h4
  have fsub := FV.sub (G := 1076) fz fv_one (by omega) (by omega) (by omega) (by omega)
  have fadd := FV.add (G := 1076) fz fv_one (by omega) (by omega) (by omega) (by omega)
  obtain ⟨a', ea, fa⟩ := fsub.fin (by omega)
  obtain ⟨b', eb, fb⟩ := fadd.fin (by omega)
  have ea2 : some a' = some a := ea.symm.trans ha
  have eb2 : some b' = some b := eb.symm.trans hb
  obtain rfl := Option.some.inj ea2
  obtain rfl := Option.some.inj eb2
  obtain ⟨r, hr⟩ := fin_quo fa fb (by omega)
  refine ⟨r, ?_, floatBits_not_nan hr⟩
  unfold logS
  rw [show fop .sub .f64 (some z) (some one64) = some a' from ea, show fop .add .f64 (some z) (some one64) = some b' from eb]
  exact hr

def numB (v : Option Nat) : Bool := match v with | none => false | some b => !(FloatKind.f64.decode b).isNaN
theorem FV.of_B {v : Option Nat} {E : Nat} (h : ubB v E = true) (h2 : numB v = true) : FV v E := by
  cases v with
  | none => cases h2
  | some b => exact ⟨ub_of_B h, b, rfl, by simpa [numB] using h2⟩
theorem num_inv : ∀ j : Nat, j < 13 → numB (fop .quo .f64 (some one64) (some (fl (25 - 2 * (j : Int))))) = true := by decide +kernel
theorem num_e : ∀ n : Nat, n < 400 → numB (some (fl ((n : Int) - 200))) = true := by decide +kernel
theorem fv_zero : FV (some 0) 1074 := FV.of_B (by decide +kernel) (by decide +kernel)
theorem logQ_fv {u : Option Nat} (hu : FV u 1074) : ∀ j : Nat, j ≤ 13 → FV (logQ u j) (1075 + j)
  | 0, _ => fv_zero.mono (by omega)
  | j + 1, h => by
    have ih := logQ_fv hu j (by omega)
    have h1 := FV.of_B (ub_inv j (by omega)) (num_inv j (by omega))
    exact FV.add (E := 1074) (F := 1075 + j) h1 (FV.mul hu ih (by omega) (by omega) (by omega) (by omega)) (by omega) (by omega) (by omega) (by omega)
theorem logV_fv {y : Nat} (h1 : 870 * 4503599627370496 ≤ y) (h2 : y < 1160 * 4503599627370496) : FV (logV y) 1090 := by
  have he : -200 ≤ logE y ∧ logE y < 200 := by unfold logE; omega
  have hz : 4604930618986332160 ≤ logZ y ∧ logZ y < 4609434218613702656 := by unfold logZ logE; omega
  have hs := logS_fv hz.1 hz.2
  have hu := FV.mul hs hs (G := 1074) (by omega) (by omega) (by omega) (by omega)
  have hq := logQ_fv hu 13 (by omega)
  have h3 := FV.mul hs hq (G := 1088) (by omega) (by omega) (by omega) (by omega)
  have h4 := FV.mul (FV.of_B ub_two (by decide +kernel)) h3 (G := 1089) (by omega) (by omega) (by omega) (by omega)
  have h5 := FV.of_B (ub_e (logE y + 200).toNat (by omega)) (num_e (logE y + 200).toNat (by omega))
  rw [show (((logE y + 200).toNat : Nat) : Int) - 200 = logE y by omega] at h5
  have h6 := FV.mul h5 (FV.of_B ub_ln2 (by decide +kernel)) (G := 1082) (by omega) (by omega) (by omega) (by omega)
  exact FV.add h4 h6 (by omega) (by omega) (by omega) (by omega)

theorem down_le (s : Bool) (n drop : Nat) : Toward.down.cut s n drop ≤ n / 2 ^ drop + 1 := by
  rw [← zero_cut s n drop]
  unfold Toward.cut
  dsimp only
  have : ∀ b : Bool, b.toNat ≤ 1 := by intro b; cases b <;> decide
  have := this (s && n % (1 <<< min drop (n.log2 + 2)) != 0)
  simp only [Bool.toNat_false]
  omega

/-- What math.Floor answers at a small number, and the int64 that it is. -/
structure Flo (t F : Nat) (n : Int) : Prop where
  fin : Fin64 t
  word : FloatKind.f64.encode ((FloatKind.f64.decode t).integral .down) = F
  int : floatToIntVal .f64 F .i64 = some n
theorem flo_bound (N m' : Nat) (hN : N = 1074) (h : m' ≤ 67108865) : m' * 2 ^ N < 4503599627370496 * 2 ^ N := Nat.mul_lt_mul_of_pos_right (by omega) (Nat.two_pow_pos N)
theorem flo_ex {t : Nat} (h : UB (some t) 1100) (hn : (FloatKind.f64.decode t).isNaN = false) : ∃ F n, Flo t F n := by
  have hf := fin_ub h (by omega) hn
  have hle : ∀ N, N = 1074 → units FloatKind.f64.format (rg FloatKind.f64.format t) ≤ 67108864 * 2 ^ N := by
    intro N hN
    have h1 := h t rfl
    refine Nat.le_trans h1 (Nat.le_of_eq ?_)
    rw [show 1100 = 26 + N by omega, Nat.pow_add]
  have hl := hle 1074 rfl
  rcases read_cases .f64 t with ⟨h1, m, e, hd, he, hu, hm⟩ | ⟨h1, _⟩ | ⟨h1, _⟩
  · rw [lp64] at he hu
    rw [bin64] at hm
    rw [show e - -1074 = e + 1074 by omega] at hu
    have hle2 : ∀ N, N = 1074 → m * 2 ^ (e + 1074).toNat ≤ 67108864 * 2 ^ N := by intro N hN; rw [hu]; exact hle N hN
    have hle3 : ∀ N, N = 1074 → m * 2 ^ (e + 1074).toNat ≤ 4503599627370496 * 2 ^ N := fun N hN => Nat.le_trans (hle2 N hN) (Nat.mul_le_mul_right (2 ^ N) (by omega))
    have hl2 := hle3 1074 rfl
    clear hl
    have hl := hle2 1074 rfl
    obtain ⟨a1, a2, a3⟩ := cut_parts 1074 m e rfl he hm hl2
    have a4 : (m <<< e.toNat) / 2 ^ (-e).toNat ≤ 67108864 := Nat.le_of_mul_le_mul_right (Nat.le_trans a2 hl) (Nat.two_pow_pos 1074)
    have a5 := down_le (sgn FloatKind.f64.format t) (m <<< e.toNat) (-e).toNat
    obtain ⟨k, hk⟩ : ∃ k, k = Toward.down.cut (sgn FloatKind.f64.format t) (m <<< e.toNat) (-e).toNat := ⟨_, rfl⟩
    rw [← hk] at a5
    have a6 : k ≤ 67108865 := by omega
    obtain ⟨q, hq⟩ := represents FloatKind.f64.format k 0 (by rw [bin64]; omega) (by rw [lp64]; omega)
    rw [lp64, show (0 - -1074 : Int).toNat = 1074 by omega] at hq
    have hq52 : q < 4841369599423283200 := by
      refine Nat.lt_of_not_le fun hle => ?_
      have h2 := units_le FloatKind.f64.format hle
      rw [hq, units_52] at h2
      exact Nat.lt_irrefl _ (Nat.lt_of_le_of_lt h2 (flo_bound 1074 k rfl a6))
    have hnear : FloatKind.f64.format.nearest (sgn FloatKind.f64.format t) k 0 = FloatKind.f64.format.word (sgn FloatKind.f64.format t) q :=
      nearest_exact FloatKind.f64.format _ k 0 q (by rw [inf64]; omega) (by rw [lp64, hq, show (-1074 - 0 : Int).toNat = 0 by omega, show (0 - -1074 : Int).toNat = 1074 by omega, Nat.pow_zero, Nat.mul_one])
    have hrg : rg FloatKind.f64.format (FloatKind.f64.format.word (sgn FloatKind.f64.format t) q) < 4841369599423283200 := by
      rw [rg_word .f64 _ q (by rw [sw64]; omega)]; exact hq52
    obtain ⟨n, tr, W, y0, z, hc⟩ := cut_all hrg
    refine ⟨_, n, hf, ?_, hc.toInt⟩
    rw [hd]
    show FloatKind.f64.format.nearest _ (Toward.down.cut _ (m <<< e.toNat) (-e).toNat) 0 = _
    rw [← hk, hnear]
  · unfold Fin64 at hf; rw [inf64] at h1; omega
  · unfold Fin64 at hf; rw [inf64] at h1; omega
end Go.Proofs.Ytecglaggmheokaa
