/- Phasors of 64ths of a turn: what the program answers. -/
import Derived.Test.YtecncnkbgfjdcaaZFCirI
import Derived.Test.YtecncnkbgfjdcaaZFCirG
import Derived.Test.YtecncnkbgfjdcaaZFCirG2
import Derived.Test.YtecncnkbgfjdcaaZWPhas2
set_option linter.unusedVariables false
set_option linter.unusedSimpArgs false
namespace Go.Proofs.Ytecncnkbgfjdcaa
open Ieee Go.RowKit near

theorem sn_word {t s : Nat} (h : UB (some t) 1077) (hn : (FloatKind.f64.decode t).isNaN = false) (hv : sineT (sP1 (some (cutT t))) = some s) : Sn t s := by
  have hlt : ∀ N, N = 1077 → rg FloatKind.f64.format t < 4841369599423283200 := by
    intro N hN
    have h1 : units FloatKind.f64.format (rg FloatKind.f64.format t) ≤ 2 ^ N := by rw [hN]; exact h t rfl
    refine Nat.lt_of_not_le fun hle => ?_
    have h2 := units_le FloatKind.f64.format hle
    have h3 : units FloatKind.f64.format 4841369599423283200 = 2 ^ (N + 49) := by
      rw [units_52]
      have g := pow_scale3 1074 (N + 49) 4503599627370496 1 4503599627370496 52 (by decide) (by decide) (by omega)
      exact g.trans (Nat.one_mul _)
    rw [h3] at h2
    have h4 : 2 ^ N < 2 ^ (N + 49) := Nat.pow_lt_pow_right (by omega) (by omega)
    exact Nat.lt_irrefl _ (Nat.lt_of_lt_of_le h4 (Nat.le_trans h2 h1))
  have hl := hlt 1077 rfl
  obtain ⟨n, tr, W, y0, z, hc⟩ := cut_all hl
  have he := cut_t0 hc
  subst he
  obtain ⟨hu, s', hs, hsn⟩ := sineT_fv (FV.sP1 (FV.of hc.ub hc.num))
  rw [hv] at hs
  obtain rfl := Option.some.inj hs
  rw [hv] at hu
  refine ⟨fun w => ?_, hu, fin_ub hu (by omega) hsn⟩
  refine (implSine_small t n tr W _ z hc w).mono ?_
  rintro e w' ⟨r, m, rfl, hr, rfl⟩
  rw [hv] at hr
  rw [hr.eq]
  exact ⟨rfl, m, rfl⟩
theorem nw_of {s : Nat} (h : UB (some s) 1178) (hf : Fin64 s) : Nw s (nar s) :=
  ⟨hf.val, fits_of_UB h (by omega), rfl, FIs.mk (val_some (write_not_nan .f32 _ hf.num)) (Ieee.Format.write_lt _ _)⟩
theorem ph_at (m : Nat) (hm : m < 64) : Ph (kx (m : Int)) (m / 16) (kx ((m % 16 : Nat) : Int)) (kx ((16 - m % 16 : Nat) : Int)) (s64 (m % 16)) (s64 (16 - m % 16)) (n64 (m % 16)) (n64 (16 - m % 16))
    (C17.getD (m % 16) 0) (C17.getD (16 - m % 16) 0) (sg32 (C17.getD (m % 16) 0)) (sg32 (C17.getD (16 - m % 16) 0)) := by
  obtain ⟨q1, q2, q3, q4, q5, q6, q7⟩ := turn_quart m hm
  obtain ⟨a1, a2, a3, a4, a5, a6, a7, a8⟩ := sine_all (m % 16) (by omega)
  obtain ⟨b1, b2, b3, b4, b5, b6, b7, b8⟩ := sine_all (16 - m % 16) (by omega)
  obtain ⟨c1, c2⟩ := nar_all (m % 16) (by omega)
  obtain ⟨d1, d2⟩ := nar_all (16 - m % 16) (by omega)
  rw [← c2, ← d2, ← c1, ← d1]
  exact ⟨⟨q1, q2, q3, q4, ub_of_B q5⟩, q6, q7, sn_word (ub_of_B a2) a3 a1, sn_word (ub_of_B b2) b3 b1, a6, b6,
    nw_of ((ub_of_B a4).mono (by omega)) a5, nw_of ((ub_of_B b4).mono (by omega)) b5, nw_of ((ub_of_B a7).mono (by omega)) a8, nw_of ((ub_of_B b7).mono (by omega)) b8⟩
theorem ph_words : ∀ m : Nat, m < 64 → phRe (m / 16) (C17.getD (16 - m % 16) 0) (sg32 (C17.getD (m % 16) 0)) (sg32 (C17.getD (16 - m % 16) 0)) (C17.getD (m % 16) 0) = pR m ∧ phIm (m / 16) (C17.getD (m % 16) 0) (C17.getD (16 - m % 16) 0) (sg32 (C17.getD (m % 16) 0)) (sg32 (C17.getD (16 - m % 16) 0)) = pI m := by decide +kernel
theorem phasor_at (n : Nat) (hn : n < 512) (w : World) : Calls Try.prog 16 #[.float .f64 (kx ((n : Int) - 256))] w fun e w' => e = .returned (.complex .f32 (pR (n % 64)) (pI (n % 64))) ∧ ∃ q, w' = w.drewN q := by
  obtain ⟨-, k2, k3, k4⟩ := kx_all n hn
  obtain ⟨N, tr, W, t0, z, hc⟩ := cut_all k3
  have he := cut_t0 hc
  obtain ⟨u1, t1, u2, t2, u3, t3, b1, b2, b3, hp⟩ := prep hc.ub hc.num
  have ht := prep_t1 hp
  rw [he, k4] at ht
  subst ht
  have hph := ph_at (n % 64) (by omega)
  obtain ⟨e1, e2⟩ := ph_words (n % 64) (by omega)
  refine (implPhas_small _ k2 N tr W t0 z hc k3 hp hph w).mono ?_
  rw [e1, e2]
  rintro e w' ⟨rfl, q, rfl⟩
  exact ⟨rfl, q, rfl⟩
end Go.Proofs.Ytecncnkbgfjdcaa
