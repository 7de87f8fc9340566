/- FnExactAngleTurns returns true. -/
import Derived.Test.YtecglaggmheokaaWAng2
import Derived.Test.YtecglaggmheokaaSameF
set_option linter.unusedVariables false
set_option linter.unusedSimpArgs false
namespace Go.Proofs.Ytecglaggmheokaa
open Ieee Go.RowKit near

/-- A finite float32, widened. -/
structure FinW (x r : Nat) : Prop where
  num : (FloatKind.f32.decode x).isNaN = false
  lt : rg FloatKind.f32.format x < 2139095040
  wide : WideOf x r
  fin : Fin64 r
  l64 : r < 18446744073709551616
  eq : fwide (val .f32 x) = some r
theorem finB_iff (x : Nat) : (finB (val .f32 x) = true ∧ (FloatKind.f32.decode x).isNaN = false ∧ rg FloatKind.f32.format x < 2139095040) ∨ (finB (val .f32 x) = false ∧ ∀ r, FIs .f64 r (fwide (val .f32 x)) → ¬ Fin64 r) := by
  cases hn : (FloatKind.f32.decode x).isNaN with
  | true =>
    right
    refine ⟨by rw [val_none hn]; decide, fun r hr hf => ?_⟩
    have h1 := hr.out
    rw [val_none hn] at h1
    have := val_eq_none h1
    rw [hf.num] at this
    cases this
  | false =>
    have hle := not_nan_rg hn
    rw [inf32] at hle
    by_cases hi : rg FloatKind.f32.format x = 2139095040
    · right
      refine ⟨finB_inf hn hi, fun r hr hf => ?_⟩
      have := (wide_of hn hr).inf.2 hi
      unfold Fin64 at hf
      omega
    · left
      exact ⟨finB_num hn (by omega), rfl, by omega⟩
theorem finW_of {x r : Nat} (hn : (FloatKind.f32.decode x).isNaN = false) (hlt : rg FloatKind.f32.format x < 2139095040) (hr : FIs .f64 r (fwide (val .f32 x))) : FinW x r := by
  have W := wide_of hn hr
  refine ⟨hn, hlt, W, ?_, hr.lt64, ?_⟩
  · have h1 := not_nan_rg (k := .f64) W.num
    rw [inf64] at h1
    unfold Fin64
    rcases Nat.lt_or_ge (rg FloatKind.f64.format r) 9218868437227405312 with h | h
    · exact h
    · have := W.inf.1 (by omega)
      omega
  · rw [val_some hn]
    show some (FloatKind.f64.encode (FloatKind.f32.decode x)) = some r
    rw [W.word]
theorem wide_is (x : Nat) (hn : (FloatKind.f32.decode x).isNaN = false) : FIs .f64 (FloatKind.f64.encode (FloatKind.f32.decode x)) (fwide (val .f32 x)) := by
  rw [val_some hn]
  exact FIs.mk (val_some (write_not_nan .f64 _ hn)) (Ieee.Format.write_lt _ _)

theorem rg_abs {r : Nat} : rg FloatKind.f64.format (rg FloatKind.f64.format r) = rg FloatKind.f64.format r := by unfold rg; rw [sw64]; omega
theorem fin_abs {r : Nat} (h : Fin64 r) : Fin64 (rg FloatKind.f64.format r) := by unfold Fin64; rw [rg_abs]; exact h
theorem ub_absN (N M : Nat) (hNM : N ≤ M) {z r : Nat} (h : FinW z r) (hu : UB (fwide (val .f32 z)) N) : UB (some (rg FloatKind.f64.format r)) M := by
  intro c hc
  obtain rfl := Option.some.inj hc
  rw [rg_abs]
  rw [h.eq] at hu
  exact (hu.mono hNM) r rfl
theorem pt_of {y x ry rx : Nat} (hy : FinW y ry) (hx : FinW x rx) (hne : ¬ (rg FloatKind.f32.format x = 0 ∧ rg FloatKind.f32.format y = 0)) :
    Pt (rg FloatKind.f64.format ry) (rg FloatKind.f64.format rx) (decide (rg FloatKind.f64.format rx < rg FloatKind.f64.format ry))
      (if decide (rg FloatKind.f64.format rx < rg FloatKind.f64.format ry) then fop .quo .f64 (some (rg FloatKind.f64.format rx)) (some (rg FloatKind.f64.format ry)) else fop .quo .f64 (some (rg FloatKind.f64.format ry)) (some (rg FloatKind.f64.format rx))) := by
  have fy : rg FloatKind.f64.format ry < 9218868437227405312 := hy.fin
  have fx : rg FloatKind.f64.format rx < 9218868437227405312 := hx.fin
  have ub : ∀ {z r : Nat}, FinW z r → UB (some (rg FloatKind.f64.format r)) 1300 := fun h => ub_absN 1202 1300 (by omega) h (UB.wide h.lt)
  refine ⟨fin_abs hy.fin, fin_abs hx.fin, ?_, rfl, ?_⟩
  · rw [order_pos (by omega) (by omega)]
    rcases Nat.lt_trichotomy (rg FloatKind.f64.format ry) (rg FloatKind.f64.format rx) with h | h | h
    · rw [if_pos h, decide_eq_false (by omega)]; rfl
    · rw [if_neg (by omega), if_pos h, decide_eq_false (by omega)]; rfl
    · rw [if_neg (by omega), if_neg (by omega), decide_eq_true h]; rfl
  · by_cases h : rg FloatKind.f64.format rx < rg FloatKind.f64.format ry
    · rw [decide_eq_true h, if_pos rfl]
      exact a0_fv (fin_abs hy.fin) (fin_abs hx.fin) (ub hx) (by rw [rg_abs]; omega) (by rw [rg_abs, rg_abs]; omega)
    · rw [decide_eq_false h, if_neg (by decide)]
      refine a0_fv (fin_abs hx.fin) (fin_abs hy.fin) (ub hy) ?_ (by rw [rg_abs, rg_abs]; omega)
      rw [rg_abs]
      rcases Nat.eq_zero_or_pos (rg FloatKind.f64.format rx) with h0 | h0
      · exact absurd ⟨hx.wide.zero.1 h0, hy.wide.zero.1 (by omega)⟩ hne
      · exact h0
theorem lt0_wide {x r : Nat} (h : FinW x r) : (FloatKind.f64.format.order r 0 == some .lt) = (FloatKind.f32.format.order x 0 == some .lt) := by
  rw [order_lt_zero .f64 h.wide.num, order_lt_zero .f32 h.num, h.wide.sign]
  congr 1
  by_cases h0 : rg FloatKind.f32.format x = 0
  · rw [decide_eq_false (by simpa using h.wide.zero.2 h0), decide_eq_false (by simpa using h0)]
  · rw [decide_eq_true (show rg FloatKind.f64.format r ≠ 0 from fun e => h0 (h.wide.zero.1 e)), decide_eq_true h0]
theorem eq0_wide {x r : Nat} (h : FinW x r) : (FloatKind.f64.format.order r 0 == some .eq) = decide (rg FloatKind.f32.format x = 0) := by
  rw [order_eq_zero .f64 h.wide.num]
  by_cases h0 : rg FloatKind.f32.format x = 0
  · rw [decide_eq_true h0, decide_eq_true (h.wide.zero.2 h0)]
  · rw [decide_eq_false h0, decide_eq_false (fun e => h0 (h.wide.zero.1 e))]

set_option maxHeartbeats 800000 in
theorem fnExactAngleTurns_core (y x : Nat) (v : Option Nat)
    (hS : ∀ w : World, Calls Try.prog 39 #[.float .f32 y, .float .f32 x] w (RetFW v w))
    (hI : ∀ w : World, Calls Try.prog 40 #[.float .f32 y, .float .f32 x] w (RetFW v w)) (w : World) :
    Calls Try.prog 13 #[.float .f32 y, .float .f32 x] w fun e w' => e = .returned (.bool true) ∧ Below w.heap.size w w' := by
  have HS := Lib.hid hS
  have HI := Lib.hid hI
  clear hS hI
  go_enter Try.func13, Try.ntmps13
  go_wp2_with fail
  refine (HS.out _).mono ?_
  rintro e w1 ⟨r1, rfl, hr1, hb1⟩
  have H1 := Lib.hid (And.intro hr1 hb1)
  clear hr1 hb1
  go_wp2_with fail
  refine (HI.out _).mono ?_
  rintro e w2 ⟨r2, rfl, hr2, hb2⟩
  have H2 := Lib.hid (And.intro hr2 hb2)
  clear hr2 hb2
  have tok : True := trivial
  go_wp2_with (first | (have _t := tok; refine wpList_wide rfl _ _ _ rfl (by kernel_rfl) (by kernel_rfl) _ rfl ?_; intro a1 m1 ha1; clear tok) | (refine wpList_wide rfl _ _ _ rfl (by kernel_rfl) (by kernel_rfl) _ rfl ?_; intro a2 m2 ha2))
  rw [H2.out.1.out] at ha1
  rw [H1.out.1.out] at ha2
  refine (sameFloat_same _ _ _ ha1 ha2 _).mono ?_
  rintro e w5 ⟨rfl, n5, rfl⟩
  go_wp2_with fail
  go_ret
  exact ⟨rfl, below_drewN (H1.out.2.trans (H2.out.2.mono H1.out.2.size)) _⟩
theorem narrow_zero0 : fnarrow (some 0) = some 0 := by decide +kernel
theorem fnExactAngleTurns_walk (y : Nat) (wfy : (Lit.float .f32 y).wf = true) (x : Nat) (wfx : (Lit.float .f32 x).wf = true) (w : World) :
    Calls Try.prog 13 #[.float .f32 y, .float .f32 x] w fun e w' => e = .returned (.bool true) ∧ Below w.heap.size w w' := by
  rcases finB_iff y with ⟨hfy, hny, hly⟩ | ⟨hfy, hy⟩
  · rcases finB_iff x with ⟨hfx, hnx, hlx⟩ | ⟨hfx, hx⟩
    · have hf : (notFin x || notFin y) = false := by unfold notFin; rw [hfx, hfy]; rfl
      by_cases hz : rg FloatKind.f32.format x = 0 ∧ rg FloatKind.f32.format y = 0
      · refine fnExactAngleTurns_core y x (some 0) (fun w => ?_) (fun w => ?_) w
        · have := specAng_of y x _ (fun W => l01Angle_of y x (some 0) (fun ry rx W hry hrx => by
            have WY := finW_of hny hly hry
            have WX := finW_of hnx hlx hrx
            exact angWide_zero ry rx WY.fin WX.fin (by rw [eq0_wide WX, decide_eq_true hz.1]) (by rw [eq0_wide WY, decide_eq_true hz.2]) W) (fits_of_UB fv_zero.ub (by omega)) W) w
          rw [narrow_zero0] at this
          exact this
        · exact implAng_zero y x hf (by rw [order_eq_zero .f32 hnx, decide_eq_true hz.1]) (by rw [order_eq_zero .f32 hny, decide_eq_true hz.2]) w
      · have WY := finW_of hny hly (wide_is y hny)
        have WX := finW_of hnx hlx (wide_is x hnx)
        obtain ⟨o, v, hp⟩ : ∃ o v, Pt (rg FloatKind.f64.format (FloatKind.f64.encode (FloatKind.f32.decode y))) (rg FloatKind.f64.format (FloatKind.f64.encode (FloatKind.f32.decode x))) o v := ⟨_, _, pt_of WY WX hz⟩
        generalize hry0 : FloatKind.f64.encode (FloatKind.f32.decode y) = ry at *
        generalize hrx0 : FloatKind.f64.encode (FloatKind.f32.decode x) = rx at *
        refine fnExactAngleTurns_core y x (fnarrow (aA o (FloatKind.f32.format.order x 0 == some .lt) (FloatKind.f32.format.order y 0 == some .lt) v)) (fun w => specAng_of y x _ (fun W => l01Angle_of y x _ (fun ry' rx' W hry hrx => ?_) (fits_aA hp.fv _ _ _) W) w) (fun w => ?_) w
        · obtain rfl := FIs.word WY.eq hry
          obtain rfl := FIs.word WX.eq hrx
          by_cases hx0 : rg FloatKind.f32.format x = 0
          · exact angWide_fin2 _ _ _ _ rfl rfl WY.l64 WX.l64 WY.fin WX.fin (by rw [eq0_wide WX, decide_eq_true hx0]) (by rw [eq0_wide WY, decide_eq_false (fun e => hz ⟨hx0, e⟩)]) hp (lt0_wide WX) (lt0_wide WY) W
          · exact angWide_fin1 _ _ _ _ rfl rfl WY.l64 WX.l64 WY.fin WX.fin (by rw [eq0_wide WX, decide_eq_false hx0]) hp (lt0_wide WX) (lt0_wide WY) W
        · by_cases hx0 : rg FloatKind.f32.format x = 0
          · exact implAng_fin2 y x _ _ _ _ hf WY.eq WX.eq rfl rfl WY.l64 WX.l64 (by rw [order_eq_zero .f32 hnx, decide_eq_true hx0]) (by rw [order_eq_zero .f32 hny, decide_eq_false (fun e => hz ⟨hx0, e⟩)]) hp rfl rfl w
          · exact implAng_fin1 y x _ _ _ _ hf WY.eq WX.eq rfl rfl WY.l64 WX.l64 (by rw [order_eq_zero .f32 hnx, decide_eq_false hx0]) hp rfl rfl w
    · refine fnExactAngleTurns_core y x none (fun w => ?_) (fun w => implAng_nan y x (by unfold notFin; rw [hfx]; rfl) w) w
      refine specAng_of y x _ (fun W => l01Angle_of y x none (fun ry rx W hry hrx => ?_) fits_none W) w
      by_cases hF : Fin64 ry
      · exact angWide_nan2 ry rx hF (hx rx hrx) W
      · exact angWide_nan1 ry rx hF W
  · refine fnExactAngleTurns_core y x none (fun w => ?_) (fun w => implAng_nan y x (by unfold notFin; rw [hfy]; simp) w) w
    exact specAng_of y x _ (fun W => l01Angle_of y x none (fun ry rx W hry hrx => angWide_nan1 ry rx (hy ry hry) W) fits_none W) w
end Go.Proofs.Ytecglaggmheokaa
