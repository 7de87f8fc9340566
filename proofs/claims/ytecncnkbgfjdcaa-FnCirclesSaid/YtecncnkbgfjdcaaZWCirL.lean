/- FnCircles returns true. -/
import Derived.Test.YtecncnkbgfjdcaaZWCir3
set_option linter.unusedVariables false
set_option linter.unusedSimpArgs false
namespace Go.Proofs.Ytecncnkbgfjdcaa
open Ieee Go.RowKit near

/-- What is determined by the two numbers of 64ths. -/
structure Cir (a b xfa xfb xfs xa xb xs pr pi qr qi rr ri an x1 x2 x3 pw gp mr mi xw g2 : Nat) (wh : Int) : Prop where
  fa : FloatKind.f64.nearest ((a : Int) - 128) = xfa
  fb : FloatKind.f64.nearest ((b : Int) - 128) = xfb
  fs : FloatKind.f64.nearest ((a : Int) - 128 + ((b : Int) - 128)) = xfs
  da : floatBits .quo .f64 xfa 4634204016564240384 = some xa
  db : floatBits .quo .f64 xfb 4634204016564240384 = some xb
  ds : floatBits .quo .f64 xfs 4634204016564240384 = some xs
  cp : ∀ w : World, Calls Try.prog 16 #[.float .f64 xa] w fun e w' => e = .returned (.complex .f32 pr pi) ∧ ∃ q, w' = w.drewN q
  cq : ∀ w : World, Calls Try.prog 16 #[.float .f64 xb] w fun e w' => e = .returned (.complex .f32 qr qi) ∧ ∃ q, w' = w.drewN q
  cr : ∀ w : World, Calls Try.prog 16 #[.float .f64 xs] w fun e w' => e = .returned (.complex .f32 rr ri) ∧ ∃ q, w' = w.drewN q
  ca : ∀ w : World, Calls Try.prog 17 #[.complex .f32 pr pi] w fun e w' => e = .returned (.float .f32 an) ∧ Below w.heap.size w w'
  na : num32 an = true
  t1 : floatBits .mul .f64 (wid an) 4634204016564240384 = some x1
  t2 : floatBits .sub .f64 x1 xfa = some x2
  t3 : floatBits .add .f64 x2 4666723447345250304 = some x3
  t4 : floatToIntVal .f64 x3 .i64 = some wh
  w0 : -20000 ≤ wh
  w1 : wh ≤ 20000
  cw : ∀ w : World, Calls Try.prog 19 #[.complex .f32 pr pi] w fun e w' => e = .returned (.float .f32 pw) ∧ w = w'
  np : num32 pw = true
  cg : ∀ w : World, Calls Try.prog 18 #[.float .f64 (wid pw), .float .f64 4607182418800017408] w fun e w' => e = .returned (.float .f64 gp) ∧ w = w'
  lg : (FloatKind.f64.format.order gp 4547007122018943789 == some .gt) = false
  cm : ∀ w : World, Calls Try.prog 21 #[.complex .f32 pr pi, .complex .f32 qr qi] w fun e w' => e = .returned (.complex .f32 mr mi) ∧ w = w'
  cn : ∀ w : World, Calls Try.prog 20 #[.complex .f32 mr mi, .complex .f32 rr ri, .float .f64 4547007122018943789] w fun e w' => e = .returned (.bool true) ∧ w = w'
  fw : FloatKind.f64.nearest (wh - 10000) = xw
  c2 : ∀ w : World, Calls Try.prog 18 #[.float .f64 x2, .float .f64 xw] w fun e w' => e = .returned (.float .f64 g2) ∧ w = w'
  l2 : (FloatKind.f64.format.order g2 4562254508917369340 == some .gt) = false
  rem : Int.tmod (wh - 10000) 64 = 0
  nr : num32 pr = true
  sixteen : (Int.tmod ((a : Int) - 128) 16 == 0) = decide (a % 64 % 16 = 0)
  real : a % 64 % 16 = 0 → ∃ g3, (∀ w : World, Calls Try.prog 18 #[.float .f64 (wid pr), .float .f64 0] w fun e w' => e = .returned (.float .f64 g3) ∧ w = w') ∧
    ((FloatKind.f64.format.order g3 0 != some .eq) = false ∨ ((FloatKind.f64.format.order g3 0 != some .eq) = true ∧ (FloatKind.f64.format.order g3 4607182418800017408 != some .eq) = false))
theorem le_gt {g c : Nat} (h : leB g c = true) : (FloatKind.f64.format.order g c == some .gt) = false := by
  unfold leB at h
  cases ho : FloatKind.f64.format.order g c with
  | none => rw [ho] at h; cases h
  | some o => rw [ho] at h; cases o <;> first | rfl | cases h
theorem near_parts {u r : Nat} (h : nearW u r = true) : (FloatKind.f64.decode u).isNaN = false ∧ ubB (some u) 1178 = true ∧ ∃ g, gapW (wid (nar u)) r = some g ∧ leB g tol4 = true := by
  unfold nearW at h
  simp only [Bool.and_eq_true] at h
  obtain ⟨⟨h1, h2⟩, h3⟩ := h
  refine ⟨by simpa using h1, h2, ?_⟩
  split at h3
  · rename_i g hg; exact ⟨g, hg, h3⟩
  · cases h3
theorem cir_ex (a b : Nat) (ha : a < 256) (hb : b < 256) : ∃ xfa xfb xfs xa xb xs pr pi qr qi rr ri an x1 x2 x3 pw gp mr mi xw g2 : Nat, ∃ wh : Int, Cir a b xfa xfb xfs xa xb xs pr pi qr qi rr ri an x1 x2 x3 pw gp mr mi xw g2 wh := by
  obtain ⟨da, -⟩ := kx_all (a + 128) (by omega)
  obtain ⟨db, -⟩ := kx_all (b + 128) (by omega)
  obtain ⟨ds, -⟩ := kx_all (a + b) (by omega)
  have cp := phasor_at (a + 128) (by omega)
  have cq := phasor_at (b + 128) (by omega)
  have cr := phasor_at (a + b) (by omega)
  rw [show (((a + 128 : Nat) : Int) - 256) = (a : Int) - 128 by omega] at da cp
  rw [show (((b + 128 : Nat) : Int) - 256) = (b : Int) - 128 by omega] at db cq
  rw [show (((a + b : Nat) : Int) - 256) = (a : Int) - 128 + ((b : Int) - 128) by omega] at ds cr
  rw [show (a + 128) % 64 = a % 64 by omega] at cp
  rw [show (b + 128) % 64 = b % 64 by omega] at cq
  have hp := prod_all prods_all (i := a % 64) (j := b % 64) (by omega) (by omega)
  unfold prodChk at hp
  rw [show (a % 64 + b % 64) % 64 = (a + b) % 64 by omega] at hp
  obtain ⟨pw1, pw2, pw3, pw4, -, -⟩ := p_wide (a % 64) (by omega)
  obtain ⟨qw1, qw2, qw3, qw4, -, -⟩ := p_wide (b % 64) (by omega)
  obtain ⟨rw1, rw2, rw3, rw4, -, -⟩ := p_wide ((a + b) % 64) (by omega)
  unfold mulChk at hp
  simp only [Bool.and_eq_true] at hp
  obtain ⟨hp1, hp2⟩ := hp
  split at hp1
  next u hu =>
    split at hp2
    next v hv =>
      obtain ⟨nu, uu, g, hg, lg⟩ := near_parts hp1
      obtain ⟨nv, uv, h, hh, lh⟩ := near_parts hp2
      obtain ⟨o1, o2⟩ := pow_all (a % 64) (by omega)
      obtain ⟨no, uo, gp, hgp, lgp⟩ := near_parts o2
      obtain ⟨t1, t2, t3, t4, t5, t6, t7, t8, t9⟩ := turn_all a ha
      obtain ⟨f1, f2, f3⟩ := ang_fin (a % 64) (by omega)
      obtain ⟨na, -⟩ := angW_all (a % 64) (by omega)
      rw [← rw1] at hg
      rw [← rw2] at hh
      exact ⟨_, _, _, _, _, _, _, _, _, _, _, _, _, _, _, _, _, _, _, _, _, _, _,
        { fa := rfl, fb := rfl, fs := rfl, da := da, db := db, ds := ds, cp := cp, cq := cq, cr := cr,
          ca := angOf_det (ang_det pw4 pw3 f2 f1 f3 (ang_all (a % 64) (by omega))), na := na,
          t1 := t1, t2 := t2, t3 := t3, t4 := t4, w0 := t8, w1 := t9,
          cw := powOf_det pw3 pw4 pw1 pw2 o1 no uo, np := nar_num no, cg := gap_det hgp, lg := le_gt lgp,
          cm := mul_det pw3 pw4 qw3 qw4 pw1 pw2 qw1 qw2 hu hv nu uu nv uv,
          cn := near_det (nar_num nu) (nar_num nv) rw3 rw4 hg hh lg lh,
          fw := rfl, c2 := gap_det t5, l2 := t6, rem := t7, nr := pw3, sixteen := sixteen_all a ha,
          real := fun h16 => ⟨_, gap_det (real_all (a % 64) (by omega) h16).1, (real_all (a % 64) (by omega) h16).2⟩ }⟩
    next => cases hp2
  next => cases hp1
end Go.Proofs.Ytecncnkbgfjdcaa
