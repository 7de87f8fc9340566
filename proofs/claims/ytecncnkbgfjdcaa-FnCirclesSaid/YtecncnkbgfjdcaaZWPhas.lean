/- PhasorOf: the reference's and the program's, below 2^52. -/
import Derived.Test.YtecncnkbgfjdcaaZWSine3
import Derived.Test.YtecncnkbgfjdcaaZFQuart
set_option linter.unusedVariables false
set_option linter.unusedSimpArgs false
namespace Go.Proofs.Ytecncnkbgfjdcaa
open Ieee Go.RowKit near

/-- A determined result, in a form that is matched by its words alone. -/
structure Det (op : BinOp) (x y r : Nat) : Prop where
  out : floatBits op .f64 x y = some r
theorem wpList_detH {P : Program} {ops : Array Oper} {rest : List Oper} {o : Oper} {a : Act} {w : World} {Q : Exit → Act → World → Prop} (hw : Region.wanted o (yielded ops a.tmps) = true)
    (op : BinOp) (xt yt : TypeId) (x y : Operand) (ho : o.op = .binOp op xt x y yt) (hop : isArith op = true) (bx by' r : Nat)
    (hx : a.eval x = .float .f64 bx) (hy : a.eval y = .float .f64 by') (hb : Det op bx by' r)
    (h : wpList P ops Q rest (a.put o.dst (.float .f64 r)) w) : wpList P ops Q (o :: rest) a w :=
  wpList_det hw op xt yt x y ho hop .f64 bx by' r hx hy hb.out h

/-- A word s that both sides' sines answer at t. -/
structure Sn (t s : Nat) : Prop where
  impl : ∀ w : World, Calls Try.prog 36 #[.float .f64 t] w fun e w' => e = .returned (.float .f64 s) ∧ ∃ n, w' = w.drewN n
  ub : UB (some s) 1176
  fin : Fin64 s
theorem sn_ex {t : Nat} (h : UB (some t) 1077) (hn : (FloatKind.f64.decode t).isNaN = false) : ∃ s, Sn t s := by
  have hlt : ∀ N, N = 1077 → rg FloatKind.f64.format t < 4841369599423283200 := by
    intro N hN
    have h1 : units FloatKind.f64.format (rg FloatKind.f64.format t) ≤ 2 ^ N := by rw [hN]; exact h t rfl
    refine Nat.lt_of_not_le fun hle => ?_
    have h2 := units_le FloatKind.f64.format hle
    have h3 : units FloatKind.f64.format 4841369599423283200 = 2 ^ (N + 49) := by
      rw [units_52]
      have g := pow_scale3 1074 (N + 49) 4503599627370496 1 4503599627370496 52 (by decide) (by decide) (by omega)
      exact g.trans (Nat.one_mul _)
    rw [h3] at h2
    have h4 : 2 ^ N < 2 ^ (N + 49) := Nat.pow_lt_pow_right (by omega) (by omega)
    exact Nat.lt_irrefl _ (Nat.lt_of_lt_of_le h4 (Nat.le_trans h2 h1))
  have hl := hlt 1077 rfl
  obtain ⟨n, tr, W, y0, z, hc⟩ := cut_all hl
  obtain ⟨hu, s, hs, hsn⟩ := sineT_fv (FV.sP1 (FV.of hc.ub hc.num))
  rw [hs] at hu
  refine ⟨s, fun w => ?_, hu, fin_ub hu (by omega) hsn⟩
  · refine (implSine_small t n tr W y0 z hc w).mono ?_
    rintro e w' ⟨r, m, rfl, hr, rfl⟩
    rw [hs] at hr
    rw [hr.eq]
    exact ⟨rfl, m, rfl⟩

/-- A word that is narrowed to c. -/
structure Nw (s c : Nat) : Prop where
  val : val .f64 s = some s
  fits : fitsNarrow (some s)
  word : fnarrow (some s) = some c
  num : FIs .f32 c (some c)
theorem nw_ex {s : Nat} (h : UB (some s) 1178) (hf : Fin64 s) : ∃ c, Nw s c := by
  refine ⟨_, hf.val, fits_of_UB h (by omega), rfl, FIs.mk (val_some (write_not_nan .f32 _ hf.num)) (Ieee.Format.write_lt _ _)⟩
theorem narrowD {s c : Nat} (h : Nw s c) (w : World) : Calls Try.prog 62 #[.float .f64 s] w fun e w' => e = .returned (.float .f32 c) ∧ ∃ n, w' = w.drewN n := by
  refine (l01Narrow_any s (by rw [h.val]; exact h.fits) w).mono ?_
  rintro e w' ⟨r, n, rfl, hr, rfl⟩
  rw [h.val, h.word] at hr
  rw [hr.eq]
  exact ⟨rfl, n, rfl⟩
/-- What is determined of a phasor at a part of a turn y1: q quarters, the rest T, the sines S of T and C of a quarter less T, and their opposites. -/
structure Ph (y1 q T T2 S C S0 C0 s c s0 c0 : Nat) : Prop where
  quart : Quart y1 q
  rest : qIter y1 q = T
  other : floatBits .sub .f64 4598175219545276416 T = some T2
  sinS : Sn T S
  sinC : Sn T2 C
  negS : floatBits .sub .f64 0 S = some S0
  negC : floatBits .sub .f64 0 C = some C0
  ns : Nw S s
  nc : Nw C c
  ns0 : Nw S0 s0
  nc0 : Nw C0 c0
theorem fin0 : Fin64 0 := fin_zero false
theorem fv_zero0 : FV (some 0) 1074 := .of (ub_of_B (by decide +kernel)) (by decide +kernel)
theorem ph_ex {y1 : Nat} (h : UB (some y1) 1075) (hn : (FloatKind.f64.decode y1).isNaN = false) : ∃ q T T2 S C S0 C0 s c s0 c0, Ph y1 q T T2 S C S0 C0 s c s0 c0 := by
  obtain ⟨q, Q⟩ := quart h hn
  have fq : FV (some 4598175219545276416) 1072 := .of (ub_of_B (by decide +kernel)) (by decide +kernel)
  have fT : FV (some (qIter y1 q)) 1075 := .of Q.ub Q.fin.num
  obtain ⟨u2, T2, h2, n2⟩ := FV.sub (G := 1077) fq fT (by omega) (by omega) (by omega) (by omega)
  rw [h2] at u2
  obtain ⟨S, hS⟩ := sn_ex (Q.ub.mono (by omega)) Q.fin.num
  obtain ⟨C, hC⟩ := sn_ex u2 n2
  obtain ⟨uS, S0, eS, nS⟩ := FV.sub (G := 1178) fv_zero0 (.of hS.ub hS.fin.num) (by omega) (by omega) (by omega) (by omega)
  obtain ⟨uC, C0, eC, nC⟩ := FV.sub (G := 1178) fv_zero0 (.of hC.ub hC.fin.num) (by omega) (by omega) (by omega) (by omega)
  rw [eS] at uS
  rw [eC] at uC
  obtain ⟨s, hs⟩ := nw_ex (hS.ub.mono (by omega)) hS.fin
  obtain ⟨c, hc⟩ := nw_ex (hC.ub.mono (by omega)) hC.fin
  obtain ⟨s0, hs0⟩ := nw_ex uS (fin_ub uS (by omega) nS)
  obtain ⟨c0, hc0⟩ := nw_ex uC (fin_ub uC (by omega) nC)
  exact ⟨q, _, T2, S, C, S0, C0, s, c, s0, c0, Q, rfl, h2, hS, hC, eS, eC, hs, hc, hs0, hc0⟩

/-- The result: real and imaginary part. -/
def phRe (q c s0 c0 s : Nat) : Nat := if q = 1 then s0 else if q = 2 then c0 else if q = 3 then s else c
def phIm (q s c s0 c0 : Nat) : Nat := if q = 1 then c else if q = 2 then s0 else if q = 3 then c0 else s

theorem ret_cx {a b a' b' : Nat} (h : a' = a ∧ b' = b) : Ending.returned (Value.complex .f32 a b) = Ending.returned (.complex .f32 a' b') := by rw [h.1, h.2]
theorem ph1 {q s c s0 c0 : Nat} (h : ((q : Int) == 1) = true) : phRe q c s0 c0 s = s0 ∧ phIm q s c s0 c0 = c := by
  have h1 := of_decide_eq_true h
  have : q = 1 := by omega
  subst this; exact ⟨rfl, rfl⟩
theorem ph2 {q s c s0 c0 : Nat} (h : ((q : Int) == 2) = true) : phRe q c s0 c0 s = c0 ∧ phIm q s c s0 c0 = s0 := by
  have h1 := of_decide_eq_true h
  have : q = 2 := by omega
  subst this; exact ⟨rfl, rfl⟩
theorem ph3 {q s c s0 c0 : Nat} (h : ((q : Int) == 3) = true) : phRe q c s0 c0 s = s ∧ phIm q s c s0 c0 = c0 := by
  have h1 := of_decide_eq_true h
  have : q = 3 := by omega
  subst this; exact ⟨rfl, rfl⟩
theorem ph0 {q s c s0 c0 : Nat} (h1 : ((q : Int) == 1) = false) (h2 : ((q : Int) == 2) = false) (h3 : ((q : Int) == 3) = false) : phRe q c s0 c0 s = c ∧ phIm q s c s0 c0 = s := by
  have e1 : q ≠ 1 := fun h => by subst h; cases h1
  have e2 : q ≠ 2 := fun h => by subst h; cases h2
  have e3 : q ≠ 3 := fun h => by subst h; cases h3
  unfold phRe phIm
  rw [if_neg e1, if_neg e2, if_neg e3, if_neg e1, if_neg e2, if_neg e3]; exact ⟨rfl, rfl⟩
theorem complex_run (ts : Array TypeId) (t : TypeId) (a b : Nat) (W : World) : (Builtin.complex_ ts t #[.float .f32 a, .float .f32 b]).run Try.prog W = .ok (.complex .f32 a b) W := rfl
end Go.Proofs.Ytecncnkbgfjdcaa
