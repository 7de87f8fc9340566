/- math.Sqrt, the narrowing, RootNumber: contracts and the law. -/
import Derived.Test.YtecglaggmheokaaWRoot
import Derived.Test.YtecglaggmheokaaFBound3
set_option linter.unusedVariables false
set_option linter.unusedSimpArgs false
namespace Go.Proofs.Ytecglaggmheokaa
open Go.RowKit near

theorem UB.wide_of {x : Nat} (hx : rg FloatKind.f32.format x < 2139095040) (N : Nat) (hN : N = 1202) : UB (fwide (val .f32 x)) N := by
  intro b hb
  have hn : (FloatKind.f32.decode x).isNaN = false := by
    rw [decode_isNaN, decide_eq_false_iff_not, inf32]
    show ¬ 2139095040 < rg FloatKind.f32.format x
    omega
  rw [val_some hn] at hb
  have hb' : FloatKind.f64.encode (FloatKind.f32.decode x) = b := Option.some.inj hb
  obtain ⟨q, hq, hql, hu⟩ := wide_number hx
  rw [hq] at hb'
  rw [← hb', rg_word .f64 _ _ (by rw [sw64]; omega), hu]
  have h3 := units_lt FloatKind.f32.format hx
  rw [units_inf32] at h3
  have h4 := Nat.le_of_lt (Nat.mul_lt_mul_of_pos_right h3 (Nat.two_pow_pos 925))
  refine Nat.le_trans h4 ?_
  have h6 := pow_scale 254 925 23 0 N 8388608 1 (by decide) (by decide) (by omega)
  exact Nat.le_of_eq (h6.trans (Nat.one_mul _))

theorem UB.wide {x : Nat} (hx : rg FloatKind.f32.format x < 2139095040) : UB (fwide (val .f32 x)) 1202 := UB.wide_of hx 1202 rfl

/-- The root of any float32, widened, can be narrowed. -/
theorem fits_sqrt (x : Nat) : fitsNarrow (fsqrt (fwide (val .f32 x))) := by
  cases hn : (FloatKind.f32.decode x).isNaN with
  | true => rw [val_none hn]; intro b hb; cases hb
  | false =>
    have hr := not_nan_rg hn
    rw [inf32] at hr
    by_cases hi : rg FloatKind.f32.format x = 2139095040
    · rw [val_some hn]
      intro b hb _ hinf
      have h1 : fsqrt (some (FloatKind.f64.encode (FloatKind.f32.decode x))) = some b := hb
      rw [wide_inf hi] at h1
      cases hs : sgn FloatKind.f32.format x with
      | true => rw [hs] at h1; exfalso; revert h1; rw [show fsqrt (some (FloatKind.f64.format.word true 9218868437227405312)) = none by decide +kernel]; intro h; cases h
      | false =>
        rw [hs] at h1
        rw [show fsqrt (some (FloatKind.f64.format.word false 9218868437227405312)) = some 9218868437227405312 by decide +kernel] at h1
        obtain rfl := Option.some.inj h1
        exfalso; revert hinf; decide +kernel
    · exact fits_of_UB (UB.sqrt (G := 1140) (UB.wide (by omega)) (by omega) (by omega) (by omega)) (by omega)

theorem sqrt_entry (x : Nat) : Extern.MathSqrt.sqrt #[.float .f64 x] = (match FloatKind.f64.format.sqrt x with
    | some r => pure (.float .f64 r)
    | none => do pure (.float .f64 (← choose (.nanBits .f64 x x)))) := rfl
theorem mathSqrt_any (x : Nat) (w : World) : Calls Try.prog 56 #[.float .f64 x] w fun e w' => RetF .f64 (fsqrt (val .f64 x)) w e w' := by
  have hext := fun W => run_callFunc_extern (P := Try.prog) Try.func80 (by kernel_rfl) (by kernel_rfl) (by kernel_rfl) (e := Extern.MathSqrt.sqrt) (by kernel_rfl) #[.float .f64 x] W
  have hval : val .f64 x = some x ∨ val .f64 x = none := by
    cases hn : (FloatKind.f64.decode x).isNaN with
    | true => exact .inr (val_none hn)
    | false => exact .inl (val_some hn)
  cases hq : FloatKind.f64.format.sqrt x with
  | some r =>
    have hrun : ∀ W, (callFunc 80 #[.float .f64 x]).run Try.prog W = .ok (.value (.float .f64 r)) W := by
      intro W
      rw [hext W]
      rw [sqrt_entry, hq]
      rfl
    have hd : ((FloatKind.f64.decode x).root 54).map FloatKind.f64.format.write = some r := hq
    have HF : Hid (FIs .f64 r (fsqrt (val .f64 x))) := by
      refine Lib.hid ?_
      obtain ⟨d, h1, rfl⟩ := Option.map_eq_some_iff.1 hd
      have hdn : d.isNaN = false := by
        cases hx : FloatKind.f64.decode x with
        | nan s f => rw [hx] at h1; cases h1
        | infinity s => rw [hx] at h1; simp only [Ieee.Datum.root] at h1; split at h1 <;> cases h1; rfl
        | number s m e => rw [hx] at h1; simp only [Ieee.Datum.root] at h1; (repeat' split at h1) <;> first | (cases h1; done) | (cases h1; rfl)
      have hxn : (FloatKind.f64.decode x).isNaN = false := by
        cases hx : FloatKind.f64.decode x with
        | nan s f => rw [hx] at h1; cases h1
        | infinity s => rfl
        | number s m e => rfl
      rw [val_some hxn]
      show FIs .f64 _ (FloatKind.f64.format.sqrt x)
      rw [hq]
      exact FIs.mk (val_some (write_not_nan .f64 d hdn)) (Ieee.Format.write_lt _ _)
    clear hext hval hq hd
    go_enter Try.func56, Try.ntmps56
    go_wp2_with fail
    go_ret
    exact ⟨_, 0, rfl, HF.out, rfl⟩
  | none =>
    have hrun : ∀ W, (callFunc 80 #[.float .f64 x]).run Try.prog W = .ok (.value (.float .f64 ((Question.nanBits .f64 x x).cut (W.tape W.drawn (.nanBits .f64 x x))))) W.drew := by
      intro W
      rw [hext W]
      rw [sqrt_entry, hq]
      simp [Question.forced]
    have HF : Hid (fsqrt (val .f64 x) = none) := by
      refine Lib.hid ?_
      rcases hval with h | h
      · rw [h]; exact hq
      · rw [h]; rfl
    clear hext hval hq
    go_enter Try.func56, Try.ntmps56
    go_wp2_with fail
    go_ret
    exact ⟨_, 1, rfl, by rw [HF.out]; exact FIs.mk (val_nanCut _ _ _ _) (nanCut_lt _ _ _ _), rfl⟩
theorem l01Narrow_any (x : Nat) (hfit : fitsNarrow (val .f64 x)) (w : World) : Calls Try.prog 79 #[.float .f64 x] w fun e w' => RetF .f32 (fnarrow (val .f64 x)) w e w' := by
  have Hf := Lib.hid hfit
  clear hfit
  go_enter Try.func79, Try.ntmps79
  go_wp2_with (refine wpList_narrow rfl _ _ _ rfl (by kernel_rfl) (by kernel_rfl) _ rfl Hf.out ?_; intro r n hr)
  go_ret
  exact ⟨_, _, rfl, hr, rfl⟩
end Go.Proofs.Ytecglaggmheokaa
