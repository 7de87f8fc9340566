/- DotNumbers: contracts. -/
import Derived.Test.YtecglaggmheokaaWSum
import Derived.RegionTactic
set_option linter.unusedVariables false
set_option linter.unusedSimpArgs false
namespace Go.Proofs.Ytecglaggmheokaa
open Go.RowKit

/-- The word of a NaN that an invalid operation gives in the world w. -/
def nanArith (k : FloatKind) (w : World) (x y : Nat) : Nat := (Question.nanBits k x y).cut (w.tape w.drawn (.nanBits k x y))
theorem nanArith_val (k : FloatKind) (w : World) (x y : Nat) : val k (nanArith k w x y) = none := val_nanCut k x y _
theorem nanArith_is (k : FloatKind) (w : World) (x y : Nat) : FIs k (nanArith k w x y) none := FIs.mk (val_nanCut k x y _) (nanCut_lt k x y _)

theorem run_arith_none {P : Program} (op : BinOp) (hop : isArith op = true) (t : TypeId) (k : FloatKind) (x y : Nat) (hb : floatBits op k x y = none) (w : World) :
    (binOp op t (.float k x) (.float k y)).run P w = .ok (.float k (nanArith k w x y)) w.drew := by
  unfold floatBits at hb
  cases op <;> simp only [isArith] at hop <;> first | (cases hop; done) | skip
  all_goals
    simp only at hb
    simp [binOp, Op.floatArith, hb, Question.forced]
    rfl

theorem dotV_some {f g : Nat → Nat} {k r p s : Nat} (h : FIs .f32 r (dotV f g k)) (h1 : floatBits .mul .f32 (f k) (g k) = some p) (h2 : floatBits .add .f32 r p = some s) : FIs .f32 s (dotV f g (k + 1)) := by
  refine FIs.mk ?_ (floatBits_lt h2)
  have e1 : val .f32 p = some p := val_some (floatBits_not_nan h1)
  rw [val_some (floatBits_not_nan h2)]
  show some s = fop .add .f32 (dotV f g k) (fop .mul .f32 (val .f32 (f k)) (val .f32 (g k)))
  rw [← floatBits_val, h1, ← h.out, ← e1, ← floatBits_val, h2]
theorem dotV_none2 {f g : Nat → Nat} {k r p : Nat} (h : FIs .f32 r (dotV f g k)) (h1 : floatBits .mul .f32 (f k) (g k) = some p) (h2 : floatBits .add .f32 r p = none) : dotV f g (k + 1) = none := by
  have e1 : val .f32 p = some p := val_some (floatBits_not_nan h1)
  show fop .add .f32 (dotV f g k) (fop .mul .f32 (val .f32 (f k)) (val .f32 (g k))) = none
  rw [← floatBits_val, h1, ← h.out, ← e1, ← floatBits_val, h2]
theorem dotV_none1 {f g : Nat → Nat} {k : Nat} (h1 : floatBits .mul .f32 (f k) (g k) = none) : dotV f g (k + 1) = none := by
  show fop .add .f32 (dotV f g k) (fop .mul .f32 (val .f32 (f k)) (val .f32 (g k))) = none
  rw [← floatBits_val, h1]
  cases dotV f g k <;> rfl
theorem dotV_step {f g : Nat → Nat} {k r p s : Nat} (h : FIs .f32 r (dotV f g k)) (h1 : FIs .f32 p (fop .mul .f32 (val .f32 (f k)) (val .f32 (g k)))) (h2 : FIs .f32 s (fop .add .f32 (val .f32 r) (val .f32 p))) : FIs .f32 s (dotV f g (k + 1)) := by
  rw [h.out, h1.out] at h2; exact h2

set_option maxHeartbeats 1600000 in
theorem l01Dot_any (A A' : Option Addr) (n c c' B B' : Nat) (f g : Nat → Nat) (w : World) (hn : n ≤ 1048576) (h : Row w B A n (fun j => .float .f32 (f j))) (h' : Row w B' A' n (fun j => .float .f32 (g j))) :
    Calls Try.prog 54 #[.slice A n c, .slice A' n c'] w fun e w' => RetF .f32 (dotV f g n) w e w' := by
  go_enter Try.func54, Try.ntmps54
  go_wp2
  go_loopw [5, 6] (fun s i wr => ∃ k : Nat, k ≤ n ∧ i = .int .i64 k ∧ ∃ r q, s = .float .f32 r ∧ FIs .f32 r (dotV f g k) ∧ wr = w.drewN q) (fun _ i _ => n - (intOf i).toNat)
  case atStart => exact ⟨0, Nat.zero_le _, rfl, _, 0, rfl, fis_zero, rfl⟩
  case round =>
    obtain ⟨k, hk, rfl, r, q, rfl, hr, rfl⟩ := hrel
    by_cases hlt : k < n
    · obtain ⟨b, off, rfl, _, hc⟩ := h (by omega)
      obtain ⟨b', off', rfl, _, hc'⟩ := h' (by omega)
      have h1 : w.cell? ⟨b, off + k, none⟩ = some (.float .f32 (f k)) := hc k hlt
      have h2 : w.cell? ⟨b', off' + k, none⟩ = some (.float .f32 (g k)) := hc' k hlt
      clear hc hc' h h'
      cases hm : floatBits .mul .f32 (f k) (g k) with
      | some p =>
        have hrm := run_float_arith (P := Try.prog) (op := .mul) (t := 22) (k := .f32) (h := hm)
        cases ha : floatBits .add .f32 r p with
        | some s =>
          have hra := run_float_arith (P := Try.prog) (op := .add) (t := 22) (k := .f32) (h := ha)
          have HD := Lib.hid (dotV_some hr hm ha)
          clear hm ha hr
          generalize f k = x at *
          generalize g k = y at *
          go_wp2_with fail
          go_quiet (fail)
          go_wp2
          go_roundw
          case rel => exact ⟨k + 1, by omega, by go_num, _, _, rfl, HD.out, rfl⟩
          case measure => simp [intOf]; omega
        | none =>
          have hra := run_arith_none (P := Try.prog) .add rfl 22 .f32 _ _ ha
          have HD := Lib.hid (dotV_none2 hr hm ha)
          clear hm ha hr
          generalize f k = x at *
          generalize g k = y at *
          go_wp2_with fail
          go_region
          all_goals go_wp2
          all_goals go_roundw
          all_goals first | exact ⟨k + 1, by omega, by go_num, _, _, rfl, by rw [HD.out]; exact nanArith_is _ _ _ _, rfl⟩ | (simp [intOf]; omega)
      | none =>
        have hrm := run_arith_none (P := Try.prog) .mul rfl 22 .f32 _ _ hm
        have hra := fun W => run_arith_none (P := Try.prog) .add rfl 22 .f32 r (nanArith .f32 W (f k) (g k)) (by rw [floatBits_val, nanArith_val]; cases val .f32 r <;> rfl)
        have HD := Lib.hid (dotV_none1 hm)
        clear hm hr
        generalize f k = x at *
        generalize g k = y at *
        go_wp2_with fail
        go_region
        all_goals go_wp2
        all_goals go_roundw
        all_goals first | exact ⟨k + 1, by omega, by go_num, _, _, rfl, by rw [HD.out]; exact nanArith_is _ _ _ _, rfl⟩ | (simp [intOf]; omega)
    · have hke : k = n := by omega
      subst hke
      clear hlt
      go_wp2
      go_ret
      exact ⟨_, _, rfl, hr, rfl⟩
set_option maxHeartbeats 1600000 in
theorem implDot_yes (A A' : Option Addr) (n c c' B B' : Nat) (f g : Nat → Nat) (w : World) (hn : n ≤ 256) (h : Row w B A n (fun j => .float .f32 (f j))) (h' : Row w B' A' n (fun j => .float .f32 (g j))) :
    Calls Try.prog 25 #[.slice A n c, .slice A' n c'] w fun e w' => RetFB (dotV f g n) true w e w' := by
  have hne : ((n : Int) != n) = false := by simp
  go_enter Try.func25, Try.ntmps25
  go_wp2
  go_loopw [6, 7, 8, 21] (fun s _ _ i wr => ∃ k : Nat, k ≤ n ∧ i = .int .i64 k ∧ ∃ r q, s = .float .f32 r ∧ FIs .f32 r (dotV f g k) ∧ wr = w.drewN q) (fun _ _ _ i _ => n - (intOf i).toNat)
  case atStart => exact ⟨0, Nat.zero_le _, rfl, _, 0, rfl, fis_zero, rfl⟩
  case round =>
    obtain ⟨k, hk, rfl, r, q, rfl, hr, rfl⟩ := hrel
    by_cases hlt : k < n
    · obtain ⟨b, off, rfl, _, hc⟩ := h (by omega)
      obtain ⟨b', off', rfl, _, hc'⟩ := h' (by omega)
      have h1 : w.cell? ⟨b, off + k, none⟩ = some (.float .f32 (f k)) := hc k hlt
      have h2 : w.cell? ⟨b', off' + k, none⟩ = some (.float .f32 (g k)) := hc' k hlt
      clear hc hc' h h'
      have tok : True := trivial
      go_wp2_with (first | (have _t := tok; refine wpList_fop rfl _ _ _ _ _ rfl rfl _ _ _ rfl rfl ?_; intro p n1 hp; clear tok) | (refine wpList_fop rfl _ _ _ _ _ rfl rfl _ _ _ rfl rfl ?_; intro s n2 hs))
      go_roundw
      case rel => exact ⟨k + 1, by omega, by go_num, _, _, rfl, dotV_step hr hp hs, rfl⟩
      case measure => simp [intOf]; omega
    · have hke : k = n := by omega
      subst hke
      clear hlt
      go_wp2
      go_ret2
      exact ⟨_, _, rfl, hr, rfl⟩
end Go.Proofs.Ytecglaggmheokaa
