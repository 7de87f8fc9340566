/- Contracts of the laws' helpers on []complex64. -/
import Derived.Test.YtdbcajiagjeplaaDoorSameC
import Derived.Test.YtdbcajiagjeplaaDoorFloats
import Derived.Test.YtdbcajiagjeplaaDoorMarkF
import Derived.Laws.Cover3
set_option linter.unusedVariables false
set_option linter.unusedSimpArgs false
namespace Go.Proofs.YtdbcajiagjeplaaDoor
open Go.RowKit

theorem cwide_fn (a b : Nat) : ∃ f1 f2 n : World → Nat, (∀ W, (convert 66 68 (.complex .f32 a b)).run Tryd.prog W = .ok (.complex .f64 (f1 W) (f2 W)) (W.drewN (n W))) ∧ (∀ W, FIs .f64 (f1 W) (fwide (val .f32 a))) ∧ (∀ W, FIs .f64 (f2 W) (fwide (val .f32 b))) := by
  have h : ∀ W, ∃ p : Nat × Nat × Nat, (convert 66 68 (.complex .f32 a b)).run Tryd.prog W = .ok (.complex .f64 p.1 p.2.1) (W.drewN p.2.2) ∧ FIs .f64 p.1 (fwide (val .f32 a)) ∧ FIs .f64 p.2.1 (fwide (val .f32 b)) := fun W => by
    obtain ⟨r1, r2, n, h1, h2, h3⟩ := cwide_run a b W
    exact ⟨(r1, r2, n), h1, h2, h3⟩
  obtain ⟨f, hf⟩ := Classical.axiomOfChoice h
  exact ⟨fun W => (f W).1, fun W => (f W).2.1, fun W => (f W).2.2, fun W => (hf W).1, fun W => (hf W).2.1, fun W => (hf W).2.2⟩
def cxv (p : Nat × Nat) : Value := .complex .f32 p.1 p.2
set_option maxHeartbeats 1600000 in
theorem eqCs_same (A A' : Option Addr) (n c c' : Nat) (f : Nat → Nat × Nat) (B B' : Nat) (w : World) (hn : n ≤ 4611686018427387904) (h : Row w B A n (fun j => cxv (f j))) (h' : Row w B' A' n (fun j => cxv (f j))) :
    Calls Tryd.prog 35 #[.slice A n c, .slice A' n c'] w fun e w' => e = .returned (.bool true) ∧ ∃ q, w' = w.drewN q := by
  have hne : ((n : Int) != n) = false := by simp
  go_enter Tryd.func35, Tryd.ntmps35
  go_wp2
  go_loopw [5] (fun i wr => ∃ k : Nat, k ≤ n ∧ i = .int .i64 k ∧ ∃ q, wr = w.drewN q) (fun i _ => n - (intOf i).toNat)
  case atStart => exact ⟨0, Nat.zero_le _, rfl, 0, rfl⟩
  case round =>
    obtain ⟨k, hk, rfl, q, rfl⟩ := hrel
    by_cases hlt : k < n
    · obtain ⟨b, off, rfl, _, hc⟩ := h (by omega)
      obtain ⟨b', off', rfl, _, hc'⟩ := h' (by omega)
      have h1 : w.cell? ⟨b, off + k, none⟩ = some (.complex .f32 (f k).1 (f k).2) := hc k hlt
      have h2 : w.cell? ⟨b', off' + k, none⟩ = some (.complex .f32 (f k).1 (f k).2) := hc' k hlt
      clear hc hc' h h'
      generalize (f k).1 = x at *
      generalize (f k).2 = y at *
      obtain ⟨f1, f2, nn, hcv, hf1, hf2⟩ := cwide_fn x y
      have H1 := Lib.hid hf1
      have H2 := Lib.hid hf2
      clear hf1 hf2
      go_wp2_with fail
      go_region_with (go_at_call 56; refine (sameComplex_same _ _ _ _ _ _ (H1.out _) (H2.out _) (H1.out _) (H2.out _) _).mono ?_; rintro e w' ⟨rfl, qq, rfl⟩)
      all_goals go_wp2
      all_goals go_roundw
      all_goals first | exact ⟨k + 1, by omega, by go_num, _, rfl⟩ | (simp [intOf]; omega)
    · go_wp2
      go_ret
      exact ⟨rfl, _, rfl⟩
theorem fwd_bits {k : Int} (h0 : 0 ≤ k) (h : k < 300) : floatToFloatBits .f64 (floatOfInt .f64 k) .f32 = some (fwd k) := by
  obtain ⟨n, rfl⟩ := Int.eq_ofNat_of_zero_le h0
  have key : ∀ k : Fin 300, floatToFloatBits .f64 (floatOfInt .f64 ((k.val : Nat) : Int)) .f32 = some (fwd ((k.val : Nat) : Int)) := by decide +kernel
  exact key ⟨n, by omega⟩
theorem f2f_det {b z : Nat} (h : floatToFloatBits .f64 b .f32 = some z) (W : World) : (Conv.floatToFloat .f64 b .f32).run Tryd.prog W = .ok (.float .f32 z) W := by
  have hd : (Tryd.prog).underlying 55 = some (.float .f32) := by kernel_rfl
  have hs : (Tryd.prog).underlying 58 = some (.float .f64) := by kernel_rfl
  have h1 := run_convert_float_float (P := Tryd.prog) W 58 55 .f64 .f32 b z (by kernel_rfl) (by kernel_rfl) h
  rw [← h1]
  simp [convert, run_underlying hs, run_underlying hd]
theorem cnarrow_det {a b x y : Nat} (h1 : floatToFloatBits .f64 a .f32 = some x) (h2 : floatToFloatBits .f64 b .f32 = some y) (W : World) : (convert 68 66 (.complex .f64 a b)).run Tryd.prog W = .ok (.complex .f32 x y) W := by
  have hd : (Tryd.prog).underlying 66 = some (.complex .f32) := by kernel_rfl
  have hs : (Tryd.prog).underlying 68 = some (.complex .f64) := by kernel_rfl
  simp [convert, run_underlying hs, run_underlying hd, Conv.complexToComplex, f2f_det h1, f2f_det h2]
theorem one_bits : floatToFloatBits .f64 4607182418800017408 .f32 = some 1065353216 := by decide +kernel
theorem cmark_run {k : Int} (h0 : 0 ≤ k) (h : k < 300) (W : World) : (convert 68 66 (.complex .f64 (floatOfInt .f64 k) 4607182418800017408)).run Tryd.prog W = .ok (.complex .f32 (fwd k) 1065353216) W := cnarrow_det (fwd_bits h0 h) one_bits W
/-- What markComplex64S writes. -/
def MarkedC (ys : List Value) (k0 : Int) (k : Nat) : Prop := ∀ j, j < k → ys[j]? = some (.complex .f32 (fwd (k0 + j)) 1065353216)
theorem MarkedC.set {ys : List Value} {k0 : Int} {k : Nat} (h : MarkedC ys k0 k) (hk : k < ys.length) : MarkedC (ys.set k (.complex .f32 (fwd (k0 + k)) 1065353216)) k0 (k + 1) := by
  intro j hj
  by_cases e : j = k
  · subst e; simp [hk]
  · rw [List.getElem?_set_ne (by omega)]; exact h j (by omega)
set_option maxHeartbeats 800000 in
theorem markCs (base n : Nat) (v : Value) (xs : List Value) (k0 : Int) (w : World) (hn : n ≤ 256) (hk0 : k0 = 1) (hown : w.ownsRow base 66 1 v n xs) :
    Calls Tryd.prog 36 #[v, .int .i64 k0] w fun e w' => e = .returned (.int .i64 (k0 + n)) ∧ w.grownBy w' v.ownBlock ∧ ∃ ys, w'.ownsRow base 66 1 v n ys ∧ MarkedC ys k0 n := by
  have h1 : 0 ≤ k0 := by omega
  have h2 : k0 ≤ 1 := by omega
  clear hk0
  rcases hown.2 with ⟨rfl, rfl⟩ | ⟨g, cap, cur, rfl, hb, hg, hnc, hcm, hcs, htake⟩
  · go_enter Tryd.func36, Tryd.ntmps36
    go_wp2
    refine wp_loop_rounds 1 ?_
    rw [rounds_succ]
    go_wp2
    go_ret
    exact ⟨ret_int (by omega), World.grownBy.refl _ _, _, hown, fun j hj => absurd hj (by omega)⟩
  · clear hg hnc hcs htake hb hcm cur
    go_enter Tryd.func36, Tryd.ntmps36
    go_wp2
    go_loopw [1, 5] (fun m i wr => ∃ k : Nat, k ≤ n ∧ i = .int .i64 k ∧ m = .int .i64 (k0 + k) ∧ w.grownBy wr (some g) ∧ ∃ ys, wr.ownsRow base 66 1 (.slice (some ⟨g, 0, none⟩) n cap) n ys ∧ MarkedC ys k0 k) (fun _ i _ => n - (intOf i).toNat)
    case atStart => exact ⟨0, Nat.zero_le _, rfl, by simp, World.grownBy.refl _ _, _, hown, fun j hj => absurd hj (by omega)⟩
    case round =>
      obtain ⟨k, hk, rfl, rfl, hgr, ys, hys, hm⟩ := hrel
      by_cases hlt : k < n
      · have hlen := own_len hys
        have hc0 := hys.cellAt k (by omega)
        have hf0 := hys.frozenAt k
        obtain ⟨u, hu⟩ : ∃ u, ys[k]? = some u := ⟨_, List.getElem?_eq_getElem (by omega)⟩
        rw [hu] at hc0
        have hcv := cmark_run (k := k0 + k) (by omega) (by omega)
        have hst := fun W => run_store Tryd.prog W ⟨g, k, none⟩ (.complex .f32 (fwd (k0 + k)) 1065353216) .plain rfl
        have H1 := hys.stored k (.complex .f32 (fwd (k0 + k)) 1065353216)
        have H2 := hm.set (by omega)
        have HH := Lib.hid (And.intro H1 H2)
        clear H1 H2 hm hys hlen hu
        go_wp2
        go_roundw
        case rel => exact ⟨k + 1, by omega, by go_num, by go_num, grown_trans hgr HH.out.1.2, _, HH.out.1.1, HH.out.2⟩
        case measure => simp [intOf]; omega
      · have hke : k = n := by omega
        subst hke
        clear hlt
        go_wp2
        go_ret
        exact ⟨rfl, hgr, _, hys, hm⟩
set_option maxHeartbeats 800000 in
theorem heldCs (A : Option Addr) (n c B : Nat) (k0 : Int) (w : World) (hn : n ≤ 256) (hk0 : k0 = 1) (h : Row w B A n (fun j => .complex .f32 (fwd (k0 + j)) 1065353216)) :
    Calls Tryd.prog 37 #[.slice A n c, .int .i64 k0] w fun e w' => e = .returned (.int .i64 (k0 + n)) ∧ w = w' := by
  have h1 : 0 ≤ k0 := by omega
  have h2 : k0 ≤ 1 := by omega
  clear hk0
  go_enter Tryd.func37, Tryd.ntmps37
  go_wp2
  go_loop [1, 5] (fun m i => ∃ k : Nat, k ≤ n ∧ i = .int .i64 k ∧ m = .int .i64 (k0 + k)) (fun _ i => n - (intOf i).toNat)
  case atStart => exact ⟨0, Nat.zero_le _, rfl, by simp⟩
  case round =>
    obtain ⟨k, hk, rfl, rfl⟩ := hrel
    by_cases hlt : k < n
    · obtain ⟨b, off, rfl, _, hc⟩ := h (by omega)
      have h3 : w.cell? ⟨b, off + k, none⟩ = some (.complex .f32 (fwd (k0 + k)) 1065353216) := hc k hlt
      have h4 := fwd_ne (k := k0 + k) (by omega) (by omega)
      have hcv := cmark_run (k := k0 + k) (by omega) (by omega)
      clear hc h
      have h5 : (FloatKind.f32.format.order 1065353216 1065353216 == some .eq) = true := by decide +kernel
      have h6 : (FloatKind.f32.format.order (fwd (k0 + k)) (fwd (k0 + k)) == some .eq) = true := by unfold fwd; simpa [bne] using h4
      clear h4
      go_wp2
      go_round
      case rel => exact ⟨k + 1, by omega, by go_num, by go_num⟩
      case measure => simp [intOf]; omega
    · have hke : k = n := by omega
      subst hke
      clear hlt
      go_wp2
      go_ret
      exact ⟨rfl, rfl⟩
end Go.Proofs.YtdbcajiagjeplaaDoor
