/- Contracts of the laws' helpers on []float32: markFloat32S, heldFloat32S. -/
import Derived.Test.YtdbcajiagjeplaaDoorFloats
import Derived.Test.YtdbcajiagjeplaaDoorWFin
import Derived.Laws.Cover2
set_option linter.unusedVariables false
set_option linter.unusedSimpArgs false
namespace Go.Proofs.YtdbcajiagjeplaaDoor
open Go.RowKit
/-- The word of float32(k). -/
def fwd (k : Int) : Nat := floatOfInt .f32 k
theorem fwd_ok {k : Nat} (h : k < 300) : (val .f32 (fwd (k : Int))).isNone = false := by
  have key : ∀ k : Fin 300, (val .f32 (fwd ((k.val : Nat) : Int))).isNone = false := by decide +kernel
  exact key ⟨k, h⟩
theorem fwd_ne {k : Int} (h0 : 0 ≤ k) (h : k < 300) : (FloatKind.f32.format.order (floatOfInt .f32 k) (floatOfInt .f32 k) != some .eq) = false := by
  obtain ⟨n, rfl⟩ := Int.eq_ofNat_of_zero_le h0
  rw [ne_self .f32]
  exact fwd_ok (by omega)
/-- What markFloat32S writes. -/
def MarkedF (ys : List Value) (k0 : Int) (k : Nat) : Prop := ∀ j, j < k → ys[j]? = some (.float .f32 (fwd (k0 + j)))
theorem MarkedF.set {ys : List Value} {k0 : Int} {k : Nat} (h : MarkedF ys k0 k) (hk : k < ys.length) : MarkedF (ys.set k (.float .f32 (floatOfInt .f32 (k0 + k)))) k0 (k + 1) := by
  intro j hj
  by_cases e : j = k
  · subst e; simp [hk, fwd]
  · rw [List.getElem?_set_ne (by omega)]; exact h j (by omega)
set_option maxHeartbeats 800000 in
theorem markFloats (base n : Nat) (v : Value) (xs : List Value) (k0 : Int) (w : World) (hn : n ≤ 256) (hk0 : k0 = 1) (hown : w.ownsRow base 55 1 v n xs) :
    Calls Tryd.prog 31 #[v, .int .i64 k0] w fun e w' => e = .returned (.int .i64 (k0 + n)) ∧ w.grownBy w' v.ownBlock ∧ ∃ ys, w'.ownsRow base 55 1 v n ys ∧ MarkedF ys k0 n := by
  have h1 : 0 ≤ k0 := by omega
  have h2 : k0 ≤ 1 := by omega
  clear hk0
  rcases hown.2 with ⟨rfl, rfl⟩ | ⟨g, cap, cur, rfl, hb, hg, hnc, hcm, hcs, htake⟩
  · go_enter Tryd.func31, Tryd.ntmps31
    go_wp2
    refine wp_loop_rounds 1 ?_
    rw [rounds_succ]
    go_wp2
    go_ret
    exact ⟨ret_int (by omega), World.grownBy.refl _ _, _, hown, fun j hj => absurd hj (by omega)⟩
  · clear hg hnc hcs htake hb hcm cur
    go_enter Tryd.func31, Tryd.ntmps31
    go_wp2
    go_loopw [1, 5] (fun m i wr => ∃ k : Nat, k ≤ n ∧ i = .int .i64 k ∧ m = .int .i64 (k0 + k) ∧ w.grownBy wr (some g) ∧ ∃ ys, wr.ownsRow base 55 1 (.slice (some ⟨g, 0, none⟩) n cap) n ys ∧ MarkedF ys k0 k) (fun _ i _ => n - (intOf i).toNat)
    case atStart => exact ⟨0, Nat.zero_le _, rfl, by simp, World.grownBy.refl _ _, _, hown, fun j hj => absurd hj (by omega)⟩
    case round =>
      obtain ⟨k, hk, rfl, rfl, hgr, ys, hys, hm⟩ := hrel
      by_cases hlt : k < n
      · have hlen := own_len hys
        have hc0 := hys.cellAt k (by omega)
        have hf0 := hys.frozenAt k
        obtain ⟨u, hu⟩ : ∃ u, ys[k]? = some u := ⟨_, List.getElem?_eq_getElem (by omega)⟩
        rw [hu] at hc0
        have H1 := hys.stored k (.float .f32 (floatOfInt .f32 (k0 + k)))
        have H2 := hm.set (by omega)
        have HH := Lib.hid (And.intro H1 H2)
        clear H1 H2 hm hys hlen hu
        go_wp2
        go_roundw
        case rel => exact ⟨k + 1, by omega, by go_num, by go_num, grown_trans hgr HH.out.1.2, _, HH.out.1.1, HH.out.2⟩
        case measure => simp [intOf]; omega
      · have hke : k = n := by omega
        subst hke
        clear hlt
        go_wp2
        go_ret
        exact ⟨rfl, hgr, _, hys, hm⟩
set_option maxHeartbeats 800000 in
theorem heldFloats (A : Option Addr) (n c B : Nat) (k0 : Int) (w : World) (hn : n ≤ 256) (hk0 : k0 = 1) (h : Row w B A n (fun j => .float .f32 (fwd (k0 + j)))) :
    Calls Tryd.prog 32 #[.slice A n c, .int .i64 k0] w fun e w' => e = .returned (.int .i64 (k0 + n)) ∧ w = w' := by
  have h1 : 0 ≤ k0 := by omega
  have h2 : k0 ≤ 1 := by omega
  clear hk0
  go_enter Tryd.func32, Tryd.ntmps32
  go_wp2
  go_loop [1, 5] (fun m i => ∃ k : Nat, k ≤ n ∧ i = .int .i64 k ∧ m = .int .i64 (k0 + k)) (fun _ i => n - (intOf i).toNat)
  case atStart => exact ⟨0, Nat.zero_le _, rfl, by simp⟩
  case round =>
    obtain ⟨k, hk, rfl, rfl⟩ := hrel
    by_cases hlt : k < n
    · obtain ⟨b, off, rfl, _, hc⟩ := h (by omega)
      have h3 : w.cell? ⟨b, off + k, none⟩ = some (.float .f32 (floatOfInt .f32 (k0 + k))) := hc k hlt
      have h4 := fwd_ne (k := k0 + k) (by omega) (by omega)
      clear hc h
      go_wp2
      go_round
      case rel => exact ⟨k + 1, by omega, by go_num, by go_num⟩
      case measure => simp [intOf]; omega
    · have hke : k = n := by omega
      subst hke
      clear hlt
      go_wp2
      go_ret
      exact ⟨rfl, rfl⟩
end Go.Proofs.YtdbcajiagjeplaaDoor
