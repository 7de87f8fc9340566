/- Contracts of the laws' own helpers on []int64: eqInt64S at equal slices, markInt64S, heldInt64S. -/
import Derived.Test.YtdbcajiagjeplaaDoorRow
set_option linter.unusedVariables false
set_option linter.unusedSimpArgs false
namespace Go.Proofs.YtdbcajiagjeplaaDoor
open Go.RowKit
set_option maxHeartbeats 800000 in
theorem eqInts_same (A A' : Option Addr) (n c c' : Nat) (f : Nat → Int) (B B' : Nat) (w : World) (hn : n ≤ 4611686018427387904) (h : Row w B A n (fun j => .int .i64 (f j))) (h' : Row w B' A' n (fun j => .int .i64 (f j))) :
    Calls Tryd.prog 18 #[.slice A n c, .slice A' n c'] w fun e w' => e = .returned (.bool true) ∧ ∃ q, w' = w.drewN q := by
  have hne : ((n : Int) != n) = false := by simp
  go_enter Tryd.func18, Tryd.ntmps18
  go_wp2
  go_loopw [5] (fun i wr => ∃ k : Nat, k ≤ n ∧ i = .int .i64 k ∧ ∃ q, wr = w.drewN q) (fun i _ => n - (intOf i).toNat)
  case atStart => exact ⟨0, Nat.zero_le _, rfl, 0, rfl⟩
  case round =>
    obtain ⟨k, hk, rfl, q, rfl⟩ := hrel
    by_cases hlt : k < n
    · obtain ⟨b, off, rfl, _, hc⟩ := h (by omega)
      obtain ⟨b', off', rfl, _, hc'⟩ := h' (by omega)
      have h1 := hc k hlt
      have h2 := hc' k hlt
      have h3 : (f k != f k) = false := by simp
      clear hc hc' h h'
      generalize f k = x at *
      go_wp2
      go_quiet (fail)
      go_wp2
      go_roundw
      case rel => exact ⟨k + 1, by omega, by go_num, _, rfl⟩
      case measure => simp [intOf]; omega
    · go_wp2
      go_ret
      exact ⟨rfl, _, rfl⟩
/-- What markInt64S writes: k0, k0 + 1, .. -/
def Marked (ys : List Value) (k0 : Int) (k : Nat) : Prop := ∀ j, j < k → ys[j]? = some (.int .i64 (k0 + j))

theorem Marked.set {ys : List Value} {k0 : Int} {k : Nat} (h : Marked ys k0 k) (hk : k < ys.length) : Marked (ys.set k (.int .i64 (k0 + k))) k0 (k + 1) := by
  intro j hj
  by_cases e : j = k
  · subst e; simp [hk]
  · rw [List.getElem?_set_ne (by omega)]; exact h j (by omega)

set_option maxHeartbeats 800000 in
theorem markInts (base n : Nat) (v : Value) (xs : List Value) (k0 : Int) (w : World) (hn : n ≤ 1152921504606846976) (hk0 : k0 = 1) (hown : w.ownsRow base 2 1 v n xs) :
    Calls Tryd.prog 27 #[v, .int .i64 k0] w fun e w' => e = .returned (.int .i64 (k0 + n)) ∧ w.grownBy w' v.ownBlock ∧ ∃ ys, w'.ownsRow base 2 1 v n ys ∧ Marked ys k0 n := by
  have h1 : 0 ≤ k0 := by omega
  have h2 : k0 ≤ 1 := by omega
  clear hk0
  rcases hown.2 with ⟨rfl, rfl⟩ | ⟨g, cap, cur, rfl, hb, hg, hnc, hcm, hcs, htake⟩
  · go_enter Tryd.func27, Tryd.ntmps27
    go_wp2
    refine wp_loop_rounds 1 ?_
    rw [rounds_succ]
    go_wp2
    go_ret
    exact ⟨ret_int (by omega), World.grownBy.refl _ _, _, hown, fun j hj => absurd hj (by omega)⟩
  · clear hg hnc hcs htake hb hcm cur
    go_enter Tryd.func27, Tryd.ntmps27
    go_wp2
    go_loopw [1, 5] (fun m i wr => ∃ k : Nat, k ≤ n ∧ i = .int .i64 k ∧ m = .int .i64 (k0 + k) ∧ w.grownBy wr (some g) ∧ ∃ ys, wr.ownsRow base 2 1 (.slice (some ⟨g, 0, none⟩) n cap) n ys ∧ Marked ys k0 k) (fun _ i _ => n - (intOf i).toNat)
    case atStart => exact ⟨0, Nat.zero_le _, rfl, by simp, World.grownBy.refl _ _, _, hown, fun j hj => absurd hj (by omega)⟩
    case round =>
      obtain ⟨k, hk, rfl, rfl, hgr, ys, hys, hm⟩ := hrel
      by_cases hlt : k < n
      · have hlen := own_len hys
        have hc0 := hys.cellAt k (by omega)
        have hf0 := hys.frozenAt k
        obtain ⟨u, hu⟩ : ∃ u, ys[k]? = some u := ⟨_, List.getElem?_eq_getElem (by omega)⟩
        rw [hu] at hc0
        have H1 := hys.stored k (.int .i64 (k0 + k))
        have H2 := hm.set (by omega)
        have HH := Lib.hid (And.intro H1 H2)
        clear H1 H2 hm hys hlen hu
        go_wp2
        go_roundw
        case rel => exact ⟨k + 1, by omega, by go_num, by go_num, grown_trans hgr HH.out.1.2, _, HH.out.1.1, HH.out.2⟩
        case measure => simp [intOf]; omega
      · have hke : k = n := by omega
        subst hke
        clear hlt
        go_wp2
        go_ret
        exact ⟨rfl, hgr, _, hys, hm⟩
set_option maxHeartbeats 800000 in
theorem heldInts (A : Option Addr) (n c B : Nat) (k0 : Int) (w : World) (hn : n ≤ 1152921504606846976) (hk0 : k0 = 1) (h : Row w B A n (fun j => .int .i64 (k0 + j))) :
    Calls Tryd.prog 28 #[.slice A n c, .int .i64 k0] w fun e w' => e = .returned (.int .i64 (k0 + n)) ∧ w = w' := by
  have h1 : 0 ≤ k0 := by omega
  have h2 : k0 ≤ 1 := by omega
  clear hk0
  go_enter Tryd.func28, Tryd.ntmps28
  go_wp2
  go_loop [1, 5] (fun m i => ∃ k : Nat, k ≤ n ∧ i = .int .i64 k ∧ m = .int .i64 (k0 + k)) (fun _ i => n - (intOf i).toNat)
  case atStart => exact ⟨0, Nat.zero_le _, rfl, by simp⟩
  case round =>
    obtain ⟨k, hk, rfl, rfl⟩ := hrel
    by_cases hlt : k < n
    · obtain ⟨b, off, rfl, _, hc⟩ := h (by omega)
      have h3 := hc k hlt
      have h4 : ((k0 + k : Int) != k0 + k) = false := by simp
      clear hc h
      go_wp2
      go_round
      case rel => exact ⟨k + 1, by omega, by go_num, by go_num⟩
      case measure => simp [intOf]; omega
    · have hke : k = n := by omega
      subst hke
      clear hlt
      go_wp2
      go_ret
      exact ⟨rfl, rfl⟩
end Go.Proofs.YtdbcajiagjeplaaDoor
