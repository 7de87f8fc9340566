/- DescentCounts: both sides return a row of Euler's numbers. -/
import Derived.Test.YtajbepbggfbmpaaWDeckLaws
import Derived.StillTailTactics
import Derived.RegionTactic
import Derived.BigRegion
import Derived.Outline
set_option linter.unusedVariables false
set_option linter.unusedSimpArgs false
namespace Go.Proofs.Ytajbepbggfbmpaa
open Go.RowKit

/-- Number k of the row of m cards, out of the row r of one card fewer. -/
def eulAt (m : Nat) (r : List Int) (k : Nat) : Int := (if k + 1 < m then ((k : Int) + 1) * r.getD k 0 else 0) + (if 0 < k then ((m : Int) - k) * r.getD (k - 1) 0 else 0)
def eulRow (m : Nat) (r : List Int) (k : Nat) : List Int := (List.range k).map (eulAt m r)
/-- The row of i + 1 cards. -/
def eul : Nat → List Int
  | 0 => [1]
  | i + 1 => eulRow (i + 2) (eul i) (i + 2)
theorem eulRow_len (m : Nat) (r : List Int) (k : Nat) : (eulRow m r k).length = k := by simp [eulRow]
theorem eulRow_succ (m : Nat) (r : List Int) (k : Nat) : eulRow m r (k + 1) = eulRow m r k ++ [eulAt m r k] := by simp [eulRow, List.range_succ]
theorem eul_len (i : Nat) : (eul i).length = i + 1 := by
  cases i with
  | zero => rfl
  | succ i => exact eulRow_len _ _ _
def eulOk (i k : Nat) : Bool :=
  decide (0 ≤ ((k : Int) + 1) * (eul i).getD k 0) && (decide (((k : Int) + 1) * (eul i).getD k 0 ≤ 1000000000000000000) &&
  (decide (0 ≤ (((i : Int) + 2) - k) * (eul i).getD (k - 1) 0) && decide ((((i : Int) + 2) - k) * (eul i).getD (k - 1) 0 ≤ 1000000000000000000)))
theorem eul_ok : ∀ i : Nat, i < 19 → ∀ k : Nat, k < i + 2 → eulOk i k = true := by decide +kernel
structure EulB (m k : Nat) (a b : Int) : Prop where
  a0 : 0 ≤ ((k : Int) + 1) * a
  a1 : ((k : Int) + 1) * a ≤ 1000000000000000000
  b0 : 0 ≤ ((m : Int) - k) * b
  b1 : ((m : Int) - k) * b ≤ 1000000000000000000
theorem eul_b {m k : Nat} (h2 : 2 ≤ m) (hm : m ≤ 20) (hk : k < m) : EulB m k ((eul (m - 2)).getD k 0) ((eul (m - 2)).getD (k - 1) 0) := by
  have h := eul_ok (m - 2) (by omega) k (by omega)
  unfold eulOk at h
  rw [Bool.and_eq_true, Bool.and_eq_true, Bool.and_eq_true, decide_eq_true_eq, decide_eq_true_eq, decide_eq_true_eq, decide_eq_true_eq, show (((m - 2 : Nat) : Int) + 2) = (m : Int) by omega] at h
  exact ⟨h.1, h.2.1, h.2.2.1, h.2.2.2⟩
theorem eul_step {m : Nat} (h2 : 2 ≤ m) : eulRow m (eul (m - 2)) m = eul (m + 1 - 2) := by
  obtain ⟨i, rfl⟩ : ∃ i, m = i + 2 := ⟨m - 2, by omega⟩
  rw [show i + 2 + 1 - 2 = i + 1 by omega, show i + 2 - 2 = i by omega]; rfl
/-- The four kinds of place in a row. -/
theorem eulAt_only {m k : Nat} {r : List Int} (h1 : k + 1 < m) (h2 : k = 0) : eulAt m r k = ((k : Int) + 1) * r.getD k 0 := by
  unfold eulAt; rw [if_pos h1, if_neg (by omega)]; omega
theorem eulAt_mid {m k : Nat} {r : List Int} (h1 : k + 1 < m) (h2 : 0 < k) : eulAt m r k = ((k : Int) + 1) * r.getD k 0 + ((m : Int) - k) * r.getD (k - 1) 0 := by
  unfold eulAt; rw [if_pos h1, if_pos h2]
theorem eulAt_end {m k : Nat} {r : List Int} (h1 : ¬ k + 1 < m) (h2 : 0 < k) : eulAt m r k = ((m : Int) - k) * r.getD (k - 1) 0 := by
  unfold eulAt; rw [if_neg h1, if_pos h2]; omega

/-- The first k cells hold f, the rest nought. -/
structure Filled (ys : List Value) (f : Nat → Int) (k n : Nat) : Prop where
  now : ∀ j, j < k → ys[j]? = some (.int .i64 (f j))
  rest : ∀ j, k ≤ j → j < n → ys[j]? = some (.int .i64 0)
theorem Filled.set {ys : List Value} {f : Nat → Int} {k n : Nat} (h : Filled ys f k n) (hl : ys.length = n) (hk : k < n) {x : Int} (hx : x = f k) : Filled (ys.set k (.int .i64 x)) f (k + 1) n := by
  subst hx
  refine ⟨fun j hj => ?_, fun j h1 h2 => ?_⟩
  · by_cases e : j = k
    · subst e; rw [List.getElem?_set_self (by omega)]
    · rw [List.getElem?_set_ne (by omega)]; exact h.now j (by omega)
  · rw [List.getElem?_set_ne (by omega)]; exact h.rest j (by omega) h2
theorem Filled.done {ys : List Value} {f : Nat → Int} {n : Nat} (h : Filled ys f n n) (hl : ys.length = n) : ys = ints ((List.range n).map f) := by
  refine List.ext_getElem? fun j => ?_
  by_cases hj : j < n
  · rw [h.now j hj]
    simp [ints, intv, hj]
  · rw [List.getElem?_eq_none (by omega), List.getElem?_eq_none (by simp [ints]; omega)]

theorem own_new (w : World) (x : Value) (e : TypeId) : (w.alloc (.cells #[x] e)).ownsRow w.heap.size e 1 (.slice (some ⟨w.heap.size, 0, none⟩) 1 1) 1 [x] :=
  ⟨rfl, .inr ⟨w.heap.size, 1, #[x], rfl, Nat.le_refl _, heap_alloc_new w _, Nat.le_refl _, by unfold maxLen; omega, rfl, rfl⟩⟩

set_option maxHeartbeats 2000000 in
theorem l02Desc_any (n : Nat) (h1 : 1 ≤ n) (hn : n ≤ 20) (w : World) : Calls Try.prog 31 #[.int .i64 n] w fun e w' => GivesV 2 (ints (eul (n - 1))) w e w' := by
  obtain ⟨i0, hi, hz0, hz1, hz2⟩ := info_parts info_int
  go_enter Try.func31, Try.ntmps31
  go_wp2
  go_loopw [3, 4, 5, 6, 7] (fun v m _ _ _ wr => ∃ M : Nat, 2 ≤ M ∧ M ≤ n + 1 ∧ m = .int .i64 M ∧ wr.ownsRow w.heap.size 2 1 v (M - 1) (ints (eul (M - 2))) ∧ Below w.heap.size w wr) (fun _ m _ _ _ _ => n + 1 - (intOf m).toNat)
  case atStart => exact ⟨2, by omega, by omega, rfl, own_new w _ _, (Below.refl _ _).alloc (Nat.le_refl _) _⟩
  case round =>
    obtain ⟨M, hM2, hMn, rfl, hown, hb⟩ := hrel
    by_cases hlt : M ≤ n
    · obtain ⟨A, c, rfl, hr⟩ := own_row hown
      have HR := Lib.hid (hr.congr (g := fun j => .int .i64 ((eul (M - 2)).getD j 0)) (fun j hj => ints_getD _ j (by rw [eul_len]; omega)))
      have HO := Lib.hid hown
      clear hr hown
      go_wp2_with fail
      obtain ⟨wo, rfl⟩ : ∃ wo : World, wo = wr := ⟨_, rfl⟩
      go_loopw [5, 6, 7] (fun v k _ wr => ∃ K : Nat, K ≤ M ∧ k = .int .i64 K ∧ wr.ownsRow wo.heap.size 2 1 v K (ints (eulRow M (eul (M - 2)) K)) ∧ Below wo.heap.size wo wr) (fun _ k _ _ => M - (intOf k).toNat)
      case atStart => exact ⟨0, by omega, rfl, own_empty wo _, (Below.refl _ _).alloc (Nat.le_refl _) _⟩
      case round =>
        obtain ⟨K, hK, rfl, hown2, hb2⟩ := hrel
        have hs2 := hb2.size
        by_cases hlt2 : K < M
        · have hB := eul_b hM2 (by omega : M ≤ 20) hlt2
          have HRr := Lib.hid (HR.out.below (hb2.mono (Nat.le_refl _)))
          by_cases hk1 : K + 1 < M
          · by_cases hk0 : K ≤ 0
            · obtain ⟨b, off, rfl, _, hc⟩ := HRr.out (by omega)
              have h3 : wr.cell? ⟨b, off + K, none⟩ = some (.int .i64 ((eul (M - 2)).getD K 0)) := hc K (by omega)
              have HX := Lib.hid (eulAt_only (r := eul (M - 2)) hk1 (by omega))
              have hb0 := hB.a0; have hb1 := hB.a1; have hb2' := hB.b0; have hb3 := hB.b1
              clear hc hB HRr HR HO
              generalize (eul (M - 2)).getD K 0 = a at *
              go_wp2_with (at_builtin; refine wpList_append_own _ rfl _ _ 22 rfl wo.heap.size 2 i0 (.int .i64 0) 1 8 Try.underlying22 hi hz0 hz1 hz2 rfl (by decide) _ K (ints (eulRow M (eul (M - 2)) K)) rfl (hown2.alloc _) ⟨wr.heap.size, 0, none⟩ 1 1 [.int .i64 (((K : Int) + 1) * a)] rfl rfl (new_one _ _ _) (int_one _) (by unfold maxLen; omega) (by omega) (by simp; omega) ?_; intro v' w1 hown' hgrow _)
              have hfin := And.intro hown' (step_below hb2 hown2 hgrow)
              rw [show ints (eulRow M (eul (M - 2)) K) ++ [.int .i64 (((K : Int) + 1) * a)] = ints (eulRow M (eul (M - 2)) (K + 1)) from by rw [eulRow_succ, ints_snoc, HX.out]] at hfin
              go_roundw
              case rel => exact ⟨K + 1, by omega, by go_num, hfin.1, hfin.2⟩
              case measure => simp [intOf]; omega
            · have hk2 : 0 < K := by omega
              clear hk0
              obtain ⟨b, off, rfl, _, hc⟩ := HRr.out (by omega)
              have h3 : wr.cell? ⟨b, off + K, none⟩ = some (.int .i64 ((eul (M - 2)).getD K 0)) := hc K (by omega)
              have h4 : wr.cell? ⟨b, off + (K - 1), none⟩ = some (.int .i64 ((eul (M - 2)).getD (K - 1) 0)) := hc (K - 1) (by omega)
              have HX := Lib.hid (eulAt_mid (r := eul (M - 2)) hk1 hk2)
              have hb0 := hB.a0; have hb1 := hB.a1; have hb2' := hB.b0; have hb3 := hB.b1
              clear hc hB HRr HR HO
              generalize (eul (M - 2)).getD K 0 = a at *
              generalize (eul (M - 2)).getD (K - 1) 0 = a2 at *
              go_wp2_with (at_builtin; refine wpList_append_own _ rfl _ _ 22 rfl wo.heap.size 2 i0 (.int .i64 0) 1 8 Try.underlying22 hi hz0 hz1 hz2 rfl (by decide) _ K (ints (eulRow M (eul (M - 2)) K)) rfl (hown2.alloc _) ⟨wr.heap.size, 0, none⟩ 1 1 [.int .i64 (((K : Int) + 1) * a + ((M : Int) - K) * a2)] rfl rfl (new_one _ _ _) (int_one _) (by unfold maxLen; omega) (by omega) (by simp; omega) ?_; intro v' w1 hown' hgrow _)
              have hfin := And.intro hown' (step_below hb2 hown2 hgrow)
              rw [show ints (eulRow M (eul (M - 2)) K) ++ [.int .i64 (((K : Int) + 1) * a + ((M : Int) - K) * a2)] = ints (eulRow M (eul (M - 2)) (K + 1)) from by rw [eulRow_succ, ints_snoc, HX.out]] at hfin
              go_roundw
              case rel => exact ⟨K + 1, by omega, by go_num, hfin.1, hfin.2⟩
              case measure => simp [intOf]; omega
          · have hk2 : 0 < K := by omega
            obtain ⟨b, off, rfl, _, hc⟩ := HRr.out (by omega)
            have h4 : wr.cell? ⟨b, off + (K - 1), none⟩ = some (.int .i64 ((eul (M - 2)).getD (K - 1) 0)) := hc (K - 1) (by omega)
            have HX := Lib.hid (eulAt_end (r := eul (M - 2)) hk1 hk2)
            have hb0 := hB.a0; have hb1 := hB.a1; have hb2' := hB.b0; have hb3 := hB.b1
            clear hc hB HRr HR HO
            generalize (eul (M - 2)).getD (K - 1) 0 = a2 at *
            go_wp2_with (at_builtin; refine wpList_append_own _ rfl _ _ 22 rfl wo.heap.size 2 i0 (.int .i64 0) 1 8 Try.underlying22 hi hz0 hz1 hz2 rfl (by decide) _ K (ints (eulRow M (eul (M - 2)) K)) rfl (hown2.alloc _) ⟨wr.heap.size, 0, none⟩ 1 1 [.int .i64 (((M : Int) - K) * a2)] rfl rfl (new_one _ _ _) (int_one _) (by unfold maxLen; omega) (by omega) (by simp; omega) ?_; intro v' w1 hown' hgrow _)
            have hfin := And.intro hown' (step_below hb2 hown2 hgrow)
            rw [show ints (eulRow M (eul (M - 2)) K) ++ [.int .i64 (((M : Int) - K) * a2)] = ints (eulRow M (eul (M - 2)) (K + 1)) from by rw [eulRow_succ, ints_snoc, HX.out]] at hfin
            go_roundw
            case rel => exact ⟨K + 1, by omega, by go_num, hfin.1, hfin.2⟩
            case measure => simp [intOf]; omega
        · have hke : K = M := by omega
          subst hke
          clear hlt2
          go_wp2_with fail
          have hfin := And.intro (own_base hown2 hb.size) (hb.trans (hb2.mono hb.size))
          rw [eul_step hM2] at hfin
          go_roundw
          case rel => exact ⟨K + 1, by omega, by omega, by go_num, hfin.1, hfin.2⟩
          case measure => simp [intOf]; omega
    · have hme : M = n + 1 := by omega
      subst hme
      clear hlt
      go_wp2
      go_ret
      exact ⟨_, rfl, by rw [show n - 1 = n + 1 - 2 by omega, ints_len, eul_len, show n + 1 - 2 + 1 = n + 1 - 1 by omega]; exact hown, hb⟩
end Go.Proofs.Ytajbepbggfbmpaa
