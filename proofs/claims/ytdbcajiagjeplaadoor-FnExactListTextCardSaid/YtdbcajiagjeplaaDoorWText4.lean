/- ListText of the program: the loop. -/
import Derived.Test.YtdbcajiagjeplaaDoorWText3
set_option linter.unusedVariables false
set_option linter.unusedSimpArgs false
namespace Go.Proofs.YtdbcajiagjeplaaDoor
open Go.RowKit Go.Lib

set_option maxRecDepth 20000 in
set_option maxHeartbeats 800000 in
theorem implListText_any (A : Option Addr) (n c : Nat) (f : Nat → Int) (hn : n ≤ 2097152) (w : World) (h : I64R w w.heap.size A n f) (ht : Pow10 w) :
    Calls Tryd.prog 17 #[.slice A n c] w fun e w' => RetT f n w e w' := by
  obtain ⟨i0, hi0, hz0, hz1, hz2⟩ := info_parts info_str
  go_enter Tryd.func17, Tryd.ntmps17
  go_wp2_with fail
  go_loopw [4, 10] (fun wv iv wr => ∃ i : Nat, i ≤ n ∧ iv = .int .i64 (i : Int) ∧ (∀ j, j < i → valB (f j) = true) ∧ (0 < i → n ≤ 64) ∧ wr.ownsRow w.heap.size 9 1 wv i (strs f i) ∧ Below w.heap.size w wr) (fun _ iv _ => n - (Go.RowKit.intOf iv).toNat)
  case atStart => exact ⟨0, by omega, rfl, fun j hj => by omega, fun h => by omega, own_empty _ _, (Below.refl _ _).alloc (Nat.le_refl _) _⟩
  case round =>
    obtain ⟨i, hi, rfl, hall, h64, ho, hw⟩ := hrel
    by_cases hlt : i < n
    · obtain ⟨b, off, rfl, hb, hc⟩ := h (by omega)
      have hcell : wr.cell? ⟨b, off + i, none⟩ = some (.int .i64 (f i)) := (hw.cell (p := ⟨b, off + i, none⟩) hb).trans (hc i hlt)
      have g3 : (i : Int) < (n : Int) := by omega
      clear hc
      go_wp2_with fail
      refine (isValue_any _ _).mono ?_
      rintro e w' ⟨rfl, rfl⟩
      cases hv : inB (f i) (-1000000000000000) 1000000000000000 with
      | false =>
        go_wp2_with fail
        go_ret2
        have hk := okL_false (f := f) hlt hv
        exact ⟨by rw [hk]; rfl, hw⟩
      | true =>
        by_cases hs : n ≤ 64
        · have g4 : ¬ (64 : Int) < (n : Int) := by omega
          have h0 := valB_iff.1 hv
          go_wp2_with fail
          refine (implDecimal_any (f i) (by omega) (by omega) _ (ht.below (Nat.le_refl _) hw)).mono ?_
          rintro e w2 ⟨rfl, hb2⟩
          have ho2 := own_below ho hb2
          have hw2 := hw.trans (hb2.mono hw.size)
          have HS := hw2.size
          go_wp2_with (at_builtin; go_must (refine wpList_append_own_at _ rfl (.tmp 22) (.tmp 25) 52 rfl w.heap.size 9 i0 (.string ⟨#[]⟩) 1 16 Tryd.underlying52 hi0 hz0 hz1 hz2 rfl (by decide) _ i (strs f i) rfl (ho2.alloc _) ⟨w2.heap.size, 0, none⟩ 1 1 [.string ⟨(itoa (f i)).toArray⟩] rfl rfl (new_one _ _ _) (str_one _) (by unfold maxLen; omega) (by omega) (by simp; omega) ?_); intro v' w3 hown3 hgr3 _ hblk3)
          have hb3 := step_below hw2 ho2 hgr3
          go_roundw
          case rel => exact ⟨i + 1, by omega, rfl, fun j hj => by
            rcases Nat.lt_or_ge j i with h1 | h1
            · exact hall j h1
            · obtain rfl : j = i := by omega
              exact hv, fun _ => hs, by rw [strs_succ]; exact hown3, hb3⟩
          case measure => simp [Go.RowKit.intOf]; omega
        · have g4 : (64 : Int) < (n : Int) := by omega
          go_wp2_with fail
          go_ret2
          have hk : okL f n = false := by unfold okL; rw [decide_eq_false hs, Bool.false_and]
          exact ⟨by rw [hk]; rfl, hw⟩
    · obtain rfl : i = n := by omega
      have hs : i ≤ 64 := by
        rcases Nat.eq_zero_or_pos i with h1 | h1
        · omega
        · exact h64 h1
      have hk : okL f i = true := by rw [okL_true hall]; exact decide_eq_true hs
      go_wp2_with fail
      refine (listOrNone_any _ f i hs hall _ w.heap.size hw.size ho).mono ?_
      rintro e w2 ⟨rfl, hb2⟩
      go_wp2_with fail
      go_ret2
      exact ⟨by rw [hk]; rfl, hw.trans (hb2.mono hw.size)⟩
end Go.Proofs.YtdbcajiagjeplaaDoor
