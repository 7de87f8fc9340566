/- The reference's draws of lists of numbers. -/
import Derived.Test.YtdbcajiagjeplaaGreatDoorZWSrc3
import Derived.Test.YtdbcajiagjeplaaGreatDoorZWNRd2
import Derived.Deep.DeepMust
set_option linter.unusedVariables false
set_option linter.unusedSimpArgs false
namespace Go.Proofs.YtdbcajiagjeplaaGreatDoor
open Go.RowKit

theorem own_ne {w : World} {base e n b : Nat} {v : Value} {xs : List Value} (h : w.ownsRow base e 1 v n xs) (hb : b < base) : v.ownBlock ≠ some b := fun hk => by
  have := (h.lt b hk).1
  omega
/-- A list of floats is drawn into a new row; nothing that was there has turned, but the source. -/
def RetDL (N B : Nat) (w : World) (e : Ending) (w' : World) : Prop := ∃ (v : Value) (l : List Nat), e = .returned v ∧ l.length = N ∧ (∀ x ∈ l, x < 4294967296) ∧ w'.ownsRow w.heap.size 24 1 v N (fls l) ∧ Below B w w'
set_option maxRecDepth 20000 in
set_option maxHeartbeats 1600000 in
theorem floats_any (b : Nat) (A : Option Addr) (n c m B N : Nat) (f : Nat → Int) (w : World) (hN : N ≤ 1000) (hs : Src w b A n c m) (hm : m ≤ 100000) (hr : Bytes w B A n f) (hB : B ≤ b) :
    Calls Tryz.prog 47 #[.pointer (some ⟨b, 0, none⟩), .int .i64 (N : Int)] w fun e w' => RetDL N B w e w' := by
  obtain ⟨i0, hi0, hz0, hz1, hz2⟩ := info_parts info_f32
  have hblk := hs.block
  go_enter Tryz.func47, Tryz.ntmps47
  go_wp2_with fail
  have hb0 : Below w.heap.size w (w.alloc (.cells #[] 24)) := (Below.refl _ _).alloc (Nat.le_refl _) _
  have hs0 := hs.below hb0 hblk
  have hr0 := hr.below (hb0.mono (by omega))
  refine (one_any b A n c m B 4 f _ (by omega) (by omega) hs0 (by omega) hr0 hB).mono ?_
  rintro e w1 ⟨o, rfl, hs1, hg1⟩
  have ho1 := own_src (own_empty w 24) hg1 (own_ne (own_empty w 24) hblk)
  have hb1 : Below B w w1 := (hb0.mono (by omega)).trans (below_src hg1 (by simp; omega) hB)
  have hz1' := hg1.size
  simp at hz1'
  clear hs0 hr0 hg1 hs hb0
  go_wp2_with fail
  go_loopw [1, 5] (fun nv ov wr => ∃ (j : Nat) (l : List Nat), nv = .int .i64 ((N : Int) - (j : Int)) ∧ j ≤ N ∧ l.length = j ∧ (∀ x ∈ l, x < 4294967296) ∧ wr.ownsRow w.heap.size 24 1 ov j (fls l) ∧ Below B w wr ∧ w.heap.size ≤ wr.heap.size ∧ Src wr b A n c (m + 2 + 12 * j)) (fun nv _ _ => (Go.RowKit.intOf nv).toNat)
  case atStart => exact ⟨0, [], by simp, by omega, rfl, by simp, ho1, hb1, by omega, hs1⟩
  case round =>
    obtain ⟨j, l, rfl, hj, hl, hall, ho, hb, hz, hsr⟩ := hrel
    by_cases hlt : j < N
    · have g1 : (0 : Int) < (N : Int) - (j : Int) := by omega
      have hrr := hr.below hb
      cases o with
      | true =>
        go_wp2_with fail
        refine (float_any b A n c (m + 2 + 12 * j) B f _ hsr (by omega) hrr hB).mono ?_
        rintro e w2 ⟨r, rfl, hr32, hs2, hg2⟩
        have ho2 := own_src ho hg2 (own_ne ho hblk)
        have hb2 : Below B w w2 := hb.trans (below_src hg2 (by omega) hB)
        have hsz2 := hg2.size
        have hblk2 := hs2.block
        clear ho hb hg2 hsr hrr
        go_wp2_with (at_builtin; go_must (refine wpList_append_own_at _ rfl (.tmp 15) (.tmp 18) 30 rfl w.heap.size 24 i0 (.float .f32 0) 1 4 Tryz.underlying30 hi0 hz0 hz1 hz2 rfl (by decide) _ j (fls l) rfl (ho2.alloc _) ⟨w2.heap.size, 0, none⟩ 1 1 [.float .f32 r] rfl rfl (new_one _ _ _) (fl_one _) (by unfold maxLen; omega) (by omega) (by simp; omega) ?_); intro v' w3 hown3 hgr3 _ hblk3)
        have hal : Below w2.heap.size w2 (w2.alloc (.cells #[.float .f32 r] 24)) := (Below.refl _ _).alloc (Nat.le_refl _) _
        have hb3 : Below B w w3 := (hb2.trans (hal.mono (by omega))).grown hgr3 (by simp; omega) (fun k hk => by have := (ho2.lt k hk).1; omega)
        have hs3 : Src w3 b A n c (m + 2 + 12 * (j + 1)) := ((hs2.below hal hblk2).grown hgr3 (own_ne ho2 hblk)).mono (by omega)
        have hsz3 := hgr3.size
        simp at hsz3
        go_roundw
        case rel => exact ⟨j + 1, l ++ [r], by rw [show (((j + 1 : Nat)) : Int) = (j : Int) + 1 from rfl]; congr 1; omega, by omega, by simp [hl], by simp; intro x hx; rcases hx with hx | rfl; exact hall x hx; exact hr32, by rw [fls_snoc]; exact hown3, hb3, by omega, hs3⟩
        case measure => simp [Go.RowKit.intOf]; omega
      | false =>
        go_wp2_with fail
        refine (plain_any b A n c (m + 2 + 12 * j) B f _ hsr (by omega) hrr hB).mono ?_
        rintro e w2 ⟨r, rfl, hr32, hs2, hg2⟩
        have ho2 := own_src ho hg2 (own_ne ho hblk)
        have hb2 : Below B w w2 := hb.trans (below_src hg2 (by omega) hB)
        have hsz2 := hg2.size
        have hblk2 := hs2.block
        clear ho hb hg2 hsr hrr
        go_wp2_with (at_builtin; go_must (refine wpList_append_own_at _ rfl (.tmp 20) (.tmp 23) 30 rfl w.heap.size 24 i0 (.float .f32 0) 1 4 Tryz.underlying30 hi0 hz0 hz1 hz2 rfl (by decide) _ j (fls l) rfl (ho2.alloc _) ⟨w2.heap.size, 0, none⟩ 1 1 [.float .f32 r] rfl rfl (new_one _ _ _) (fl_one _) (by unfold maxLen; omega) (by omega) (by simp; omega) ?_); intro v' w3 hown3 hgr3 _ hblk3)
        have hal : Below w2.heap.size w2 (w2.alloc (.cells #[.float .f32 r] 24)) := (Below.refl _ _).alloc (Nat.le_refl _) _
        have hb3 : Below B w w3 := (hb2.trans (hal.mono (by omega))).grown hgr3 (by simp; omega) (fun k hk => by have := (ho2.lt k hk).1; omega)
        have hs3 : Src w3 b A n c (m + 2 + 12 * (j + 1)) := ((hs2.below hal hblk2).grown hgr3 (own_ne ho2 hblk)).mono (by omega)
        have hsz3 := hgr3.size
        simp at hsz3
        go_roundw
        case rel => exact ⟨j + 1, l ++ [r], by rw [show (((j + 1 : Nat)) : Int) = (j : Int) + 1 from rfl]; congr 1; omega, by omega, by simp [hl], by simp; intro x hx; rcases hx with hx | rfl; exact hall x hx; exact hr32, by rw [fls_snoc]; exact hown3, hb3, by omega, hs3⟩
        case measure => simp [Go.RowKit.intOf]; omega
    · obtain rfl : j = N := by omega
      go_wp2_with fail
      go_ret
      exact ⟨_, l, rfl, hl, hall, ho, hb⟩
theorem b10Numbers_any (A : Option Addr) (n c N : Nat) (f : Nat → Int) (w : World) (hN : N ≤ 1000) (hr : Bytes w w.heap.size A n f) : Calls Tryz.prog 10 #[.slice A n c, .int .i64 (N : Int)] w fun e w' => ∃ (v : Value) (l : List Nat), e = .returned v ∧ l.length = N ∧ (∀ x ∈ l, x < 4294967296) ∧ w'.ownsRow w.heap.size 24 1 v N (fls l) ∧ Below w.heap.size w w' := by
  go_enter Tryz.func10, Tryz.ntmps10
  go_wp2_with fail
  refine (from_any A n c _).mono ?_
  rintro e w1 ⟨rfl, hs1, hb1, hz1⟩
  have hr1 := hr.below hb1
  go_wp2_with fail
  refine (floats_any w.heap.size A n c 0 w.heap.size N f _ hN hs1 (by omega) hr1 (Nat.le_refl _)).mono ?_
  rintro e w2 ⟨v, l, rfl, hl, hall, ho, hb2⟩
  go_wp2_with fail
  go_ret
  exact ⟨_, l, rfl, hl, hall, own_base ho (by omega), hb1.trans hb2⟩
end Go.Proofs.YtdbcajiagjeplaaGreatDoor
