/- The reference's draws of complex numbers. -/
import Derived.Test.YtdbcajiagjeplaaGreatDoorZWSrc4
import Derived.Test.YtdbcajiagjeplaaGreatDoorZWCRd
import Derived.Test.YtdbcajiagjeplaaGreatDoorZFIntC
set_option linter.unusedVariables false
set_option linter.unusedSimpArgs false
namespace Go.Proofs.YtdbcajiagjeplaaGreatDoor
open Ieee Go.RowKit near

/-- A complex number is drawn; only the source has turned. -/
def DrawnC (w : World) (b : Nat) (A : Option Addr) (n c m : Nat) (e : Ending) (w' : World) : Prop := ∃ r s : Nat, e = .returned (.complex .f32 r s) ∧ r < 4294967296 ∧ s < 4294967296 ∧ Src w' b A n c m ∧ w.grownBy w' (some b)
theorem drawC_any (b : Nat) (A : Option Addr) (n c m B : Nat) (f : Nat → Int) (w : World) (hs : Src w b A n c m) (hm : m ≤ 600000) (hr : Bytes w B A n f) (hB : B ≤ b) :
    Calls Tryz.prog 65 #[.pointer (some ⟨b, 0, none⟩)] w fun e w' => DrawnC w b A n c (m + 30) e w' := by
  have hblk := hs.block
  go_enter Tryz.func65, Tryz.ntmps65
  go_wp2_with fail
  refine (float_any b A n c m B f _ hs (by omega) hr hB).mono ?_
  rintro e w1 ⟨r, rfl, hr32, hs1, hg1⟩
  have hr1 := hr.src hg1 (by omega) hB
  go_wp2_with fail
  refine (float_any b A n c (m + 12) B f _ hs1 (by omega) hr1 hB).mono ?_
  rintro e w2 ⟨s, rfl, hs32, hs2, hg2⟩
  go_wp2_with fail
  go_ret
  exact ⟨_, _, rfl, hr32, hs32, hs2.mono (by omega), grown_trans hg1 hg2⟩
theorem fine_any (b : Nat) (A : Option Addr) (n c m B : Nat) (f : Nat → Int) (w : World) (hs : Src w b A n c m) (hm : m ≤ 600000) (hr : Bytes w B A n f) (hB : B ≤ b) :
    Calls Tryz.prog 66 #[.pointer (some ⟨b, 0, none⟩)] w fun e w' => DrawnC w b A n c (m + 30) e w' := by
  have hblk := hs.block
  go_enter Tryz.func66, Tryz.ntmps66
  go_wp2_with fail
  refine (pick_any b A n c m B 65 f _ (by omega) (by omega) hs (by omega) hr hB).mono ?_
  rintro e w1 ⟨x, rfl, hx, hs1, hg1⟩
  have hr1 := hr.src hg1 (by omega) hB
  have hx1 : (x : Int) < 65 := by omega
  have hz1 := hg1.size
  clear hr hs
  go_wp2_with (refine wpList_fop rfl _ _ _ _ _ rfl rfl _ _ _ rfl rfl ?_; intro r q hq)
  have hsd := hs1.drewN q
  have hrd : Bytes (w1.drewN q) B A n f := ⟨hr1.1.drewN q, hr1.2⟩
  have hgd := grown_drewN hg1 q
  have HQ := Lib.hid (fis_lt hq)
  clear hs1 hg1 hr1 hq
  generalize w1.drewN q = wd at *
  refine (pick_any b A n c (m + 2) B 65 f _ (by omega) (by omega) hsd (by omega) hrd hB).mono ?_
  rintro e w2 ⟨y, rfl, hy, hs2, hg2⟩
  have hy1 : (y : Int) < 65 := by omega
  have HS := Lib.hid (And.intro hs2 (grown_trans hgd hg2))
  clear hs2 hg2 hgd hsd hrd
  go_wp2_with (refine wpList_fop rfl _ _ _ _ _ rfl rfl _ _ _ rfl rfl ?_; intro r2 q2 hq2)
  go_ret
  exact ⟨_, _, rfl, HQ.out, fis_lt hq2, (HS.out.1.drewN _).mono (by omega), grown_drewN HS.out.2 _⟩
/-- Words of complex numbers. -/
def Words (l : List (Nat × Nat)) : Prop := ∀ x ∈ l, x.1 < 4294967296 ∧ x.2 < 4294967296
set_option maxRecDepth 20000 in
set_option maxHeartbeats 1600000 in
theorem complexes_any (b : Nat) (A : Option Addr) (n c m B N : Nat) (f : Nat → Int) (w : World) (hN : N ≤ 1000) (hs : Src w b A n c m) (hm : m ≤ 100000) (hr : Bytes w B A n f) (hB : B ≤ b) :
    Calls Tryz.prog 64 #[.pointer (some ⟨b, 0, none⟩), .int .i64 (N : Int)] w fun e w' => ∃ (v : Value) (l : List (Nat × Nat)), e = .returned v ∧ l.length = N ∧ Words l ∧ w'.ownsRow w.heap.size 42 1 v N (cxs l) ∧ Below B w w' := by
  obtain ⟨i0, hi0, hz0, hz1, hz2⟩ := info_parts info_cx
  have hblk := hs.block
  go_enter Tryz.func64, Tryz.ntmps64
  go_wp2_with fail
  have hb0 : Below w.heap.size w (w.alloc (.cells #[] 42)) := (Below.refl _ _).alloc (Nat.le_refl _) _
  have hs0 := hs.below hb0 hblk
  have hr0 := hr.below (hb0.mono (by omega))
  refine (one_any b A n c m B 5 f _ (by omega) (by omega) hs0 (by omega) hr0 hB).mono ?_
  rintro e w1 ⟨o, rfl, hs1, hg1⟩
  have ho1 := own_src (own_empty w 42) hg1 (own_ne (own_empty w 42) hblk)
  have hb1 : Below B w w1 := (hb0.mono (by omega)).trans (below_src hg1 (by simp; omega) hB)
  have hz1' := hg1.size
  simp at hz1'
  clear hs0 hr0 hg1 hs hb0
  go_wp2_with fail
  go_loopw [1, 5] (fun nv ov wr => ∃ (j : Nat) (l : List (Nat × Nat)), nv = .int .i64 ((N : Int) - (j : Int)) ∧ j ≤ N ∧ l.length = j ∧ Words l ∧ wr.ownsRow w.heap.size 42 1 ov j (cxs l) ∧ Below B w wr ∧ w.heap.size ≤ wr.heap.size ∧ Src wr b A n c (m + 2 + 30 * j)) (fun nv _ _ => (Go.RowKit.intOf nv).toNat)
  case atStart => exact ⟨0, [], by simp, by omega, rfl, (fun x hx => by cases hx), ho1, hb1, by omega, hs1⟩
  case round =>
    obtain ⟨j, l, rfl, hj, hl, hall, ho, hb, hz, hsr⟩ := hrel
    by_cases hlt : j < N
    · have g1 : (0 : Int) < (N : Int) - (j : Int) := by omega
      have hrr := hr.below hb
      cases o with
      | true =>
        go_wp2_with fail
        refine (drawC_any b A n c (m + 2 + 30 * j) B f _ hsr (by omega) hrr hB).mono ?_
        rintro e w2 ⟨r, s, rfl, hr32, hs32, hs2, hg2⟩
        have ho2 := own_src ho hg2 (own_ne ho hblk)
        have hb2 : Below B w w2 := hb.trans (below_src hg2 (by omega) hB)
        have hsz2 := hg2.size
        have hblk2 := hs2.block
        clear ho hb hg2 hsr hrr
        go_wp2_with (at_builtin; go_must (refine wpList_append_own_at _ rfl (.tmp 15) (.tmp 18) 45 rfl w.heap.size 42 i0 (.complex .f32 0 0) 1 8 Tryz.underlying45 hi0 hz0 hz1 hz2 rfl (by decide) _ j (cxs l) rfl (ho2.alloc _) ⟨w2.heap.size, 0, none⟩ 1 1 [.complex .f32 r s] rfl rfl (new_one _ _ _) (cx_one _ _) (by unfold maxLen; omega) (by omega) (by simp; omega) ?_); intro v' w3 hown3 hgr3 _ hblk3)
        have hal : Below w2.heap.size w2 (w2.alloc (.cells #[.complex .f32 r s] 42)) := (Below.refl _ _).alloc (Nat.le_refl _) _
        have hb3 : Below B w w3 := (hb2.trans (hal.mono (by omega))).grown hgr3 (by simp; omega) (fun k hk => by have := (ho2.lt k hk).1; omega)
        have hs3 : Src w3 b A n c (m + 2 + 30 * (j + 1)) := ((hs2.below hal hblk2).grown hgr3 (own_ne ho2 hblk)).mono (by omega)
        have hsz3 := hgr3.size
        simp at hsz3
        go_roundw
        case rel => exact ⟨j + 1, l ++ [(r, s)], by rw [show (((j + 1 : Nat)) : Int) = (j : Int) + 1 from rfl]; congr 1; omega, by omega, by simp [hl], by intro x hx; rcases List.mem_append.1 hx with hx | hx; exact hall x hx; rw [List.mem_singleton.1 hx]; exact ⟨hr32, hs32⟩, by rw [cxs_snoc]; exact hown3, hb3, by omega, hs3⟩
        case measure => simp [Go.RowKit.intOf]; omega
      | false =>
        go_wp2_with fail
        refine (fine_any b A n c (m + 2 + 30 * j) B f _ hsr (by omega) hrr hB).mono ?_
        rintro e w2 ⟨r, s, rfl, hr32, hs32, hs2, hg2⟩
        have ho2 := own_src ho hg2 (own_ne ho hblk)
        have hb2 : Below B w w2 := hb.trans (below_src hg2 (by omega) hB)
        have hsz2 := hg2.size
        have hblk2 := hs2.block
        clear ho hb hg2 hsr hrr
        go_wp2_with (at_builtin; go_must (refine wpList_append_own_at _ rfl (.tmp 20) (.tmp 23) 45 rfl w.heap.size 42 i0 (.complex .f32 0 0) 1 8 Tryz.underlying45 hi0 hz0 hz1 hz2 rfl (by decide) _ j (cxs l) rfl (ho2.alloc _) ⟨w2.heap.size, 0, none⟩ 1 1 [.complex .f32 r s] rfl rfl (new_one _ _ _) (cx_one _ _) (by unfold maxLen; omega) (by omega) (by simp; omega) ?_); intro v' w3 hown3 hgr3 _ hblk3)
        have hal : Below w2.heap.size w2 (w2.alloc (.cells #[.complex .f32 r s] 42)) := (Below.refl _ _).alloc (Nat.le_refl _) _
        have hb3 : Below B w w3 := (hb2.trans (hal.mono (by omega))).grown hgr3 (by simp; omega) (fun k hk => by have := (ho2.lt k hk).1; omega)
        have hs3 : Src w3 b A n c (m + 2 + 30 * (j + 1)) := ((hs2.below hal hblk2).grown hgr3 (own_ne ho2 hblk)).mono (by omega)
        have hsz3 := hgr3.size
        simp at hsz3
        go_roundw
        case rel => exact ⟨j + 1, l ++ [(r, s)], by rw [show (((j + 1 : Nat)) : Int) = (j : Int) + 1 from rfl]; congr 1; omega, by omega, by simp [hl], by intro x hx; rcases List.mem_append.1 hx with hx | hx; exact hall x hx; rw [List.mem_singleton.1 hx]; exact ⟨hr32, hs32⟩, by rw [cxs_snoc]; exact hown3, hb3, by omega, hs3⟩
        case measure => simp [Go.RowKit.intOf]; omega
    · obtain rfl : j = N := by omega
      go_wp2_with fail
      go_ret
      exact ⟨_, l, rfl, hl, hall, ho, hb⟩
theorem b10Any_any (A : Option Addr) (n c N : Nat) (f : Nat → Int) (w : World) (hN : N ≤ 1000) (hr : Bytes w w.heap.size A n f) : Calls Tryz.prog 29 #[.slice A n c, .int .i64 (N : Int)] w fun e w' => ∃ (v : Value) (l : List (Nat × Nat)), e = .returned v ∧ l.length = N ∧ Words l ∧ w'.ownsRow w.heap.size 42 1 v N (cxs l) ∧ Below w.heap.size w w' := by
  go_enter Tryz.func29, Tryz.ntmps29
  go_wp2_with fail
  refine (from_any A n c _).mono ?_
  rintro e w1 ⟨rfl, hs1, hb1, hz1⟩
  have hr1 := hr.below hb1
  go_wp2_with fail
  refine (complexes_any w.heap.size A n c 0 w.heap.size N f _ hN hs1 (by omega) hr1 (Nat.le_refl _)).mono ?_
  rintro e w2 ⟨v, l, rfl, hl, hall, ho, hb2⟩
  go_wp2_with fail
  go_ret
  exact ⟨_, l, rfl, hl, hall, own_base ho (by omega), hb1.trans hb2⟩
theorem b10Complex_any (A : Option Addr) (n c : Nat) (f : Nat → Int) (w : World) (hr : Bytes w w.heap.size A n f) : Calls Tryz.prog 32 #[.slice A n c] w fun e w' => ∃ r s : Nat, e = .returned (.complex .f32 r s) ∧ r < 4294967296 ∧ s < 4294967296 ∧ Below w.heap.size w w' := by
  go_enter Tryz.func32, Tryz.ntmps32
  go_wp2_with fail
  refine (from_any A n c _).mono ?_
  rintro e w1 ⟨rfl, hs1, hb1, hz1⟩
  have hr1 := hr.below hb1
  go_wp2_with fail
  refine (one_any w.heap.size A n c 0 w.heap.size 4 f _ (by omega) (by omega) hs1 (by omega) hr1 (Nat.le_refl _)).mono ?_
  rintro e w2 ⟨o, rfl, hs2, hg2⟩
  have hb2 := hb1.trans (below_src hg2 (by omega) (Nat.le_refl _))
  have hr2 := hr.below hb2
  have hz2 := hg2.size
  cases o with
  | true =>
    go_wp2_with fail
    refine (drawC_any w.heap.size A n c 2 w.heap.size f _ hs2 (by omega) hr2 (Nat.le_refl _)).mono ?_
    rintro e w3 ⟨r, s, rfl, h1, h2, hs3, hg3⟩
    go_wp2_with fail
    go_ret
    exact ⟨_, _, rfl, h1, h2, hb2.trans (below_src hg3 (by omega) (Nat.le_refl _))⟩
  | false =>
    go_wp2_with fail
    refine (fine_any w.heap.size A n c 2 w.heap.size f _ hs2 (by omega) hr2 (Nat.le_refl _)).mono ?_
    rintro e w3 ⟨r, s, rfl, h1, h2, hs3, hg3⟩
    go_wp2_with fail
    go_ret
    exact ⟨_, _, rfl, h1, h2, hb2.trans (below_src hg3 (by omega) (Nat.le_refl _))⟩
end Go.Proofs.YtdbcajiagjeplaaGreatDoor
