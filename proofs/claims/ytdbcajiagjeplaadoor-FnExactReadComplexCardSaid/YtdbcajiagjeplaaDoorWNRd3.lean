/- FnExactReadNumbers returns true. -/
import Derived.Test.YtdbcajiagjeplaaDoorWNRd2
import Derived.Test.YtdbcajiagjeplaaDoorMarkF
set_option linter.unusedVariables false
set_option linter.unusedSimpArgs false
namespace Go.Proofs.YtdbcajiagjeplaaDoor
open Go.RowKit
/-- What the library's functions ask of the world. -/
structure LibX (w : World) : Prop where
  tz : Tz w
  errs : Errs w
  mlen : ∃ m, w.cell? ⟨Tryd.laysM146_ren.g 1, 0, none⟩ = some (.int .i64 m)
theorem LibX.below {w w' : World} (h : LibX w) (hb : Below w.heap.size w w') : LibX w' := by
  obtain ⟨m, hm⟩ := h.mlen
  exact ⟨h.tz.below (Nat.le_refl _) hb, h.errs.below (Nat.le_refl _) hb, m, (hb.cell (p := ⟨Tryd.laysM146_ren.g 1, 0, none⟩) (World.block_lt_of_cell? w _ hm)).trans hm⟩
set_option maxHeartbeats 1000000 in
/-- FnExactReadNumbers: over the contracts of both sides (the same list, the same Bool). -/
theorem fnExactReadNumbers_core (s : ByteArray) (hs : s.size ≤ 1048576) (l : List Nat) (ok : Bool) (hl : l.length ≤ 256)
    (hS : ∀ w : World, Calls Tryd.prog 29 #[.string s] w fun e w' => GivesL 55 (fls l) ok w e w')
    (hI : ∀ w : World, LibX w → Calls Tryd.prog 30 #[.string s] w fun e w' => GivesL 55 (fls l) ok w e w') (w : World) (hK : LibX w) :
    Calls Tryd.prog 9 #[.string s] w fun e w' => e = .returned (.bool true) ∧ Below w.heap.size w w' := by
  have HS := Lib.hid hS
  have HI := Lib.hid hI
  clear hS hI
  have hok : (ok != ok) = false := by simp
  have hm1 : ((1 : Int) + l.length != 1 + l.length) = false := by simp
  have hlen : (fls l).length = l.length := fls_len l
  have HL := Lib.hid hlen
  clear hlen
  have g1 : ¬ (1048576 : Int) < (s.size : Int) := by omega
  go_enter Tryd.func9, Tryd.ntmps9
  go_wp2_with fail
  refine (HS.out _).mono ?_
  rintro e w1 ⟨v0, rfl, hown0, hb0⟩
  rw [HL.out] at hown0
  obtain ⟨A0, c0, rfl, hr0⟩ := own_row hown0
  go_wp2_with fail
  refine (HI.out _ (hK.below hb0)).mono ?_
  rintro e w2 ⟨v1, rfl, hown1, hb1⟩
  rw [HL.out] at hown1
  obtain ⟨A1, c1, rfl, hr1⟩ := own_row hown1
  have hr0' := hr0.below hb1
  have hg0 := hr0'.congr (g := fun j => .float .f32 (l.getD j 0)) (fun j hj => fls_getD l j hj)
  have hg1 := hr1.congr (g := fun j => .float .f32 (l.getD j 0)) (fun j hj => fls_getD l j hj)
  clear hr0 hr1 hr0'
  go_wp2_with fail
  refine (eqFloats_same A1 A0 _ c1 c0 (fun j => l.getD j 0) _ _ _ (by omega) hg1 hg0).mono ?_
  rintro e w3 ⟨rfl, q, rfl⟩
  go_wp2_with fail
  refine (markFloats w1.heap.size l.length _ (fls l) 1 _ (by omega) rfl (show (w2.drewN q).ownsRow w1.heap.size 55 1 _ _ _ from hown1)).mono ?_
  rintro e w4 ⟨rfl, hgr, ys, hown4, hm4⟩
  obtain ⟨A4, c4, hv4, hr4⟩ := own_row hown4
  injection hv4 with hv4a hv4b hv4c
  subst hv4a
  clear hv4b hv4c
  have hheld := hr4.congr (g := fun j => .float .f32 (fwd (1 + j))) (fun j hj => by rw [List.getD_eq_getElem?_getD, hm4 j hj]; rfl)
  have hb3 : Below w1.heap.size w1 w4 := (below_drewN hb1 q).trans (below_of_grown (show (w2.drewN q).ownsRow w1.heap.size 55 1 _ _ _ from hown1) hgr hb1.size)
  have hb4 : Below w.heap.size w w4 := hb0.trans (hb3.mono hb0.size)
  have hg4 : Row w4 w1.heap.size A0 l.length (fun j => .float .f32 (l.getD j 0)) := by
    -- the reference's row lies below the program's base
    intro hn
    obtain ⟨b, off, e, hlt, hc⟩ := hg0 hn
    refine ⟨b, off, e, hlt, fun j hj => ?_⟩
    have hbel : Below w1.heap.size w2 w4 := (below_drewN (Below.refl _ w2) q).trans (below_of_grown (show (w2.drewN q).ownsRow w1.heap.size 55 1 _ _ _ from hown1) hgr hb1.size)
    exact (hbel.cell (p := ⟨b, off + j, none⟩) hlt).trans (hc j hj)
  clear hg0 hg1 hr4 hm4 hgr hb1 hown0 hown1 hb0
  go_wp2_with fail
  refine (heldFloats A1 l.length _ _ 1 _ (by omega) rfl hheld).mono ?_
  rintro e w5 ⟨rfl, rfl⟩
  go_wp2_with fail
  refine (HI.out _ (hK.below hb4)).mono ?_
  rintro e w6 ⟨v6, rfl, hown6, hb6⟩
  rw [HL.out] at hown6
  obtain ⟨A6, c6, rfl, hr6⟩ := own_row hown6
  have hg6 := hr6.congr (g := fun j => .float .f32 (l.getD j 0)) (fun j hj => fls_getD l j hj)
  have hg0' := hg4.below (hb6.mono hb3.size)
  have hheld' := hheld.below hb6
  have hb7 : Below w.heap.size w w6 := hb4.trans (hb6.mono hb4.size)
  clear hr6 hg4 hheld hb4 hb3 hb6 hown6 hown4
  go_wp2_with fail
  refine (eqFloats_same A6 A0 _ c6 c0 (fun j => l.getD j 0) _ _ _ (by omega) hg6 hg0').mono ?_
  rintro e w7 ⟨rfl, q2, rfl⟩
  go_wp2_with fail
  refine (heldFloats A1 l.length _ _ 1 _ (by omega) rfl (hheld'.drewN q2)).mono ?_
  rintro e w8 ⟨rfl, rfl⟩
  go_wp2_with fail
  go_ret
  exact ⟨rfl, below_drewN hb7 _⟩

theorem specReadNumbers_any (s : ByteArray) (hs : s.size ≤ 1048576) (w : World) : Calls Tryd.prog 29 #[.string s] w fun e w' => RetNs s.data.toList w e w' := by
  go_enter Tryd.func29, Tryd.ntmps29
  go_wp2_with fail
  refine (specNRead_any s hs _).mono ?_
  rintro e w' ⟨v, rfl, ho, hb⟩
  go_wp2_with fail
  go_ret2
  exact ⟨_, rfl, ho, hb⟩
theorem fnExactReadNumbers_walk (s : ByteArray) (ws : s.size ≤ maxLen) (w : World) (hK : LibX w) : Calls Tryd.prog 9 #[.string s] w fun e w' => e = .returned (.bool true) ∧ Below w.heap.size w w' := by
  by_cases hs : s.size ≤ 1048576
  · exact fnExactReadNumbers_core s hs _ _ (listG_len _) (fun w => specReadNumbers_any s hs w) (fun w h => implReadNumbers_any s hs w h.errs h.tz h.mlen) w hK
  · have g1 : (1048576 : Int) < (s.size : Int) := by omega
    go_enter Tryd.func9, Tryd.ntmps9
    go_wp2_with fail
    go_ret
    exact ⟨rfl, Below.refl _ _⟩
end Go.Proofs.YtdbcajiagjeplaaDoor
