/- DescentCounts of the program; the law FnExactDescentCounts. -/
import Derived.Test.YtajbepbggfbmpaaWDesc
import Derived.IntWalk
set_option linter.unusedVariables false
set_option linter.unusedSimpArgs false
namespace Go.Proofs.Ytajbepbggfbmpaa
open Go.RowKit

theorem Filled.twice {ys : List Value} {f : Nat → Int} {k n : Nat} (h : Filled ys f k n) (hl : ys.length = n) (hk : k < n) {x y : Int} (hy : y = f k) : Filled ((ys.set k (.int .i64 x)).set k (.int .i64 y)) f (k + 1) n := by
  rw [List.set_set]; exact h.set hl hk hy

set_option maxHeartbeats 2000000 in
theorem implDesc_any (n : Nat) (h1 : 1 ≤ n) (hn : n ≤ 20) (w : World) : Calls Try.prog 32 #[.int .i64 n] w fun e w' => GivesV 2 (ints (eul (n - 1))) w e w' := by
  obtain ⟨i0, hi, hz0, hz1, hz2⟩ := info_parts info_int
  go_enter Try.func32, Try.ntmps32
  go_wp2
  go_loopw [3, 4] (fun v m wr => ∃ M : Nat, 2 ≤ M ∧ M ≤ n + 1 ∧ m = .int .i64 M ∧ wr.ownsRow w.heap.size 2 1 v (M - 1) (ints (eul (M - 2))) ∧ Below w.heap.size w wr) (fun _ m _ => n + 1 - (intOf m).toNat)
  case atStart => exact ⟨2, by omega, by omega, rfl, own_new w _ _, (Below.refl _ _).alloc (Nat.le_refl _) _⟩
  case round =>
    obtain ⟨M, hM2, hMn, rfl, hown, hb⟩ := hrel
    by_cases hlt : M ≤ n
    · obtain ⟨A, c, rfl, hr⟩ := own_row hown
      have HR := Lib.hid (hr.congr (g := fun j => .int .i64 ((eul (M - 2)).getD j 0)) (fun j hj => ints_getD _ j (by rw [eul_len]; omega)))
      have HO := Lib.hid hown
      clear hr hown
      obtain ⟨wo, rfl⟩ : ∃ wo : World, wo = wr := ⟨_, rfl⟩
      go_wp2_with (at_make; refine wpList_make_full _ rfl _ _ 22 rfl wo.heap.size 2 i0 (.int .i64 0) 1 Try.underlying22 hi hz0 hz1 _ _ _ _ M rfl rfl rfl rfl (by rw [hz2]; omega) (by unfold maxLen; omega) (Nat.le_refl _) ?_; intro w1 hown1 hgrow1)
      have hb1 : Below wo.heap.size wo w1 := (Below.refl _ wo).grown hgrow1 (Nat.le_refl _) (fun k hk => by cases hk)
      rw [show (madeCells (Value.int .i64 0).cells (M * 1)).toList = List.replicate M (Value.int .i64 0) from by rw [Nat.mul_one]; exact toList_madeCells_one _ _] at hown1
      clear hgrow1
      go_loopw [17] (fun i wr => ∃ K : Nat, K ≤ M ∧ i = .int .i64 K ∧ Below wo.heap.size wo wr ∧ ∃ ys, wr.ownsRow wo.heap.size 2 1 (.slice (some ⟨wo.heap.size, 0, none⟩) M M) M ys ∧ Filled ys (eulAt M (eul (M - 2))) K M) (fun i _ => M - (intOf i).toNat)
      case atStart => exact ⟨0, by omega, rfl, hb1, _, hown1, ⟨fun j hj => absurd hj (by omega), fun j _ hj => by simp [hj]⟩⟩
      case round =>
        obtain ⟨K, hK, rfl, hb2, ys, hys, hfl⟩ := hrel
        clear hown1 hb1
        have hs2 := hb2.size
        by_cases hlt2 : K < M
        · have hB := eul_b hM2 (by omega : M ≤ 20) hlt2
          have HRr := Lib.hid (HR.out.below (hb2.mono (Nat.le_refl _)))
          have hlen := own_len hys
          have hcm := hys.cellAt K (by omega)
          have hfm := hys.frozenAt K
          rw [hfl.rest K (Nat.le_refl _) hlt2] at hcm
          by_cases hk1 : K + 1 < M
          · by_cases hk0 : K ≤ 0
            · obtain ⟨b, off, rfl, hbB, hc⟩ := HRr.out (by omega)
              have h3 : wr.cell? ⟨b, off + K, none⟩ = some (.int .i64 ((eul (M - 2)).getD K 0)) := hc K (by omega)
              have HX := Lib.hid (hfl.set hlen hlt2 (eulAt_only (r := eul (M - 2)) hk1 (by omega)).symm)
              have HS := hys.stored K
              have HS2 := Lib.hid (fun x y => (HS x).1.stored K y)
              have HS1 := Lib.hid HS
              have HBS := Lib.hid (fun x => hb2.setCell (p := ⟨wo.heap.size, K, none⟩) (Nat.le_refl _) x)
              have HBT := Lib.hid (fun x y => (HBS.out x).setCell (p := ⟨wo.heap.size, K, none⟩) (Nat.le_refl _) y)
              have hb0 := hB.a0; have hb1 := hB.a1; have hb4 := hB.b0; have hb3 := hB.b1
              have hne : b ≠ wo.heap.size := by omega
              have hne2 : wo.heap.size ≠ b := by omega
              clear hc hB HRr HR HO hfl hys hb HS
              generalize (eul (M - 2)).getD K 0 = a at *
              go_wp2_with fail
              go_still_tail 13, (by kernel_rfl)
              go_wp2_with fail
              go_roundw
              case rel => exact ⟨K + 1, by omega, by go_num, (HBS.out _).drew, _, (HS1.out _).1, HX.out⟩
              case measure => simp [intOf]; omega
            · have hk2 : 0 < K := by omega
              clear hk0
              obtain ⟨b, off, rfl, hbB, hc⟩ := HRr.out (by omega)
              have h3 : wr.cell? ⟨b, off + K, none⟩ = some (.int .i64 ((eul (M - 2)).getD K 0)) := hc K (by omega)
              have h4 : wr.cell? ⟨b, off + (K - 1), none⟩ = some (.int .i64 ((eul (M - 2)).getD (K - 1) 0)) := hc (K - 1) (by omega)
              have HX := Lib.hid (hfl.twice hlen hlt2 (x := ((K : Int) + 1) * (eul (M - 2)).getD K 0) (eulAt_mid (r := eul (M - 2)) hk1 hk2).symm)
              have HS := hys.stored K
              have HS2 := Lib.hid (fun x y => (HS x).1.stored K y)
              have HS1 := Lib.hid HS
              have HBS := Lib.hid (fun x => hb2.setCell (p := ⟨wo.heap.size, K, none⟩) (Nat.le_refl _) x)
              have HBT := Lib.hid (fun x y => (HBS.out x).setCell (p := ⟨wo.heap.size, K, none⟩) (Nat.le_refl _) y)
              have hb0 := hB.a0; have hb1 := hB.a1; have hb4 := hB.b0; have hb3 := hB.b1
              have hne : b ≠ wo.heap.size := by omega
              have hne2 : wo.heap.size ≠ b := by omega
              clear hc hB HRr HR HO hfl hys hb HS
              generalize (eul (M - 2)).getD K 0 = a at *
              generalize (eul (M - 2)).getD (K - 1) 0 = a2 at *
              have hX0 : ∀ x : Value, (wr.setCell ⟨wo.heap.size, K, none⟩ x).drew.cell? ⟨wo.heap.size, K, none⟩ = some x := fun x => World.cell?_setCell_same' wr _ _ (by rw [hcm]; rfl)
              have hX2 : ∀ x : Value, (wr.setCell ⟨wo.heap.size, K, none⟩ x).drew.cell? ⟨b, off + (K - 1), none⟩ = some (.int .i64 a2) := fun x => (World.cell?_setCell_other wr _ _ _ (fun e => hne (by injection e with e1; exact e1.symm))).trans h4
              have hX3 : ∀ x : Value, (wr.setCell ⟨wo.heap.size, K, none⟩ x).drew.frozen? ⟨wo.heap.size, K, none⟩ = false := fun x => by rw [show (wr.setCell ⟨wo.heap.size, K, none⟩ x).drew.frozen? ⟨wo.heap.size, K, none⟩ = (wr.setCell ⟨wo.heap.size, K, none⟩ x).frozen? ⟨wo.heap.size, K, none⟩ from rfl, World.frozen?_setCell]; exact hfm
              have HX0 := Lib.hid hX0; have HX2 := Lib.hid hX2; have HX3 := Lib.hid hX3
              clear hX0 hX2 hX3
              go_wp2_with fail
              go_still_tail 13, (by kernel_rfl)
              go_wp2_with fail
              obtain ⟨X, hX⟩ : ∃ X, X = (wr.setCell ⟨wo.heap.size, K, none⟩ (.int .i64 (((K : Int) + 1) * a))).drew := ⟨_, rfl⟩
              rw [← hX]
              have hc5 := HX0.out (.int .i64 (((K : Int) + 1) * a)); have hc6 := HX2.out (.int .i64 (((K : Int) + 1) * a)); have hc7 := HX3.out (.int .i64 (((K : Int) + 1) * a))
              rw [← hX] at hc5 hc6 hc7
              have HXX := Lib.hid hX
              clear hX
              have hix1 : IntKind.i64.wrap ((K : Int) - 1) = (K : Int) - 1 := IntWalk.i64_in _ (by omega)
              have hix2 : (0 : Int) ≤ (K : Int) - 1 := by omega
              have hix5 : (1 : Int) ≤ (K : Int) := by omega
              have hix3 : ((K : Int) - 1).toNat = K - 1 := by omega
              have hix4 : (K : Int) - 1 < ((M - 1 : Nat) : Int) := by omega
              go_still_tail 15, (by kernel_rfl)
              go_wp2_with fail
              go_roundw
              case rel => rw [HXX.out]; exact ⟨K + 1, by omega, by go_num, ((HBT.out _ _).drew).drew, _, (HS2.out _ _).1, HX.out⟩
              case measure => simp [intOf]; omega
          · have hk2 : 0 < K := by omega
            obtain ⟨b, off, rfl, hbB, hc⟩ := HRr.out (by omega)
            have h4 : wr.cell? ⟨b, off + (K - 1), none⟩ = some (.int .i64 ((eul (M - 2)).getD (K - 1) 0)) := hc (K - 1) (by omega)
            have HX := Lib.hid (hfl.set hlen hlt2 (eulAt_end (r := eul (M - 2)) hk1 hk2).symm)
            have HS := hys.stored K
            have HS2 := Lib.hid (fun x y => (HS x).1.stored K y)
            have HS1 := Lib.hid HS
            have HBS := Lib.hid (fun x => hb2.setCell (p := ⟨wo.heap.size, K, none⟩) (Nat.le_refl _) x)
            have HBT := Lib.hid (fun x y => (HBS.out x).setCell (p := ⟨wo.heap.size, K, none⟩) (Nat.le_refl _) y)
            have hb0 := hB.a0; have hb1 := hB.a1; have hb4 := hB.b0; have hb3 := hB.b1
            have hne : b ≠ wo.heap.size := by omega
            have hne2 : wo.heap.size ≠ b := by omega
            clear hc hB HRr HR HO hfl hys hb HS
            generalize (eul (M - 2)).getD (K - 1) 0 = a2 at *
            go_wp2_with fail
            have hix1 : IntKind.i64.wrap ((K : Int) - 1) = (K : Int) - 1 := IntWalk.i64_in _ (by omega)
            have hix2 : (0 : Int) ≤ (K : Int) - 1 := by omega
            have hix5 : (1 : Int) ≤ (K : Int) := by omega
            have hix3 : ((K : Int) - 1).toNat = K - 1 := by omega
            have hix4 : (K : Int) - 1 < ((M - 1 : Nat) : Int) := by omega
            go_still_tail 15, (by kernel_rfl)
            go_wp2_with fail
            go_roundw
            case rel => exact ⟨K + 1, by omega, by go_num, (HBS.out _).drew, _, (HS1.out _).1, HX.out⟩
            case measure => simp [intOf]; omega
        · have hke : K = M := by omega
          subst hke
          clear hlt2
          go_wp2_with fail
          have hd := hfl.done (own_len hys)
          rw [hd] at hys
          have hfin := And.intro (own_base hys hb.size) (hb.trans (hb2.mono hb.size))
          rw [show (List.range K).map (eulAt K (eul (K - 2))) = eul (K + 1 - 2) from eul_step hM2] at hfin
          go_roundw
          case rel => exact ⟨K + 1, by omega, by omega, by go_num, hfin.1, hfin.2⟩
          case measure => simp [intOf]; omega
    · have hme : M = n + 1 := by omega
      subst hme
      clear hlt
      go_wp2
      go_ret
      exact ⟨_, rfl, by rw [show n - 1 = n + 1 - 2 by omega, ints_len, eul_len, show n + 1 - 2 + 1 = n + 1 - 1 by omega]; exact hown, hb⟩
end Go.Proofs.Ytajbepbggfbmpaa
