/- BitRing: the walk of the program; the law. -/
import Derived.Test.YtajbepbggfbmpaaWRing
import Derived.Test.YtajbepbggfbmpaaWDeckLaws
set_option linter.unusedVariables false
set_option linter.unusedSimpArgs false
namespace Go.Proofs.Ytajbepbggfbmpaa
open Go.RowKit

theorem iExt_len (L : Nat) (W : List Int) (k : Nat) : (iExt L W k).length = k := by simp [iExt]
theorem iExt_succ (L : Nat) (W : List Int) (k : Nat) : iExt L W (k + 1) = iExt L W k ++ [W.getD (k % W.length) 0] := by simp [iExt, List.range_succ]
theorem upL_nil {W : List Int} (h : W.length = 0) : upL W = W := by unfold upL; rw [if_neg (by omega)]
theorem upL_some {W : List Int} {r : Nat} (h : W.length = r + 1) : upL W = W.set r 1 := by unfold upL; rw [if_pos (by omega), h]; rfl
theorem upL_len (W : List Int) : (upL W).length = W.length := by unfold upL; split <;> simp

set_option maxRecDepth 100000 in
set_option maxHeartbeats 4000000 in
theorem lyndon_yes (L : Nat) (h1 : 1 ≤ L) (hL : L < 7) (w : World) : Calls Try.prog 35 #[.int .i64 L] w fun e w' => GivesV 2 (ints (ringL L)) w e w' := by
  obtain ⟨i0, hi, hz0, hz1, hz2⟩ := info_parts info_int
  go_enter Try.func35, Try.ntmps35
  go_wp2_with fail
  go_loopg [3, 4] 25 (fun gg o d wr => ∃ (t g cap n : Nat), t < 25 ∧ 25 - t ≤ gg ∧ Hid ((iIter L t).2.length = n) ∧ d = .slice (some ⟨g, 0, none⟩) n cap ∧ wr.ownsRow w.heap.size 2 1 d n (ints (iIter L t).2) ∧ o ≠ .slice none 0 0 ∧ wr.ownsRow w.heap.size 2 1 o (iIter L t).1.length (ints (iIter L t).1) ∧ Apart d o ∧ Below w.heap.size w wr)
  case atStart =>
    refine ⟨0, w.heap.size + 1, 1, 1, by omega, by omega, Lib.hid rfl, rfl, ?_, by simp, (own_empty w _).alloc _, ?_, ((Below.refl _ _).alloc (Nat.le_refl _) _).alloc (by simp) _⟩
    · have := own_new1 (w.alloc (.cells #[] 2)) (.int .i64 0) 2
      simp only [World.size_alloc] at this
      exact own_base this (by simp)
    · right; simp [Value.ownBlock]
  case round =>
    obtain ⟨t, g, cap, n, ht, hg, HN, rfl, hd, hone, ho, ha, hb⟩ := hrel
    have hsb := hb.size
    have hok := StOk.of (i_ok L hL h1 t ht)
    have HT := Lib.hid (show iIter L (t + 1) = iStep L (iIter L t) from rfl)
    obtain ⟨O, W, hOW⟩ : ∃ O W, iIter L t = (O, W) := ⟨_, _, rfl⟩
    rw [hOW] at hok ho hd HT
    have hNW : W.length = n := by have h := HN.out; rw [hOW] at h; exact h
    have HN := Lib.hid hNW
    have h2few : O.length + W.length ≤ 70 := hok.few
    have h2le : W.length ≤ L := hok.le
    have h2fin : W = [] → O = ringL L := hok.fin
    have h2more : W ≠ [] → t < 24 := hok.more
    have ho : wr.ownsRow w.heap.size 2 1 u3 O.length (ints O) := ho
    have hd : wr.ownsRow w.heap.size 2 1 (.slice (some ⟨g, 0, none⟩) n cap) n (ints W) := hd
    rw [hNW] at h2few h2le
    clear hok hOW
    have H2F := Lib.hid h2fin
    have H2M := Lib.hid h2more
    clear h2fin h2more hNW
    by_cases hn : n = 0
    · subst hn
      have hW0 : W = [] := List.eq_nil_of_length_eq_zero HN.out
      have HF := Lib.hid (H2F.out hW0)
      clear hd ha hW0
      go_wp2_with fail
      go_ret
      rw [← HF.out]
      exact ⟨_, rfl, by rw [ints_len]; exact ho, hb⟩
    · obtain ⟨p, rfl⟩ : ∃ p, n = p + 1 := ⟨n - 1, by omega⟩
      clear hn
      have ht24 : t < 24 := H2M.out (by intro e; have := HN.out; rw [e] at this; simp at this)
      have hne : W ≠ [] := by intro e; have := HN.out; rw [e] at this; simp at this
      have HNE := Lib.hid hne
      clear hne
      by_cases hdiv : L % (p + 1) = 0
      · obtain ⟨OL, hOLe⟩ : ∃ OL, OL = O ++ W := ⟨_, rfl⟩
        have HS := Lib.hid (show iIter L (t + 1) = (OL, upL (stripF (iExt L W L))) from by rw [HT.out]; unfold iStep; dsimp only; rw [if_neg HNE.out, HN.out, if_pos hdiv, hOLe])
        have hOL70 : OL.length ≤ 70 := by rw [hOLe]; rw [List.length_append, HN.out]; omega
        have HOL := Lib.hid hOLe
        have hdb : ((L : Int) % ((p : Int) + 1) == 0) = true := by
          rw [show ((L : Int) % ((p : Int) + 1)) = ((L % (p + 1) : Nat) : Int) from by rw [Int.natCast_emod, Int.natCast_add]; rfl, beq_iff_eq]; omega
        clear hOLe hdiv
        go_wp2_with (at_builtin; go_must (refine wpList_append_own_at _ rfl (.tmp 17) (.tmp 18) 22 rfl w.heap.size 2 i0 (.int .i64 0) 1 8 Try.underlying22 hi hz0 hz1 hz2 rfl (by decide) _ O.length (ints O) rfl ho ⟨g, 0, none⟩ (p + 1) cap (ints W) rfl (by rw [ints_len, HN.out, Nat.mul_one]) (own_src hd) (ints_one _) (by unfold maxLen; omega) (by omega) hsb ?_); intro o2 w2 ho2 hgr2 hnil2 hblk2)
        have ho2e : w2.ownsRow w.heap.size 2 1 o2 OL.length (ints OL) := by
          have h := ho2
          rw [HOL.out, List.length_append, HN.out]
          rw [show ints (O ++ W) = ints O ++ ints W from by simp [ints]]
          exact h
        have hd2e := hd.kept hgr2 (show _ ∨ _ from ha)
        have hb2e : Below w.heap.size w w2 := hb.grown hgr2 hsb (fun k hk => (ho.lt k hk).1)
        have HNIL := Lib.hid (show o2 ≠ .slice none 0 0 from fun e => hone ((hnil2.1 e).1))
        clear hgr2 hnil2 hblk2 ho2 ha hone hb hsb ho hd
        have HO1 := Lib.hid ho2e
        have HB1 := Lib.hid hb2e
        have HD1 := Lib.hid hd2e
        clear ho2e hb2e hd2e
        have hsz2 := HB1.out.size
        go_loopg [5, 22] (L + 1) (fun gg v i wr2 => ∃ (k g2 c2 : Nat), k ≤ L ∧ L - k ≤ gg ∧ i = .int .i64 k ∧ v = .slice (some ⟨g2, 0, none⟩) k c2 ∧ wr2.ownsRow w.heap.size 2 1 v k (ints (iExt L W k)) ∧ wr2.ownsRow w.heap.size 2 1 (.slice (some ⟨g, 0, none⟩) (p + 1) cap) (p + 1) (ints W) ∧ wr2.ownsRow w.heap.size 2 1 o2 OL.length (ints OL) ∧ Apart v (.slice (some ⟨g, 0, none⟩) (p + 1) cap) ∧ Apart v o2 ∧ Below w.heap.size w wr2)
        case atStart =>
          refine ⟨0, w2.heap.size, 0, by omega, by omega, rfl, rfl, own_base (own_empty _ _) hsz2, HD1.out.alloc _, HO1.out.alloc _, ?_, ?_, HB1.out.alloc hsz2 _⟩
          · exact .of_ge (N := w2.heap.size) (fun q e => by simp [Value.ownBlock] at e; omega) (fun q e => (HD1.out.lt q e).2)
          · exact .of_ge (N := w2.heap.size) (fun q e => by simp [Value.ownBlock] at e; omega) (fun q e => (HO1.out.lt q e).2)
        case round =>
          obtain ⟨k, g2, c2, hk, hgg, rfl, rfl, hv2, hd2, ho2, had, hao, hb2⟩ := hrel
          have hs2 := hb2.size
          by_cases hlt : k < L
          · have hkm : k % (p + 1) < p + 1 := Nat.mod_lt _ (by omega)
            have hcj := hd2.cellAt (k % (p + 1)) (by omega)
            rw [ints_get (by rw [HN.out]; omega)] at hcj
            have HE := Lib.hid (show ints (iExt L W k) ++ [.int .i64 (W.getD (k % (p + 1)) 0)] = ints (iExt L W (k + 1)) from by rw [iExt_succ, ints_snoc, HN.out])
            have hlm2 : ((k : Int)) % ((p : Int) + 1) < (p : Int) + 1 := Int.emod_lt_of_pos _ (by omega)
            have hlm3 : 0 ≤ ((k : Int)) % ((p : Int) + 1) := Int.emod_nonneg _ (by omega)
            generalize W.getD (k % (p + 1)) 0 = y at *
            clear hkm
            go_wp2_with (at_builtin; go_must (refine wpList_append_own_at _ rfl (.tmp 25) (.tmp 33) 22 rfl w.heap.size 2 i0 (.int .i64 0) 1 8 Try.underlying22 hi hz0 hz1 hz2 rfl (by decide) _ k (ints (iExt L W k)) rfl (hv2.alloc _) ⟨wr.heap.size, 0, none⟩ 1 1 [.int .i64 y] rfl rfl (new_one _ _ _) (int_one _) (by unfold maxLen; omega) (by omega) (by simp; omega) ?_); intro v3 w3 hv3 hgr3 hnil3 hblk3)
            obtain ⟨g3, c3, hve, _, _⟩ := own_form hv3 (fun e => by have := (hnil3.1 e).2; cases this)
            have ho3 := (ho2.alloc (.cells #[.int .i64 y] 2)).kept hgr3 hao.symm
            have hd3 := (hd2.alloc (.cells #[.int .i64 y] 2)).kept hgr3 had.symm
            have hao3 := hao.turn (ho2.alloc (.cells #[.int .i64 y] 2)) hblk3 (Nat.le_refl _)
            have had3 := had.turn (hd2.alloc (.cells #[.int .i64 y] 2)) hblk3 (Nat.le_refl _)
            have hb3 := step_below hb2 hv2 hgr3
            rw [HE.out] at hv3
            subst hve
            go_roundg (L - (k + 1))
            case rel => exact ⟨k + 1, g3, c3, by omega, by omega, by go_num, rfl, hv3, hd3, ho3, had3, hao3, hb3⟩
            case measure => omega
          · obtain rfl : k = L := by omega
            have HL3 := Lib.hid (iExt_len k W k)
            generalize iExt k W k = V0 at *
            clear hlt hgg hk hs2 had hd2
            go_wp2_with fail
            go_loopg [5] (k + 1) (fun gg v wr3 => ∃ (V : List Int) (q g3 c3 : Nat), Hid (V.length = q) ∧ q ≤ gg ∧ q ≤ k ∧ Hid (stripF V = stripF V0) ∧ v = .slice (some ⟨g3, 0, none⟩) q c3 ∧ wr3.ownsRow w.heap.size 2 1 v q (ints V) ∧ wr3.ownsRow w.heap.size 2 1 o2 OL.length (ints OL) ∧ Apart v o2 ∧ Below w.heap.size w wr3)
            case atStart => exact ⟨V0, k, g2, c2, HL3, by omega, Nat.le_refl _, Lib.hid rfl, rfl, hv2, ho2, hao, hb2⟩
            case round =>
              clear hv2 ho2 hao hb2
              obtain ⟨V, q, g3, c3, HV, hq1, hqL, HSV, rfl, hd3, ho3, ha3, hb3⟩ := hrel
              by_cases hq0 : q = 0
              · subst hq0
                have HN3 := Lib.hid ((upL_nil HV.out).symm.trans (congrArg upL ((strip_no (lastOne_nil HV.out)).symm.trans HSV.out)))
                go_wp2_with fail
                go_roundg (24 - t)
                case rel => exact ⟨t + 1, g3, c3, 0, by omega, by omega, Lib.hid (by rw [HS.out]; show (upL (stripF V0)).length = 0; rw [← HN3.out]; exact HV.out), rfl, by rw [HS.out]; show World.ownsRow _ _ _ _ _ _ (ints (upL (stripF V0))); rw [← HN3.out]; exact hd3, HNIL.out, by rw [HS.out]; exact ho3, ha3, hb3⟩
                case measure => omega
              · obtain ⟨r, rfl⟩ : ∃ r, q = r + 1 := ⟨q - 1, by omega⟩
                clear hq0
                have hcap3 := own_cap hd3
                have hcr := hd3.cellAt r (by omega)
                have hfr := hd3.frozenAt r
                rw [ints_get (by rw [HV.out]; omega)] at hcr
                have HLO := Lib.hid (lastOne_some HV.out)
                have HDR := Lib.hid (ints_drop HV.out)
                generalize hy : V.getD r 0 = y at *
                have HY := Lib.hid hy
                clear hy
                by_cases hy1 : y = 1
                · subst hy1
                  have HPOP := Lib.hid (ownsRow_pop (size := 1) (n := r) (xs := ints V.dropLast) (last := [.int .i64 1]) (by rw [ints_len, List.length_dropLast, HV.out]; omega) (by rw [← HDR.out]; exact hd3))
                  have HST2 := Lib.hid ((strip_yes (HLO.out.trans rfl)).symm.trans HSV.out)
                  go_wp2_with fail
                  go_roundg r
                  case rel => exact ⟨V.dropLast, r, g3, c3, Lib.hid (by rw [List.length_dropLast, HV.out]; rfl), by omega, by omega, HST2, rfl, HPOP.out, ho3, ha3, hb3⟩
                  case measure => omega
                · have hyb : (y == 1) = false := by rw [beq_eq_false_iff_ne]; exact hy1
                  have HN3 := Lib.hid ((upL_some HV.out).symm.trans (congrArg upL ((strip_no (HLO.out.trans hyb)).symm.trans HSV.out)))
                  have HSTO := Lib.hid (hd3.stored r (.int .i64 1))
                  have hsz3 := hb3.size
                  have HBS := Lib.hid (hb3.grown HSTO.out.2 hsz3 (fun z hz => (hd3.lt z hz).1))
                  have HOK := Lib.hid (ho3.kept HSTO.out.2 ha3.symm)
                  clear hy1
                  go_wp2_with fail
                  go_roundg (24 - t)
                  case rel => exact ⟨t + 1, g3, c3, r + 1, by omega, by omega, Lib.hid (by rw [HS.out]; show (upL (stripF V0)).length = r + 1; rw [← HN3.out, List.length_set]; exact HV.out), rfl, by rw [HS.out]; show World.ownsRow _ _ _ _ _ _ (ints (upL (stripF V0))); rw [← HN3.out, ← ints_set]; exact HSTO.out.1, HNIL.out, by rw [HS.out]; exact HOK.out, ha3, HBS.out⟩
                  case measure => omega
      · obtain ⟨OL, hOLe⟩ : ∃ OL, OL = O := ⟨_, rfl⟩
        have HS := Lib.hid (show iIter L (t + 1) = (OL, upL (stripF (iExt L W L))) from by rw [HT.out]; unfold iStep; dsimp only; rw [if_neg HNE.out, HN.out, if_neg hdiv, hOLe])
        have hOL70 : OL.length ≤ 70 := by rw [hOLe]; omega
        have HOL := Lib.hid hOLe
        have hdb : ((L : Int) % ((p : Int) + 1) == 0) = false := by
          rw [show ((L : Int) % ((p : Int) + 1)) = ((L % (p + 1) : Nat) : Int) from by rw [Int.natCast_emod, Int.natCast_add]; rfl, beq_eq_false_iff_ne]; omega
        clear hOLe hdiv
        go_wp2_with fail
        have HNIL := Lib.hid hone
        have ho2e : wr.ownsRow w.heap.size 2 1 u3 OL.length (ints OL) := by rw [HOL.out]; exact ho
        have HO1 := Lib.hid ho2e
        have HB1 := Lib.hid hb
        have HD1 := Lib.hid hd
        clear ho2e ha hone hb hsb ho hd
        obtain ⟨w2, rfl⟩ : ∃ w2 : World, w2 = wr := ⟨_, rfl⟩
        have hsz2 := HB1.out.size
        go_loopg [5, 22] (L + 1) (fun gg v i wr2 => ∃ (k g2 c2 : Nat), k ≤ L ∧ L - k ≤ gg ∧ i = .int .i64 k ∧ v = .slice (some ⟨g2, 0, none⟩) k c2 ∧ wr2.ownsRow w.heap.size 2 1 v k (ints (iExt L W k)) ∧ wr2.ownsRow w.heap.size 2 1 (.slice (some ⟨g, 0, none⟩) (p + 1) cap) (p + 1) (ints W) ∧ wr2.ownsRow w.heap.size 2 1 u3 OL.length (ints OL) ∧ Apart v (.slice (some ⟨g, 0, none⟩) (p + 1) cap) ∧ Apart v u3 ∧ Below w.heap.size w wr2)
        case atStart =>
          refine ⟨0, w2.heap.size, 0, by omega, by omega, rfl, rfl, own_base (own_empty _ _) hsz2, HD1.out.alloc _, HO1.out.alloc _, ?_, ?_, HB1.out.alloc hsz2 _⟩
          · exact .of_ge (N := w2.heap.size) (fun q e => by simp [Value.ownBlock] at e; omega) (fun q e => (HD1.out.lt q e).2)
          · exact .of_ge (N := w2.heap.size) (fun q e => by simp [Value.ownBlock] at e; omega) (fun q e => (HO1.out.lt q e).2)
        case round =>
          obtain ⟨k, g2, c2, hk, hgg, rfl, rfl, hv2, hd2, ho2, had, hao, hb2⟩ := hrel
          have hs2 := hb2.size
          by_cases hlt : k < L
          · have hkm : k % (p + 1) < p + 1 := Nat.mod_lt _ (by omega)
            have hcj := hd2.cellAt (k % (p + 1)) (by omega)
            rw [ints_get (by rw [HN.out]; omega)] at hcj
            have HE := Lib.hid (show ints (iExt L W k) ++ [.int .i64 (W.getD (k % (p + 1)) 0)] = ints (iExt L W (k + 1)) from by rw [iExt_succ, ints_snoc, HN.out])
            have hlm2 : ((k : Int)) % ((p : Int) + 1) < (p : Int) + 1 := Int.emod_lt_of_pos _ (by omega)
            have hlm3 : 0 ≤ ((k : Int)) % ((p : Int) + 1) := Int.emod_nonneg _ (by omega)
            generalize W.getD (k % (p + 1)) 0 = y at *
            clear hkm
            go_wp2_with (at_builtin; go_must (refine wpList_append_own_at _ rfl (.tmp 25) (.tmp 33) 22 rfl w.heap.size 2 i0 (.int .i64 0) 1 8 Try.underlying22 hi hz0 hz1 hz2 rfl (by decide) _ k (ints (iExt L W k)) rfl (hv2.alloc _) ⟨wr.heap.size, 0, none⟩ 1 1 [.int .i64 y] rfl rfl (new_one _ _ _) (int_one _) (by unfold maxLen; omega) (by omega) (by simp; omega) ?_); intro v3 w3 hv3 hgr3 hnil3 hblk3)
            obtain ⟨g3, c3, hve, _, _⟩ := own_form hv3 (fun e => by have := (hnil3.1 e).2; cases this)
            have ho3 := (ho2.alloc (.cells #[.int .i64 y] 2)).kept hgr3 hao.symm
            have hd3 := (hd2.alloc (.cells #[.int .i64 y] 2)).kept hgr3 had.symm
            have hao3 := hao.turn (ho2.alloc (.cells #[.int .i64 y] 2)) hblk3 (Nat.le_refl _)
            have had3 := had.turn (hd2.alloc (.cells #[.int .i64 y] 2)) hblk3 (Nat.le_refl _)
            have hb3 := step_below hb2 hv2 hgr3
            rw [HE.out] at hv3
            subst hve
            go_roundg (L - (k + 1))
            case rel => exact ⟨k + 1, g3, c3, by omega, by omega, by go_num, rfl, hv3, hd3, ho3, had3, hao3, hb3⟩
            case measure => omega
          · obtain rfl : k = L := by omega
            have HL3 := Lib.hid (iExt_len k W k)
            generalize iExt k W k = V0 at *
            clear hlt hgg hk hs2 had hd2
            go_wp2_with fail
            go_loopg [5] (k + 1) (fun gg v wr3 => ∃ (V : List Int) (q g3 c3 : Nat), Hid (V.length = q) ∧ q ≤ gg ∧ q ≤ k ∧ Hid (stripF V = stripF V0) ∧ v = .slice (some ⟨g3, 0, none⟩) q c3 ∧ wr3.ownsRow w.heap.size 2 1 v q (ints V) ∧ wr3.ownsRow w.heap.size 2 1 u3 OL.length (ints OL) ∧ Apart v u3 ∧ Below w.heap.size w wr3)
            case atStart => exact ⟨V0, k, g2, c2, HL3, by omega, Nat.le_refl _, Lib.hid rfl, rfl, hv2, ho2, hao, hb2⟩
            case round =>
              clear hv2 ho2 hao hb2
              obtain ⟨V, q, g3, c3, HV, hq1, hqL, HSV, rfl, hd3, ho3, ha3, hb3⟩ := hrel
              by_cases hq0 : q = 0
              · subst hq0
                have HN3 := Lib.hid ((upL_nil HV.out).symm.trans (congrArg upL ((strip_no (lastOne_nil HV.out)).symm.trans HSV.out)))
                go_wp2_with fail
                go_roundg (24 - t)
                case rel => exact ⟨t + 1, g3, c3, 0, by omega, by omega, Lib.hid (by rw [HS.out]; show (upL (stripF V0)).length = 0; rw [← HN3.out]; exact HV.out), rfl, by rw [HS.out]; show World.ownsRow _ _ _ _ _ _ (ints (upL (stripF V0))); rw [← HN3.out]; exact hd3, HNIL.out, by rw [HS.out]; exact ho3, ha3, hb3⟩
                case measure => omega
              · obtain ⟨r, rfl⟩ : ∃ r, q = r + 1 := ⟨q - 1, by omega⟩
                clear hq0
                have hcap3 := own_cap hd3
                have hcr := hd3.cellAt r (by omega)
                have hfr := hd3.frozenAt r
                rw [ints_get (by rw [HV.out]; omega)] at hcr
                have HLO := Lib.hid (lastOne_some HV.out)
                have HDR := Lib.hid (ints_drop HV.out)
                generalize hy : V.getD r 0 = y at *
                have HY := Lib.hid hy
                clear hy
                by_cases hy1 : y = 1
                · subst hy1
                  have HPOP := Lib.hid (ownsRow_pop (size := 1) (n := r) (xs := ints V.dropLast) (last := [.int .i64 1]) (by rw [ints_len, List.length_dropLast, HV.out]; omega) (by rw [← HDR.out]; exact hd3))
                  have HST2 := Lib.hid ((strip_yes (HLO.out.trans rfl)).symm.trans HSV.out)
                  go_wp2_with fail
                  go_roundg r
                  case rel => exact ⟨V.dropLast, r, g3, c3, Lib.hid (by rw [List.length_dropLast, HV.out]; rfl), by omega, by omega, HST2, rfl, HPOP.out, ho3, ha3, hb3⟩
                  case measure => omega
                · have hyb : (y == 1) = false := by rw [beq_eq_false_iff_ne]; exact hy1
                  have HN3 := Lib.hid ((upL_some HV.out).symm.trans (congrArg upL ((strip_no (HLO.out.trans hyb)).symm.trans HSV.out)))
                  have HSTO := Lib.hid (hd3.stored r (.int .i64 1))
                  have hsz3 := hb3.size
                  have HBS := Lib.hid (hb3.grown HSTO.out.2 hsz3 (fun z hz => (hd3.lt z hz).1))
                  have HOK := Lib.hid (ho3.kept HSTO.out.2 ha3.symm)
                  clear hy1
                  go_wp2_with fail
                  go_roundg (24 - t)
                  case rel => exact ⟨t + 1, g3, c3, r + 1, by omega, by omega, Lib.hid (by rw [HS.out]; show (upL (stripF V0)).length = r + 1; rw [← HN3.out, List.length_set]; exact HV.out), rfl, by rw [HS.out]; show World.ownsRow _ _ _ _ _ _ (ints (upL (stripF V0))); rw [← HN3.out, ← ints_set]; exact HSTO.out.1, HNIL.out, by rw [HS.out]; exact HOK.out, ha3, HBS.out⟩
                  case measure => omega
theorem implRing_yes (L : Nat) (h1 : 1 ≤ L) (hL : L < 7) (w : World) : Calls Try.prog 22 #[.int .i64 L] w fun e w' => GivesL 2 (ints (ringL L)) true w e w' := by
  have hin := inB_true (n := L) (low := 1) (high := 6) (by omega) (by omega)
  go_enter Try.func22, Try.ntmps22
  go_wp2_with (first | (go_at_call 27; refine (within_any _ _ _ _).mono ?_; rw [hin]; rintro e w' ⟨rfl, rfl⟩) | (go_at_call 35; refine (lyndon_yes L h1 hL _).mono ?_; rintro e w' ⟨v, rfl, hown, hb⟩))
  go_ret2
  exact ⟨_, rfl, hown, hb⟩
theorem implRing_no (n : Int) (h : inB n 1 6 = false) (w : World) : Calls Try.prog 22 #[.int .i64 n] w fun e w' => GivesL 2 [] false w e w' := by
  go_enter Try.func22, Try.ntmps22
  go_wp2_with (go_at_call 27; refine (within_any _ _ _ _).mono ?_; rw [h]; rintro e w' ⟨rfl, rfl⟩)
  go_ret2
  exact givesL_nil _ _ 0
theorem specRing_no (n : Int) (h : inB n 1 6 = false) (w : World) : Calls Try.prog 21 #[.int .i64 n] w fun e w' => GivesL 2 [] false w e w' := by
  go_enter Try.func21, Try.ntmps21
  go_wp2_with (go_at_call 25; refine (l00In_any _ _ _ _).mono ?_; rw [h]; rintro e w' ⟨rfl, rfl⟩)
  go_ret2
  exact givesL_nil _ _ 0
set_option maxHeartbeats 1000000 in
/-- FnExactBitRing: over the contracts of both sides (the same list, the same Bool). -/
theorem fnExactBitRing_core (n : Int) (l : List Int) (ok : Bool) (hl : l.length ≤ 1048577)
    (hS : ∀ w : World, Calls Try.prog 21 #[.int .i64 n] w fun e w' => GivesL 2 (ints l) ok w e w')
    (hI : ∀ w : World, Calls Try.prog 22 #[.int .i64 n] w fun e w' => GivesL 2 (ints l) ok w e w') (w : World) :
    Calls Try.prog 7 #[.int .i64 n] w fun e w' => e = .returned (.bool true) ∧ Below w.heap.size w w' := by
  have HS := Lib.hid hS
  have HI := Lib.hid hI
  clear hS hI
  have hok : (ok != ok) = false := by simp
  have hm1 : ((1 : Int) + l.length != 1 + l.length) = false := by simp
  have hlen : (ints l).length = l.length := ints_len l
  have HL := Lib.hid hlen
  clear hlen
  go_enter Try.func7, Try.ntmps7
  go_wp2_with fail
  refine (HS.out _).mono ?_
  rintro e w1 ⟨v0, rfl, hown0, hb0⟩
  rw [HL.out] at hown0
  obtain ⟨A0, c0, rfl, hr0⟩ := own_row hown0
  go_wp2_with fail
  refine (HI.out _).mono ?_
  rintro e w2 ⟨v1, rfl, hown1, hb1⟩
  rw [HL.out] at hown1
  obtain ⟨A1, c1, rfl, hr1⟩ := own_row hown1
  have hr0' := hr0.below hb1
  have hg0 := hr0'.congr (g := fun j => .int .i64 (l.getD j 0)) (fun j hj => ints_getD l j hj)
  have hg1 := hr1.congr (g := fun j => .int .i64 (l.getD j 0)) (fun j hj => ints_getD l j hj)
  clear hr0 hr1 hr0'
  go_wp2_with fail
  refine (eqInts_same A1 A0 _ c1 c0 (fun j => l.getD j 0) _ _ _ (by omega) hg1 hg0).mono ?_
  rintro e w3 ⟨rfl, q, rfl⟩
  go_wp2_with fail
  refine (markInts w1.heap.size l.length _ (ints l) 1 _ (by omega) rfl (show (w2.drewN q).ownsRow w1.heap.size 2 1 _ _ _ from hown1)).mono ?_
  rintro e w4 ⟨rfl, hgr, ys, hown4, hm4⟩
  obtain ⟨A4, c4, hv4, hr4⟩ := own_row hown4
  injection hv4 with hv4a hv4b hv4c
  subst hv4a
  clear hv4b hv4c
  have hheld := hr4.congr (g := fun j => .int .i64 (1 + j)) (fun j hj => by rw [List.getD_eq_getElem?_getD, hm4 j hj]; rfl)
  have hb3 : Below w1.heap.size w1 w4 := (below_drewN hb1 q).trans (below_of_grown (show (w2.drewN q).ownsRow w1.heap.size 2 1 _ _ _ from hown1) hgr hb1.size)
  have hb4 : Below w.heap.size w w4 := hb0.trans (hb3.mono hb0.size)
  have hg4 : Row w4 w1.heap.size A0 l.length (fun j => .int .i64 (l.getD j 0)) := by
    -- the reference's row lies below the program's base
    intro hn
    obtain ⟨b, off, e, hlt, hc⟩ := hg0 hn
    refine ⟨b, off, e, hlt, fun j hj => ?_⟩
    have hbel : Below w1.heap.size w2 w4 := (below_drewN (Below.refl _ w2) q).trans (below_of_grown (show (w2.drewN q).ownsRow w1.heap.size 2 1 _ _ _ from hown1) hgr hb1.size)
    exact (hbel.cell (p := ⟨b, off + j, none⟩) hlt).trans (hc j hj)
  clear hg0 hg1 hr4 hm4 hgr hb1 hown0 hown1 hb0
  go_wp2_with fail
  refine (heldInts A1 l.length _ _ 1 _ (by omega) rfl hheld).mono ?_
  rintro e w5 ⟨rfl, rfl⟩
  go_wp2_with fail
  refine (HI.out _).mono ?_
  rintro e w6 ⟨v6, rfl, hown6, hb6⟩
  rw [HL.out] at hown6
  obtain ⟨A6, c6, rfl, hr6⟩ := own_row hown6
  have hg6 := hr6.congr (g := fun j => .int .i64 (l.getD j 0)) (fun j hj => ints_getD l j hj)
  have hg0' := hg4.below (hb6.mono hb3.size)
  have hheld' := hheld.below hb6
  have hb7 : Below w.heap.size w w6 := hb4.trans (hb6.mono hb4.size)
  clear hr6 hg4 hheld hb4 hb3 hb6 hown6 hown4
  go_wp2_with fail
  refine (eqInts_same A6 A0 _ c6 c0 (fun j => l.getD j 0) _ _ _ (by omega) hg6 hg0').mono ?_
  rintro e w7 ⟨rfl, q2, rfl⟩
  go_wp2_with fail
  refine (heldInts A1 l.length _ _ 1 _ (by omega) rfl (hheld'.drewN q2)).mono ?_
  rintro e w8 ⟨rfl, rfl⟩
  go_wp2_with fail
  go_ret
  exact ⟨rfl, below_drewN hb7 _⟩
theorem fnExactBitRing_walk (n : Int) (wf : (Lit.int .i64 n).wf = true) (w : World) : Calls Try.prog 7 #[.int .i64 n] w fun e w' => e = .returned (.bool true) ∧ Below w.heap.size w w' := by
  rcases inB_cases n 1 6 with ⟨h, h0, h1⟩ | ⟨h, h1⟩
  · obtain ⟨m, rfl⟩ := Int.eq_ofNat_of_zero_le (by omega : 0 ≤ n)
    exact fnExactBitRing_core _ (ringL m) true (by have := ring_len m (by omega); omega) (fun w => specRing_yes m (by omega) (by omega) w) (fun w => implRing_yes m (by omega) (by omega) w) w
  · exact fnExactBitRing_core _ [] false (by simp) (fun w => specRing_no n h w) (fun w => implRing_no n h w) w
end Go.Proofs.Ytajbepbggfbmpaa
