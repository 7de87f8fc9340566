/- ReadNumbers of the reference. -/
import Derived.Test.YtdbcajiagjeplaaDoorWNRd
set_option linter.unusedVariables false
set_option linter.unusedSimpArgs false
namespace Go.Proofs.YtdbcajiagjeplaaDoor
open Go.RowKit Go.Lib
set_option maxRecDepth 20000 in
set_option maxHeartbeats 1600000 in
theorem specNRead_any (s : ByteArray) (hsz0 : s.size ≤ 1048576) (w : World) : Calls Tryd.prog 53 #[.string s] w fun e w' => RetNs s.data.toList w e w' := by
  obtain ⟨i0, hi0, hz0, hz1, hz2⟩ := info_parts info_f32
  by_cases hn : s.data.toList = [110, 111, 110, 101]
  · obtain rfl := none_eq hn
    clear hn
    go_enter Tryd.func53, Tryd.ntmps53
    go_wp2_with fail
    go_ret2
    exact retNs_none rfl (own_empty _ _) ((Below.refl _ _).alloc (Nat.le_refl _) _)
  · have g0 := none_ne hn
    have hcl := cuts_len s.data.toList
    have hsl : s.data.toList.length = s.size := by rw [Array.length_toList]; rfl
    have hcut := specCut_any s hsz0
    generalize s.data.toList = l at *
    have HN := Lib.hid hn
    have HC := Lib.hid hcut
    clear hn hcut
    go_enter Tryd.func53, Tryd.ntmps53
    go_wp2_with fail
    refine (HC.out _).mono ?_
    rintro e w1 ⟨v, rfl, hown, hb⟩
    obtain ⟨A1, c1, rfl, hr1⟩ := own_row hown
    have ho1 := own_below (own_empty w 55) hb
    have hW1 : Below w.heap.size w w1 := ((Below.refl _ w).alloc (Nat.le_refl _) (.cells #[] 55)).trans (hb.mono (by simp))
    have hR : Row w1 w1.heap.size A1 (cuts l).length (fun j => ((cuts l).map sv).getD j undef) := hr1
    have hal : Aloof A1 (.slice (some ⟨w.heap.size, 0, none⟩) 0 0) := fun k a hk ha => by
      have h1 := own_addr hown a ha
      have h2 := Option.some.inj hk
      simp at h1 h2
      omega
    clear hr1 hown hb
    generalize hps : cuts l = ps at *
    by_cases h64 : ps.length ≤ 256
    · have g1 : ¬ (256 : Int) < (ps.length : Int) := by omega
      have HP := Lib.hid hps
      clear hps
      go_wp2_with fail
      go_loopw [4, 6] (fun ov iv wr => ∃ (i : Nat) (done : List Nat), iv = .int .i64 (i : Int) ∧ RdTo decX ps i done ∧ wr.ownsRow w.heap.size 55 1 ov done.length (fls done) ∧ Below w.heap.size w wr ∧ Aloof A1 ov ∧ Row wr wr.heap.size A1 ps.length (fun j => (ps.map sv).getD j undef)) (fun _ iv _ => ps.length - (Go.RowKit.intOf iv).toNat)
      case atStart => exact ⟨0, [], rfl, RdTo.start, ho1, hW1, hal, hR⟩
      case round =>
        obtain ⟨i, done, rfl, hrd, ho, hw, hlf, hrow⟩ := hrel
        have hil := hrd.1
        have hdl := hrd.len
        by_cases hlt : i < ps.length
        · have g2 : (i : Int) < (ps.length : Int) := by omega
          obtain ⟨b, off, rfl, hbB, hc⟩ := hrow (by omega)
          have hcell : wr.cell? ⟨b, off + i, none⟩ = some (.string ⟨ps[i].toArray⟩) := (hc i hlt).trans (congrArg some (sv_getD ps i hlt))
          obtain ⟨p, hp⟩ : ∃ p : ByteArray, p = ⟨ps[i].toArray⟩ := ⟨_, rfl⟩
          have hpl : ps[i] = p.data.toList := by rw [hp]
          rw [← hp] at hcell
          clear hc hp
          have hno : decX p.data.toList = none → ps.all (fun q => (decX q).isSome) = false := fun h => all_no hlt (by rw [hpl]; exact h)
          have hyes : ∀ N, decX p.data.toList = some N → RdTo decX ps (i + 1) (done ++ [N]) := fun N h => hrd.on hlt (by rw [hpl]; exact h)
          have HH := Lib.hid (And.intro hno hyes)
          have hpz : p.data.toList.length = p.size := by rw [Array.length_toList]; rfl
          clear hno hyes hpl hrd
          by_cases h8 : p.size = 8
          · have g3 : ((p.size : Int) != 8) = false := by simp; omega
            have H8 := Lib.hid h8
            have HZ := Lib.hid hpz
            clear h8 hpz
            go_wp2_with fail
            go_loop [7, 8] (fun nv kv => ∃ (k v : Nat), kv = .int .i64 (k : Int) ∧ nv = .int .i64 (v : Int) ∧ k ≤ 8 ∧ HexTo p.data.toList k v) (fun _ kv => 8 - (Go.RowKit.intOf kv).toNat)
            case atStart => exact ⟨0, 0, rfl, rfl, by omega, HexTo.start _⟩
            case round =>
              obtain ⟨k, v, rfl, rfl, hk8, hx⟩ := hrel
              by_cases hk : k < 8
              · have g4 : (k : Int) < 8 := by omega
                have hkp : k < p.size := by rw [H8.out]; exact hk
                have g5 : (k : Int) < (p.size : Int) := by omega
                have hkl : k < p.data.toList.length := by rw [HZ.out]; exact hkp
                have hv7 := hx.lt7 hk
                have hget : p.data.toList[k]'hkl = p[k]'hkp := rfl
                have hon : ∀ d, hs (p[k]'hkp) = some d → HexTo p.data.toList (k + 1) (16 * v + d) := fun d h => hx.on hkl h
                have hbad : hs (p[k]'hkp) = none → ps.all (fun q => (decX q).isSome) = false := fun h => HH.out.1 (decX_none fun N _ _ => HexTo.no hkl h N)
                have hc256 : (p[k]'hkp).toNat < 256 := (p[k]'hkp).toNat_lt
                have hsdef : hs (p[k]'hkp) = if 48 ≤ (p[k]'hkp).toNat ∧ (p[k]'hkp).toNat ≤ 57 then some ((p[k]'hkp).toNat - 48) else if 97 ≤ (p[k]'hkp).toNat ∧ (p[k]'hkp).toNat ≤ 102 then some ((p[k]'hkp).toNat - 87) else none := rfl
                have HO := Lib.hid (And.intro hon hbad)
                clear hon hbad hget hx hkl
                by_cases hdig : 48 ≤ (p[k]'hkp).toNat ∧ (p[k]'hkp).toNat ≤ 57
                · rw [if_pos hdig] at hsdef
                  have HX := Lib.hid (HO.out.1 _ hsdef)
                  obtain ⟨q1, q2⟩ := hdig
                  have q3 : ¬ (97 : Int) ≤ ((p[k]'hkp).toNat : Int) := by omega
                  clear hsdef
                  go_wp2_with fail
                  go_round
                  case rel => exact ⟨k + 1, _, by go_num, by congr 1; omega, by omega, HX.out⟩
                  case measure => simp [Go.RowKit.intOf]; omega
                · rw [if_neg hdig] at hsdef
                  by_cases hlet : 97 ≤ (p[k]'hkp).toNat ∧ (p[k]'hkp).toNat ≤ 102
                  · rw [if_pos hlet] at hsdef
                    have HX := Lib.hid (HO.out.1 _ hsdef)
                    obtain ⟨q1, q2⟩ := hlet
                    have q3 : ¬ ((p[k]'hkp).toNat : Int) ≤ 57 := by omega
                    clear hsdef hdig
                    go_wp2_with fail
                    go_round
                    case rel => exact ⟨k + 1, _, by go_num, by congr 1; omega, by omega, HX.out⟩
                    case measure => simp [Go.RowKit.intOf]; omega
                  · rw [if_neg hlet] at hsdef
                    have HX := Lib.hid (HO.out.2 hsdef)
                    clear hsdef
                    go_wp2_with fail
                    all_goals go_ret2
                    all_goals exact retNs_no HN.out (.inr (by rw [HP.out]; exact HX.out)) hw
              · obtain rfl : k = 8 := by omega
                have hv32 := hx.lt (Nat.le_refl _)
                have hend := hx.end8 (by rw [HZ.out, H8.out])
                have hbits := specBits_any v hv32
                rw [bitsZ_nat] at hbits
                have hdec : (bitsN (val .f32 v) = v ∧ decX p.data.toList = some v) ∨ (bitsN (val .f32 v) ≠ v ∧ decX p.data.toList = none) := by
                  by_cases h : bitsN (val .f32 v) = v
                  · exact .inl ⟨h, decX_some hend hv32 h⟩
                  · refine .inr ⟨h, decX_none fun N h1 h2 h3 => h ?_⟩
                    have h4 := hval_hex8 v hv32
                    rw [← hend, h3, hval_hex8 N h1] at h4
                    rw [← h4]; exact h2
                clear hend hx
                rcases hdec with ⟨hcn, hd⟩ | ⟨hcn, hd⟩
                · have HT := Lib.hid (HH.out.2 v hd)
                  rw [hcn] at hbits
                  have HB := Lib.hid hbits
                  have g6 : ((v : Int) != (v : Int)) = false := by simp
                  have hsz := hw.size
                  clear hbits hd hcn
                  go_wp2_with fail
                  refine (l01From_any v hv32 _).mono ?_
                  rintro e w' ⟨rfl, rfl⟩
                  go_wp2_with fail
                  refine (HB.out _).mono ?_
                  rintro e w' ⟨rfl, rfl⟩
                  go_wp2_with (at_builtin; go_must (refine wpList_append_own_at _ rfl (.tmp 74) (.tmp 76) 31 rfl w.heap.size 55 i0 (.float .f32 0) 1 4 Tryd.underlying31 hi0 hz0 hz1 hz2 rfl (by decide) _ done.length (fls done) rfl (ho.alloc _) ⟨wr.heap.size, 0, none⟩ 1 1 [.float .f32 v] rfl rfl (new_one _ _ _) (fl_one _) (by unfold maxLen; omega) (by omega) (by simp; omega) ?_); intro v' w3 hown3 hgr3 _ hblk3)
                  have hb3 := step_below hw ho hgr3
                  have hrow3 := hrow.append (Below.refl _ _) hgr3 hlf
                  have hlf3 := hlf.next hblk3 (fun a ha => by obtain rfl := Option.some.inj ha; simp; omega)
                  go_roundw
                  case rel => exact ⟨i + 1, _, rfl, HT.out, by rw [List.length_append, fls_snoc]; exact hown3, hb3, hlf3, hrow3⟩
                  case measure => simp [Go.RowKit.intOf]; omega
                · have HX := Lib.hid (HH.out.1 hd)
                  have HB := Lib.hid hbits
                  have g6 : (((bitsN (val .f32 v) : Nat) : Int) != (v : Int)) = true := by simp; omega
                  clear hbits hd
                  go_wp2_with fail
                  refine (l01From_any v hv32 _).mono ?_
                  rintro e w' ⟨rfl, rfl⟩
                  go_wp2_with fail
                  refine (HB.out _).mono ?_
                  rintro e w' ⟨rfl, rfl⟩
                  go_wp2_with fail
                  go_ret2
                  exact retNs_no HN.out (.inr (by rw [HP.out]; exact HX.out)) hw
          · have g3 : ((p.size : Int) != 8) = true := by simp; omega
            go_wp2_with fail
            go_ret2
            refine retNs_no HN.out (.inr ?_) hw
            rw [HP.out]
            exact HH.out.1 (decX_len (by omega))
        · have g2 : ¬ (i : Int) < (ps.length : Int) := by omega
          go_wp2_with fail
          go_ret2
          exact retNs_yes HN.out (by rw [HP.out]; exact h64) (by rw [HP.out]; exact hrd) (by rw [HP.out]; exact hlt) ho hw
    · have g1 : (256 : Int) < (ps.length : Int) := by omega
      go_wp2_with fail
      go_ret2
      refine retNs_no HN.out (.inl ?_) hW1
      rw [hps]; exact h64
end Go.Proofs.YtdbcajiagjeplaaDoor
