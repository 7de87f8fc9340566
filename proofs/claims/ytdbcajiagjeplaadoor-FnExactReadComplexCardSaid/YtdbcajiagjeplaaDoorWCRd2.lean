/- ReadComplex: the reference. -/
import Derived.Test.YtdbcajiagjeplaaDoorWCRd
set_option linter.unusedVariables false
set_option linter.unusedSimpArgs false
namespace Go.Proofs.YtdbcajiagjeplaaDoor
open Go.RowKit Go.Lib
set_option maxRecDepth 20000 in
set_option maxHeartbeats 1600000 in
theorem specDigits_any (p : ByteArray) (h8 : p.size = 8) (w : World) : Calls Tryd.prog 79 #[.string p] w fun e w' => RetRX p.data.toList w e w' := by
  have hpz : p.data.toList.length = p.size := by rw [Array.length_toList]; rfl
  have H8 := Lib.hid h8
  have HZ := Lib.hid hpz
  have hp8 : p.size ≤ 8 := by omega
  clear h8 hpz
  go_enter Tryd.func79, Tryd.ntmps79
  go_wp2_with fail
  go_loop [4, 5] (fun nv kv => ∃ (k v : Nat), kv = .int .i64 (k : Int) ∧ nv = .int .i64 (v : Int) ∧ k ≤ 8 ∧ HexTo p.data.toList k v) (fun _ kv => 8 - (Go.RowKit.intOf kv).toNat)
  case atStart => exact ⟨0, 0, rfl, rfl, by omega, HexTo.start _⟩
  case round =>
    obtain ⟨k, v, rfl, rfl, hk8, hx⟩ := hrel
    by_cases hk : k < 8
    · have hkp : k < p.size := by rw [H8.out]; exact hk
      have g5 : (k : Int) < (p.size : Int) := by omega
      have hkl : k < p.data.toList.length := by rw [HZ.out]; exact hkp
      have hv7 := hx.lt7 hk
      have hon : ∀ d, hs (p[k]'hkp) = some d → HexTo p.data.toList (k + 1) (16 * v + d) := fun d h => hx.on hkl h
      have hbad : hs (p[k]'hkp) = none → decX p.data.toList = none := fun h => decX_none fun N _ _ => HexTo.no hkl h N
      have hc256 : (p[k]'hkp).toNat < 256 := (p[k]'hkp).toNat_lt
      have hsdef : hs (p[k]'hkp) = if 48 ≤ (p[k]'hkp).toNat ∧ (p[k]'hkp).toNat ≤ 57 then some ((p[k]'hkp).toNat - 48) else if 97 ≤ (p[k]'hkp).toNat ∧ (p[k]'hkp).toNat ≤ 102 then some ((p[k]'hkp).toNat - 87) else none := rfl
      have HO := Lib.hid (And.intro hon hbad)
      clear hon hbad hx hkl
      by_cases hdig : 48 ≤ (p[k]'hkp).toNat ∧ (p[k]'hkp).toNat ≤ 57
      · rw [if_pos hdig] at hsdef
        have HX := Lib.hid (HO.out.1 _ hsdef)
        obtain ⟨q1, q2⟩ := hdig
        have q3 : ¬ (97 : Int) ≤ ((p[k]'hkp).toNat : Int) := by omega
        clear hsdef
        go_wp2_with fail
        go_round
        case rel => exact ⟨k + 1, _, by go_num, by congr 1; omega, by omega, HX.out⟩
        case measure => simp [Go.RowKit.intOf]; omega
      · rw [if_neg hdig] at hsdef
        by_cases hlet : 97 ≤ (p[k]'hkp).toNat ∧ (p[k]'hkp).toNat ≤ 102
        · rw [if_pos hlet] at hsdef
          have HX := Lib.hid (HO.out.1 _ hsdef)
          obtain ⟨q1, q2⟩ := hlet
          have q3 : ¬ ((p[k]'hkp).toNat : Int) ≤ 57 := by omega
          clear hsdef hdig
          go_wp2_with fail
          go_round
          case rel => exact ⟨k + 1, _, by go_num, by congr 1; omega, by omega, HX.out⟩
          case measure => simp [Go.RowKit.intOf]; omega
        · rw [if_neg hlet] at hsdef
          have HX := Lib.hid (HO.out.2 hsdef)
          clear hsdef
          go_wp2_with fail
          all_goals go_ret2
          all_goals exact ⟨_, _, rfl, .inr ⟨rfl, HX.out⟩, Below.refl _ _⟩
    · obtain rfl : k = 8 := by omega
      have g5 : ¬ (8 : Int) < (p.size : Int) := by omega
      have hv32 := hx.lt (Nat.le_refl _)
      have hend := hx.end8 (by rw [HZ.out, H8.out])
      have hbits := specBits_any v hv32
      rw [bitsZ_nat] at hbits
      have hdec : (bitsN (val .f32 v) = v ∧ decX p.data.toList = some v) ∨ (bitsN (val .f32 v) ≠ v ∧ decX p.data.toList = none) := by
        by_cases h : bitsN (val .f32 v) = v
        · exact .inl ⟨h, decX_some hend hv32 h⟩
        · refine .inr ⟨h, decX_none fun N h1 h2 h3 => h ?_⟩
          have h4 := hval_hex8 v hv32
          rw [← hend, h3, hval_hex8 N h1] at h4
          rw [← h4]; exact h2
      clear hend hx
      rcases hdec with ⟨hcn, hd⟩ | ⟨hcn, hd⟩
      · have HT := Lib.hid hd
        rw [hcn] at hbits
        have HB := Lib.hid hbits
        have g6 : ((v : Int) != (v : Int)) = false := by simp
        clear hbits hd hcn
        go_wp2_with fail
        refine (l01From_any v hv32 _).mono ?_
        rintro e w' ⟨rfl, rfl⟩
        go_wp2_with fail
        refine (HB.out _).mono ?_
        rintro e w' ⟨rfl, rfl⟩
        go_wp2_with fail
        go_ret2
        exact ⟨_, _, rfl, .inl ⟨rfl, HT.out⟩, Below.refl _ _⟩
      · have HX := Lib.hid hd
        have HB := Lib.hid hbits
        have g6 : (((bitsN (val .f32 v) : Nat) : Int) != (v : Int)) = true := by simp; omega
        clear hbits hd
        go_wp2_with fail
        refine (l01From_any v hv32 _).mono ?_
        rintro e w' ⟨rfl, rfl⟩
        go_wp2_with fail
        refine (HB.out _).mono ?_
        rintro e w' ⟨rfl, rfl⟩
        go_wp2_with fail
        go_ret2
        exact ⟨_, _, rfl, .inr ⟨rfl, HX.out⟩, Below.refl _ _⟩
set_option maxRecDepth 20000 in
set_option maxHeartbeats 1600000 in
theorem specCRead_any (s : ByteArray) (hsz0 : s.size ≤ 1048576) (w : World) : Calls Tryd.prog 55 #[.string s] w fun e w' => RetCs s.data.toList w e w' := by
  obtain ⟨i0, hi0, hz0, hz1, hz2⟩ := info_parts info_cx
  by_cases hn : s.data.toList = [110, 111, 110, 101]
  · obtain rfl := none_eq hn
    clear hn
    go_enter Tryd.func55, Tryd.ntmps55
    go_wp2_with fail
    go_ret2
    exact retCs_none rfl (own_empty _ _) ((Below.refl _ _).alloc (Nat.le_refl _) _)
  · have g0 := none_ne hn
    have hcl := cuts_len s.data.toList
    have hsl : s.data.toList.length = s.size := by rw [Array.length_toList]; rfl
    have hcut := specCut_any s hsz0
    generalize s.data.toList = l at *
    have HN := Lib.hid hn
    have HC := Lib.hid hcut
    clear hn hcut
    go_enter Tryd.func55, Tryd.ntmps55
    go_wp2_with fail
    refine (HC.out _).mono ?_
    rintro e w1 ⟨v, rfl, hown, hb⟩
    obtain ⟨A1, c1, rfl, hr1⟩ := own_row hown
    have ho1 := own_below (own_empty w 66) hb
    have hW1 : Below w.heap.size w w1 := ((Below.refl _ w).alloc (Nat.le_refl _) (.cells #[] 66)).trans (hb.mono (by simp))
    have hR : Row w1 w1.heap.size A1 (cuts l).length (fun j => ((cuts l).map sv).getD j undef) := hr1
    have hal : Aloof A1 (.slice (some ⟨w.heap.size, 0, none⟩) 0 0) := fun k a hk ha => by
      have h1 := own_addr hown a ha
      have h2 := Option.some.inj hk
      simp at h1 h2
      omega
    clear hr1 hown hb
    generalize hps : cuts l = ps at *
    by_cases h64 : ps.length ≤ 256
    · have g1 : ¬ (256 : Int) < (ps.length : Int) := by omega
      have HP := Lib.hid hps
      clear hps
      go_wp2_with fail
      go_loopw [4, 6] (fun ov iv wr => ∃ (i : Nat) (done : List (Nat × Nat)), iv = .int .i64 (i : Int) ∧ RdTo decC ps i done ∧ wr.ownsRow w.heap.size 66 1 ov done.length (cxs done) ∧ Below w.heap.size w wr ∧ Aloof A1 ov ∧ Row wr wr.heap.size A1 ps.length (fun j => (ps.map sv).getD j undef)) (fun _ iv _ => ps.length - (Go.RowKit.intOf iv).toNat)
      case atStart => exact ⟨0, [], rfl, RdTo.start, ho1, hW1, hal, hR⟩
      case round =>
        obtain ⟨i, done, rfl, hrd, ho, hw, hlf, hrow⟩ := hrel
        have hil := hrd.1
        have hdl := hrd.len
        by_cases hlt : i < ps.length
        · have g2 : (i : Int) < (ps.length : Int) := by omega
          obtain ⟨b, off, rfl, hbB, hc⟩ := hrow (by omega)
          have hcell : wr.cell? ⟨b, off + i, none⟩ = some (.string ⟨ps[i].toArray⟩) := (hc i hlt).trans (congrArg some (sv_getD ps i hlt))
          obtain ⟨p, hp⟩ : ∃ p : ByteArray, p = ⟨ps[i].toArray⟩ := ⟨_, rfl⟩
          have hpl : ps[i] = p.data.toList := by rw [hp]
          rw [← hp] at hcell
          clear hc hp
          have hno : decC p.data.toList = none → ps.all (fun q => (decC q).isSome) = false := fun h => all_no hlt (by rw [hpl]; exact h)
          have hyes : ∀ N, decC p.data.toList = some N → RdTo decC ps (i + 1) (done ++ [N]) := fun N h => hrd.on hlt (by rw [hpl]; exact h)
          have HH := Lib.hid (And.intro hno hyes)
          have hpz : p.data.toList.length = p.size := by rw [Array.length_toList]; rfl
          clear hno hyes hpl hrd
          by_cases h8 : p.size = 16
          · have g3 : ((p.size : Int) != 16) = false := by simp; omega
            have g5 : (8 : Int) ≤ (p.size : Int) := by omega
            have g6 : 8 ≤ p.size := by omega
            have H8 := Lib.hid h8
            have HZ := Lib.hid hpz
            have hx1 := specDigits_any (p.extract 0 8) (by rw [ByteArray.size_extract]; omega)
            have hx2 := specDigits_any (p.extract 8 p.size) (by rw [ByteArray.size_extract]; omega)
            rw [half1] at hx1
            rw [half2] at hx2
            have HX := Lib.hid (And.intro hx1 hx2)
            have H64 := Lib.hid h64
            clear h8 hpz hx1 hx2 h64
            go_wp2_with fail
            refine (HX.out.1 _).mono ?_
            rintro e w2 ⟨x1, ok1, rfl, hd1, hb2⟩
            have HD1 := Lib.hid hd1
            have hW2 := hw.trans (hb2.mono hw.size)
            have hcell2 := (hb2.cell (p := ⟨b, off + i, none⟩) hbB).trans hcell
            clear hd1
            go_wp2_with fail
            refine (HX.out.2 _).mono ?_
            rintro e w3 ⟨x2, ok2, rfl, hd2, hb3⟩
            have HD2 := Lib.hid hd2
            have hW3 := hW2.trans (hb3.mono hW2.size)
            clear hd2
            cases ok1 with
            | false =>
              go_wp2_with fail
              go_ret2
              refine retCs_no HN.out (.inr ?_) hW3
              rw [HP.out]
              refine HH.out.1 (decC_no1 ?_)
              rcases HD1.out with ⟨h, _⟩ | ⟨_, h⟩
              · cases h
              · exact h
            | true =>
              cases ok2 with
              | false =>
                go_wp2_with fail
                go_ret2
                refine retCs_no HN.out (.inr ?_) hW3
                rw [HP.out]
                refine HH.out.1 (decC_no2 ?_)
                rcases HD2.out with ⟨h, _⟩ | ⟨_, h⟩
                · cases h
                · exact h
              | true =>
                have hd1 : decX (p.data.toList.take 8) = some x1 := by
                  rcases HD1.out with ⟨_, h⟩ | ⟨h, _⟩
                  · exact h
                  · cases h
                have hd2 : decX (p.data.toList.drop 8) = some x2 := by
                  rcases HD2.out with ⟨_, h⟩ | ⟨h, _⟩
                  · exact h
                  · cases h
                have HT := Lib.hid (HH.out.2 _ (decC_yes (HZ.out.trans H8.out) hd1 hd2))
                have hb23 : Below wr.heap.size wr w3 := hb2.trans (hb3.mono hb2.size)
                have ho3 := own_below ho hb23
                have hsz := hW3.size
                have hsb := hb23.size
                clear hd1 hd2 HD1 HD2 hcell hcell2 hw ho hb2 hb3 hW2
                go_wp2_with (at_builtin; go_must (refine wpList_append_own_at _ rfl (.tmp 56) (.tmp 60) 44 rfl w.heap.size 66 i0 (.complex .f32 0 0) 1 8 Tryd.underlying44 hi0 hz0 hz1 hz2 rfl (by decide) _ done.length (cxs done) rfl (ho3.alloc _) ⟨w3.heap.size, 0, none⟩ 1 1 [.complex .f32 x1 x2] rfl rfl (new_one _ _ _) (cx_one _ _) (by unfold maxLen; omega) (by omega) (by simp; omega) ?_); intro v' w4 hown4 hgr4 _ hblk4)
                have hb4 := step_below hW3 ho3 hgr4
                have hrow4 := hrow.append hb23 hgr4 hlf
                have hlf4 := hlf.next hblk4 (fun a ha => by obtain rfl := Option.some.inj ha; simp; omega)
                go_roundw
                case rel => exact ⟨i + 1, _, rfl, HT.out, by rw [List.length_append, cxs_snoc]; exact hown4, hb4, hlf4, hrow4⟩
                case measure => simp [Go.RowKit.intOf]; omega
          · have g3 : ((p.size : Int) != 16) = true := by simp; omega
            go_wp2_with fail
            go_ret2
            refine retCs_no HN.out (.inr ?_) hw
            rw [HP.out]
            exact HH.out.1 (decC_len (by omega))
        · have g2 : ¬ (i : Int) < (ps.length : Int) := by omega
          go_wp2_with fail
          go_ret2
          exact retCs_yes HN.out (by rw [HP.out]; exact h64) (by rw [HP.out]; exact hrd) (by rw [HP.out]; exact hlt) ho hw
    · have g1 : (256 : Int) < (ps.length : Int) := by omega
      go_wp2_with fail
      go_ret2
      refine retCs_no HN.out (.inl ?_) hW1
      rw [hps]; exact h64
end Go.Proofs.YtdbcajiagjeplaaDoor
