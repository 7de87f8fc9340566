/- FnProducts returns true. -/
import Derived.Test.YtdbcajiagjeplaaGreatDoorZWProd
set_option linter.unusedVariables false
set_option linter.unusedSimpArgs false
namespace Go.Proofs.YtdbcajiagjeplaaGreatDoor
open Ieee Go.RowKit near

theorem wrap_le {n : Int} (h : n.natAbs ≤ 100000) : IntKind.i64.wrap n = n := by rw [IntKind.wrap_i64]; omega
theorem zero_yes : IsI .f32 0 0 := zero_i
set_option maxRecDepth 20000 in
set_option maxHeartbeats 6400000 in
theorem fnProducts_walk (w : World) (A0 : Option Addr) (n0 c0 : Nat) (f0 : Nat → Int) (hnc0 : n0 ≤ c0) (hcm0 : c0 ≤ maxLen) (hr0 : Row w w.heap.size A0 n0 (fun j => .int .u8 (f0 j))) (hw0 : ∀ j, j < n0 → (Lit.int .u8 (f0 j)).wf = true)
    (A1 : Option Addr) (n1 c1 : Nat) (f1 : Nat → Int) (hnc1 : n1 ≤ c1) (hcm1 : c1 ≤ maxLen) (hr1 : Row w w.heap.size A1 n1 (fun j => .int .u8 (f1 j))) (hw1 : ∀ j, j < n1 → (Lit.int .u8 (f1 j)).wf = true) (hK : LibX w) :
    Calls Tryz.prog 4 #[.slice A0 n0 c0, .slice A1 n1 c1] w fun e w' => e = .returned (.bool true) ∧ Below w.heap.size w w' := by
  by_cases hs : n0 ≤ 1048576 ∧ n1 ≤ 1048576
  · have hy0 := bytes_of hr0 hw0 hs.1
    have hy1 := bytes_of hr1 hw1 hs.2
    have HW := Lib.hid (And.intro hw0 hw1)
    clear hw0 hw1 hr1 hr0
    go_enter Tryz.func4, Tryz.ntmps4
    go_wp2_with fail
    refine (b10Long_short A0 n0 c0 A1 n1 c1 hs.1 hs.2 _).mono ?_
    rintro e w' ⟨rfl, rfl⟩
    go_wp2_with fail
    refine (b10Whole_any A0 n0 c0 f0 _ hy0).mono ?_
    rintro e wa ⟨AA, ca, a, b, ha, hb, rfl, hra, hba⟩
    obtain ⟨ba, oa, rfl, hla, hca⟩ := hra (by omega)
    have hcella : wa.cell? ⟨ba, oa + 0, none⟩ = some (.complex .f32 (FloatKind.f32.nearest a) (FloatKind.f32.nearest b)) := hca 0 (by omega)
    rw [Nat.add_zero] at hcella
    have hy1a := hy1.below hba
    clear hca hra
    go_wp2_with fail
    clear hcella hla
    refine (b10Whole_any A1 n1 c1 f1 _ ⟨hy1a.1.mono hba.size, hy1a.2⟩).mono ?_
    rintro e wb ⟨AB, cb, c, d, hc, hd, rfl, hrb, hbb⟩
    obtain ⟨bb, ob, rfl, hlb, hcb⟩ := hrb (by omega)
    have hcellb : wb.cell? ⟨bb, ob + 0, none⟩ = some (.complex .f32 (FloatKind.f32.nearest c) (FloatKind.f32.nearest d)) := hcb 0 (by omega)
    rw [Nat.add_zero] at hcellb
    have hB := hba.trans (hbb.mono hba.size)
    clear hcb hrb hba hbb hy1a
    go_wp2_with fail
    clear hcellb hlb
    obtain ⟨p, q, p2, q2, pw, m, n, r, s, r', s', HP⟩ := prods_ex a b c d ha hb hc hd
    have hza := toI a ha
    have hzb := toI b hb
    have hzc := toI c hc
    have hzd := toI d hd
    have hzt := zero_test c d hc hd
    have m1 := abs_mul_le ha hc
    have m2 := abs_mul_le hb hd
    have m3 := abs_mul_le ha hd
    have m4 := abs_mul_le hb hc
    have m5 := abs_mul_le ha ha
    have m6 := abs_mul_le hb hb
    have w1 := wrap_le (n := a * c) (by omega)
    have w2 := wrap_le (n := b * d) (by omega)
    have w3 := wrap_le (n := a * d) (by omega)
    have w4 := wrap_le (n := b * c) (by omega)
    have w5 := wrap_le (n := a * a) (by omega)
    have w6 := wrap_le (n := b * b) (by omega)
    have w7 := wrap_le (n := a * c - b * d) (by omega)
    have w8 := wrap_le (n := a * d + b * c) (by omega)
    have w9 := wrap_le (n := a * a + b * b) (by omega)
    have hX : floatOfInt .f32 (a * c - b * d) = FloatKind.f32.nearest (a * c - b * d) := rfl
    have hY : floatOfInt .f32 (a * d + b * c) = FloatKind.f32.nearest (a * d + b * c) := rfl
    have hP : floatOfInt .f32 (a * a + b * b) = FloatKind.f32.nearest (a * a + b * b) := rfl
    generalize FloatKind.f32.nearest (a * c - b * d) = X at *
    generalize FloatKind.f32.nearest (a * d + b * c) = Y at *
    generalize FloatKind.f32.nearest (a * a + b * b) = P at *
    have hq := HP.quot
    have k1 := HP.mul
    have k2 := HP.mul2
    have k3 := HP.pow
    have k4 := HP.conj
    have k5 := HP.mulc
    have k6 := HP.long
    have k7 := HP.root
    have k8 := HP.scale
    have k9 := HP.twice
    have e1 := HP.e1
    have e2 := HP.e2
    have e3 := HP.e3
    have e4 := HP.e4
    have e5 := HP.e5
    have e5p : FloatKind.f32.format.order pw P = some .eq := by simpa using HP.e5
    have e6 := HP.e6
    have e7 := HP.e7
    have e8 := HP.e8
    have e9 := HP.e9
    clear HP m1 m2 m3 m4 m5 m6
    generalize FloatKind.f32.nearest a = xr at *
    generalize FloatKind.f32.nearest b = xi at *
    generalize FloatKind.f32.nearest c = yr at *
    generalize FloatKind.f32.nearest d = yi at *
    generalize Op.negFloat .f32 xi = xn at *
    have HC := Lib.hid (And.intro k1 (And.intro k2 (And.intro k3 (And.intro k4 (And.intro k5 (And.intro k6 (And.intro k7 k8)))))))
    have HQ := Lib.hid (And.intro hq hzt)
    clear k1 k2 k3 k4 k5 k6 k7 k8 hq hzt
    refine (HC.out.1 _).mono ?_
    rintro e w' ⟨rfl, rfl⟩
    go_wp2_with fail
    refine (HC.out.2.1 _).mono ?_
    rintro e w' ⟨rfl, rfl⟩
    go_wp2_with fail
    refine (HC.out.2.2.1 _).mono ?_
    rintro e w' ⟨rfl, rfl⟩
    go_wp2_with fail
    refine (HC.out.2.2.2.1 _).mono ?_
    rintro e w' ⟨rfl, rfl⟩
    go_wp2_with fail
    refine (HC.out.2.2.2.2.1 _).mono ?_
    rintro e w' ⟨rfl, rfl⟩
    go_wp2_with fail
    refine (HC.out.2.2.2.2.2.1 _).mono ?_
    rintro e wc ⟨la, ql, rfl, hla, hwc⟩
    have hBc : Below w.heap.size w wc := hwc ▸ below_any hB ql
    have HLA := Lib.hid hla
    clear hwc hB hla
    go_wp2_with fail
    refine (HC.out.2.2.2.2.2.2.1 _).mono ?_
    rintro e wd ⟨lb, qm, rfl, hlb, hwd⟩
    have hBd : Below w.heap.size w wd := hwd ▸ below_any hBc qm
    have HLB := Lib.hid hlb
    clear hwd hBc hlb
    go_wp2_with fail
    refine (same_yes HLA.out HLB.out _).mono ?_
    rintro e w' ⟨rfl, rfl⟩
    by_cases hz : c = 0 ∧ d = 0
    · have hzt := HQ.out.2
      rw [decide_eq_true hz.1, decide_eq_true hz.2] at hzt
      have hzt2 : ((FloatKind.f32.format.order yr 0 == some .eq) && (FloatKind.f32.format.order yi 0 == some .eq)) = true := by rw [← Bool.not_not (_ && _), hzt]; rfl
      clear hzt
      go_wp2_with fail
      refine (HC.out.2.2.2.2.2.2.2 _).mono ?_
      rintro e w' ⟨rfl, rfl⟩
      go_wp2_with fail
      clear e1 e2 e3 e4 e5 e5p e6 e7 e8 e9 k9 w1 w2 w3 w4 w5 w6 w7 w8 w9 hX hY hP hza hzb hzc hzd hzt2 hz HC HQ HLA HLB
      have hy0c := hy0.below hBd
      refine (b10At_zero A0 n0 c0 f0 9 (by omega) (by omega) (by omega) _ _ hy0c.1 HW.out.1).mono ?_
      rintro e w' ⟨⟨N, hN, rfl⟩, rfl⟩
      have hy1c := hy1.below hBd
      clear hy0c
      go_wp2_with fail
      refine (b10Any_any A1 n1 c1 N f1 _ (by omega) ⟨hy1c.1.mono hBd.size, hy1c.2⟩).mono ?_
      rintro e wl ⟨v, l, rfl, hl, hall, hown, hbl⟩
      have hB3 := hBd.trans (hbl.mono hBd.size)
      clear hy1c hBd hbl
      obtain ⟨AL, cL, rfl, hrL⟩ := own_row hown
      have hR : Row wl wl.heap.size AL N (fun j => cxv (l.getD j (0, 0))) := hrL.congr fun j hj => cxs_getD l j (by omega)
      have hall2 : ∀ j, j < N → (l.getD j (0, 0)).1 < 4294967296 ∧ (l.getD j (0, 0)).2 < 4294967296 := fun j hj => by
        rw [List.getD_eq_getElem?_getD, List.getElem?_eq_getElem (by omega)]
        exact hall _ (List.getElem_mem (by omega))
      have HALL := Lib.hid hall2
      clear hrL hown hall hall2 hl
      generalize hF : (fun j => l.getD j (0, 0)) = F at *
      replace hR : Row wl wl.heap.size AL N (fun j => cxv (F j)) := by subst hF; exact hR
      have HALL2 : ∀ j, j < N → (F j).1 < 4294967296 ∧ (F j).2 < 4294967296 := by subst hF; exact HALL.out
      clear HALL hF
      have HALL := Lib.hid HALL2
      clear HALL2
      have hKt := hK.below hB3
      go_wp2_with fail
      refine (implComplexText_any AL N cL F (by omega) HALL.out _ hR hKt.tz).mono ?_
      rintro e wt ⟨rfl, hbt⟩
      have hBt := hB3.trans (hbt.mono hB3.size)
      have hRt := hR.below hbt
      have hsz := cxText_size F N (by omega)
      have hKr := hK.below hBt
      have hrd := implReadComplex_any ⟨(txGL (hxC F) N).toArray⟩ hsz wt hKr.errs hKr.tz hKr.mlen
      have hrb := cread_back F N (by omega) HALL.out
      have HRD := Lib.hid (show Calls Tryz.prog 31 #[.string ⟨(txGL (hxC F) N).toArray⟩] wt fun e w' => GivesL 42 (cxs ((List.range N).map fun j => (bitsN (val .f32 (F j).1), bitsN (val .f32 (F j).2)))) true wt e w' from by
        have h : ∀ e w', RetCs (txGL (hxC F) N) wt e w' → GivesL 42 (cxs ((List.range N).map fun j => (bitsN (val .f32 (F j).1), bitsN (val .f32 (F j).2)))) true wt e w' := fun e w' h => by
          unfold RetCs at h
          rw [hrb] at h
          exact h
        exact hrd.mono fun e w' hh => h e w' hh)
      clear hrd hrb hsz hKr hKt
      go_wp2_with fail
      refine HRD.out.mono ?_
      rintro e wr ⟨vr, rfl, hownr, hbr⟩
      have hBr := hBt.trans (hbr.mono hBt.size)
      have hRl := ((hRt.mono hbt.size).below hbr).mono hbr.size
      obtain ⟨AR, cR, rfl, hrR⟩ := own_row hownr
      have hlenR : (cxs ((List.range N).map fun j => (bitsN (val .f32 (F j).1), bitsN (val .f32 (F j).2)))).length = N := by rw [cxs_len]; simp
      rw [hlenR] at hrR ⊢
      have hRr : Row wr wr.heap.size AR N (fun j => cxv (bitsN (val .f32 (F j).1), bitsN (val .f32 (F j).2))) := hrR.congr fun j hj => by
        rw [cxs_getD _ _ (by simpa using hj)]
        congr 1
        simp [List.getD_eq_getElem?_getD, hj]
      clear hrR hownr hlenR hbt hbr hBt hRt HRD hB3 hR
      have hy0r := hy0.below hBr
      go_wp2_with fail
      refine (b10Number_any A0 n0 c0 f0 _ ⟨hy0r.1.mono hBr.size, hy0r.2⟩).mono ?_
      rintro e ws ⟨x, rfl, hx, hbs⟩
      have hBs := hBr.trans (hbs.mono hBr.size)
      have hRl2 := (hRl.below hbs).mono hbs.size
      have hRr2 := (hRr.below hbs).mono hbs.size
      clear hBr hbs hRl hRr hy0r
      have HXv := Lib.hid (show FIs .f32 x (val .f32 x) from FIs.mk rfl hx)
      have hbits := implBitsOf_any x hx
      rw [bitsZ_nat] at hbits
      have HBits := Lib.hid hbits
      clear hbits
      go_wp2_with fail
      refine (HBits.out _).mono ?_
      rintro e w' ⟨rfl, rfl⟩
      go_wp2_with fail
      refine (implFrom_yes (bitsN (val .f32 x)) (bitsN_lt hx) _).mono ?_
      rintro e wu ⟨back, q1, rfl, hback, hwu⟩
      have hBu : Below w.heap.size w wu := hwu ▸ below_any hBs q1
      have hRlu : Row wu ws.heap.size AL N (fun j => cxv (F j)) := hwu ▸ hRl2.drewN q1
      have hRru : Row wu ws.heap.size AR N (fun j => cxv (bitsN (val .f32 (F j).1), bitsN (val .f32 (F j).2))) := hwu ▸ hRr2.drewN q1
      have hsu : ws.heap.size = wu.heap.size := by rw [hwu]; rfl
      rw [hsu] at hRlu hRru
      clear hwu hBs hRl2 hRr2 hsu
      rw [val_bits _ x rfl] at hback
      have HBack := Lib.hid hback
      clear hback HBits
      have hy0u := hy0.below hBu
      go_wp2_with fail
      refine (b10Complex_any A0 n0 c0 f0 _ ⟨hy0u.1.mono hBu.size, hy0u.2⟩).mono ?_
      rintro e wv ⟨wr', wi, rfl, hwr, hwi, hbv⟩
      have hBv := hBu.trans (hbv.mono hBu.size)
      have hRl3 := (hRlu.below hbv).mono hbv.size
      have hRr3 := (hRru.below hbv).mono hbv.size
      clear hBu hbv hRlu hRru hy0u
      have HVr := Lib.hid (show FIs .f32 wr' (val .f32 wr') from FIs.mk rfl hwr)
      have HVi := Lib.hid (show FIs .f32 wi (val .f32 wi) from FIs.mk rfl hwi)
      have HWr := Lib.hid hwr
      have HWi := Lib.hid hwi
      have hf1 := fun W => implCFin_any wr' wi W
      have hf2 := fun W => specIsFinite_any wr' W
      have hf3 := fun W => specIsFinite_any wi W
      generalize hu1 : finB (val .f32 wr') = u1 at *
      generalize hu2 : finB (val .f32 wi) = u2 at *
      have HF := Lib.hid (And.intro hf1 (And.intro hf2 hf3))
      clear hwr hwi hf1 hf2 hf3 hu1 hu2
      go_wp2_with (first | (refine wpList_wide rfl _ _ (.tmp 162) rfl (by kernel_rfl) (by kernel_rfl) _ rfl ?_; intro rw1 nw1 hrw1) | (refine wpList_wide rfl _ _ (.tmp 165) rfl (by kernel_rfl) (by kernel_rfl) _ rfl ?_; intro rw2 nw2 hrw2))
      have hfit1 : fitsNarrow (val .f64 rw1) := by rw [hrw1.out]; exact fits_wide HWr.out
      have hfit2 : fitsNarrow (val .f64 rw2) := by rw [hrw2.out]; exact fits_wide HWi.out
      have hnar := fun W => implCNarrow_any rw1 rw2 hfit1 hfit2 W
      rw [hrw1.out, hrw2.out, fnarrow_fwide HWr.out, fnarrow_fwide HWi.out] at hnar
      have HN := Lib.hid hnar
      clear hnar hfit1 hfit2 hrw1 hrw2
      refine (b10Same_yes AR AL N cR cL F _ _ _ (by omega) HALL.out (hRr3.drewN _) (hRl3.drewN _)).mono ?_
      rintro e wx ⟨rfl, qx, hwx⟩
      have hBx : Below w.heap.size w wx := hwx ▸ below_any (below_any hBv _) qx
      clear hwx hBv hRl3 hRr3 HALL
      go_wp2_with fail
      refine (same_yes HBack.out HXv.out _).mono ?_
      rintro e w' ⟨rfl, rfl⟩
      go_wp2_with fail
      refine (HN.out _).mono ?_
      rintro e wy ⟨nr, ns, rfl, hnr, hns, qy, hwy⟩
      have hBy : Below w.heap.size w wy := hwy ▸ below_any hBx qy
      have HNR := Lib.hid hnr
      have HNS := Lib.hid hns
      clear hwy hBx hnr hns
      go_wp2_with fail
      refine (implCSame_yes HNR.out HNS.out HVr.out HVi.out _).mono ?_
      rintro e wz ⟨rfl, qz, hwz⟩
      have hBz : Below w.heap.size w wz := hwz ▸ below_any hBy qz
      clear hwz hBy
      go_wp2_with fail
      refine (conj_any wr' wi _).mono ?_
      rintro e w' ⟨rfl, rfl⟩
      go_wp2_with fail
      refine (conj_any wr' (Op.negFloat .f32 wi) _).mono ?_
      rw [neg_neg_word]
      rintro e w' ⟨rfl, rfl⟩
      go_wp2_with fail
      refine (implCSame_yes HVr.out HVi.out HVr.out HVi.out _).mono ?_
      rintro e wt2 ⟨rfl, qt, hwt⟩
      have hBt2 : Below w.heap.size w wt2 := hwt ▸ below_any hBz qt
      clear hwt hBz
      cases u1 with
      | false =>
        go_wp2_with fail
        refine (HF.out.1 _).mono ?_
        rintro e w9 ⟨rfl, hb9⟩
        have hB9 := hBt2.trans (hb9.mono hBt2.size)
        clear hb9 hBt2
        go_wp2_with fail
        refine (HF.out.2.1 _).mono ?_
        rintro e w10 ⟨rfl, q10, hw10⟩
        have hB10 : Below w.heap.size w w10 := hw10 ▸ below_any hB9 q10
        clear hw10 hB9
        go_wp2_with fail
        go_ret
        exact ⟨by simp, hB10⟩
      | true =>
        go_wp2_with fail
        refine (HF.out.1 _).mono ?_
        rintro e w9 ⟨rfl, hb9⟩
        have hB9 := hBt2.trans (hb9.mono hBt2.size)
        clear hb9 hBt2
        go_wp2_with fail
        refine (HF.out.2.1 _).mono ?_
        rintro e w10 ⟨rfl, q10, hw10⟩
        have hB10 : Below w.heap.size w w10 := hw10 ▸ below_any hB9 q10
        clear hw10 hB9
        go_wp2_with fail
        refine (HF.out.2.2 _).mono ?_
        rintro e w11 ⟨rfl, q11, hw11⟩
        have hB11 : Below w.heap.size w w11 := hw11 ▸ below_any hB10 q11
        clear hw11 hB10
        go_wp2_with fail
        go_ret
        exact ⟨by simp, hB11⟩
    · have hzt := HQ.out.2
      have hzd : (decide (c = 0) && decide (d = 0)) = false := by simp; intro h1 h2; exact hz ⟨h1, h2⟩
      rw [hzd] at hzt
      have hzt2 : ((FloatKind.f32.format.order yr 0 == some .eq) && (FloatKind.f32.format.order yi 0 == some .eq)) = false := by rw [← Bool.not_not (_ && _), hzt]; rfl
      clear hzt
      obtain ⟨t, u, hq, et, eu⟩ := HQ.out.1 hz
      have HQ2 := Lib.hid hq
      clear hq
      go_wp2_with fail
      refine (HQ2.out _).mono ?_
      rintro e w' ⟨rfl, rfl⟩
      go_wp2_with fail
      clear et eu
      refine (HC.out.2.2.2.2.2.2.2 _).mono ?_
      rintro e w' ⟨rfl, rfl⟩
      go_wp2_with fail
      clear e1 e2 e3 e4 e5 e5p e6 e7 e8 e9 k9 w1 w2 w3 w4 w5 w6 w7 w8 w9 hX hY hP hza hzb hzc hzd hzt2 hz HC HQ HLA HLB
      have hy0c := hy0.below hBd
      refine (b10At_zero A0 n0 c0 f0 9 (by omega) (by omega) (by omega) _ _ hy0c.1 HW.out.1).mono ?_
      rintro e w' ⟨⟨N, hN, rfl⟩, rfl⟩
      have hy1c := hy1.below hBd
      clear hy0c
      go_wp2_with fail
      refine (b10Any_any A1 n1 c1 N f1 _ (by omega) ⟨hy1c.1.mono hBd.size, hy1c.2⟩).mono ?_
      rintro e wl ⟨v, l, rfl, hl, hall, hown, hbl⟩
      have hB3 := hBd.trans (hbl.mono hBd.size)
      clear hy1c hBd hbl
      obtain ⟨AL, cL, rfl, hrL⟩ := own_row hown
      have hR : Row wl wl.heap.size AL N (fun j => cxv (l.getD j (0, 0))) := hrL.congr fun j hj => cxs_getD l j (by omega)
      have hall2 : ∀ j, j < N → (l.getD j (0, 0)).1 < 4294967296 ∧ (l.getD j (0, 0)).2 < 4294967296 := fun j hj => by
        rw [List.getD_eq_getElem?_getD, List.getElem?_eq_getElem (by omega)]
        exact hall _ (List.getElem_mem (by omega))
      have HALL := Lib.hid hall2
      clear hrL hown hall hall2 hl
      generalize hF : (fun j => l.getD j (0, 0)) = F at *
      replace hR : Row wl wl.heap.size AL N (fun j => cxv (F j)) := by subst hF; exact hR
      have HALL2 : ∀ j, j < N → (F j).1 < 4294967296 ∧ (F j).2 < 4294967296 := by subst hF; exact HALL.out
      clear HALL hF
      have HALL := Lib.hid HALL2
      clear HALL2
      have hKt := hK.below hB3
      go_wp2_with fail
      refine (implComplexText_any AL N cL F (by omega) HALL.out _ hR hKt.tz).mono ?_
      rintro e wt ⟨rfl, hbt⟩
      have hBt := hB3.trans (hbt.mono hB3.size)
      have hRt := hR.below hbt
      have hsz := cxText_size F N (by omega)
      have hKr := hK.below hBt
      have hrd := implReadComplex_any ⟨(txGL (hxC F) N).toArray⟩ hsz wt hKr.errs hKr.tz hKr.mlen
      have hrb := cread_back F N (by omega) HALL.out
      have HRD := Lib.hid (show Calls Tryz.prog 31 #[.string ⟨(txGL (hxC F) N).toArray⟩] wt fun e w' => GivesL 42 (cxs ((List.range N).map fun j => (bitsN (val .f32 (F j).1), bitsN (val .f32 (F j).2)))) true wt e w' from by
        have h : ∀ e w', RetCs (txGL (hxC F) N) wt e w' → GivesL 42 (cxs ((List.range N).map fun j => (bitsN (val .f32 (F j).1), bitsN (val .f32 (F j).2)))) true wt e w' := fun e w' h => by
          unfold RetCs at h
          rw [hrb] at h
          exact h
        exact hrd.mono fun e w' hh => h e w' hh)
      clear hrd hrb hsz hKr hKt
      go_wp2_with fail
      refine HRD.out.mono ?_
      rintro e wr ⟨vr, rfl, hownr, hbr⟩
      have hBr := hBt.trans (hbr.mono hBt.size)
      have hRl := ((hRt.mono hbt.size).below hbr).mono hbr.size
      obtain ⟨AR, cR, rfl, hrR⟩ := own_row hownr
      have hlenR : (cxs ((List.range N).map fun j => (bitsN (val .f32 (F j).1), bitsN (val .f32 (F j).2)))).length = N := by rw [cxs_len]; simp
      rw [hlenR] at hrR ⊢
      have hRr : Row wr wr.heap.size AR N (fun j => cxv (bitsN (val .f32 (F j).1), bitsN (val .f32 (F j).2))) := hrR.congr fun j hj => by
        rw [cxs_getD _ _ (by simpa using hj)]
        congr 1
        simp [List.getD_eq_getElem?_getD, hj]
      clear hrR hownr hlenR hbt hbr hBt hRt HRD hB3 hR
      have hy0r := hy0.below hBr
      go_wp2_with fail
      refine (b10Number_any A0 n0 c0 f0 _ ⟨hy0r.1.mono hBr.size, hy0r.2⟩).mono ?_
      rintro e ws ⟨x, rfl, hx, hbs⟩
      have hBs := hBr.trans (hbs.mono hBr.size)
      have hRl2 := (hRl.below hbs).mono hbs.size
      have hRr2 := (hRr.below hbs).mono hbs.size
      clear hBr hbs hRl hRr hy0r
      have HXv := Lib.hid (show FIs .f32 x (val .f32 x) from FIs.mk rfl hx)
      have hbits := implBitsOf_any x hx
      rw [bitsZ_nat] at hbits
      have HBits := Lib.hid hbits
      clear hbits
      go_wp2_with fail
      refine (HBits.out _).mono ?_
      rintro e w' ⟨rfl, rfl⟩
      go_wp2_with fail
      refine (implFrom_yes (bitsN (val .f32 x)) (bitsN_lt hx) _).mono ?_
      rintro e wu ⟨back, q1, rfl, hback, hwu⟩
      have hBu : Below w.heap.size w wu := hwu ▸ below_any hBs q1
      have hRlu : Row wu ws.heap.size AL N (fun j => cxv (F j)) := hwu ▸ hRl2.drewN q1
      have hRru : Row wu ws.heap.size AR N (fun j => cxv (bitsN (val .f32 (F j).1), bitsN (val .f32 (F j).2))) := hwu ▸ hRr2.drewN q1
      have hsu : ws.heap.size = wu.heap.size := by rw [hwu]; rfl
      rw [hsu] at hRlu hRru
      clear hwu hBs hRl2 hRr2 hsu
      rw [val_bits _ x rfl] at hback
      have HBack := Lib.hid hback
      clear hback HBits
      have hy0u := hy0.below hBu
      go_wp2_with fail
      refine (b10Complex_any A0 n0 c0 f0 _ ⟨hy0u.1.mono hBu.size, hy0u.2⟩).mono ?_
      rintro e wv ⟨wr', wi, rfl, hwr, hwi, hbv⟩
      have hBv := hBu.trans (hbv.mono hBu.size)
      have hRl3 := (hRlu.below hbv).mono hbv.size
      have hRr3 := (hRru.below hbv).mono hbv.size
      clear hBu hbv hRlu hRru hy0u
      have HVr := Lib.hid (show FIs .f32 wr' (val .f32 wr') from FIs.mk rfl hwr)
      have HVi := Lib.hid (show FIs .f32 wi (val .f32 wi) from FIs.mk rfl hwi)
      have HWr := Lib.hid hwr
      have HWi := Lib.hid hwi
      have hf1 := fun W => implCFin_any wr' wi W
      have hf2 := fun W => specIsFinite_any wr' W
      have hf3 := fun W => specIsFinite_any wi W
      generalize hu1 : finB (val .f32 wr') = u1 at *
      generalize hu2 : finB (val .f32 wi) = u2 at *
      have HF := Lib.hid (And.intro hf1 (And.intro hf2 hf3))
      clear hwr hwi hf1 hf2 hf3 hu1 hu2
      go_wp2_with (first | (refine wpList_wide rfl _ _ (.tmp 162) rfl (by kernel_rfl) (by kernel_rfl) _ rfl ?_; intro rw1 nw1 hrw1) | (refine wpList_wide rfl _ _ (.tmp 165) rfl (by kernel_rfl) (by kernel_rfl) _ rfl ?_; intro rw2 nw2 hrw2))
      have hfit1 : fitsNarrow (val .f64 rw1) := by rw [hrw1.out]; exact fits_wide HWr.out
      have hfit2 : fitsNarrow (val .f64 rw2) := by rw [hrw2.out]; exact fits_wide HWi.out
      have hnar := fun W => implCNarrow_any rw1 rw2 hfit1 hfit2 W
      rw [hrw1.out, hrw2.out, fnarrow_fwide HWr.out, fnarrow_fwide HWi.out] at hnar
      have HN := Lib.hid hnar
      clear hnar hfit1 hfit2 hrw1 hrw2
      refine (b10Same_yes AR AL N cR cL F _ _ _ (by omega) HALL.out (hRr3.drewN _) (hRl3.drewN _)).mono ?_
      rintro e wx ⟨rfl, qx, hwx⟩
      have hBx : Below w.heap.size w wx := hwx ▸ below_any (below_any hBv _) qx
      clear hwx hBv hRl3 hRr3 HALL
      go_wp2_with fail
      refine (same_yes HBack.out HXv.out _).mono ?_
      rintro e w' ⟨rfl, rfl⟩
      go_wp2_with fail
      refine (HN.out _).mono ?_
      rintro e wy ⟨nr, ns, rfl, hnr, hns, qy, hwy⟩
      have hBy : Below w.heap.size w wy := hwy ▸ below_any hBx qy
      have HNR := Lib.hid hnr
      have HNS := Lib.hid hns
      clear hwy hBx hnr hns
      go_wp2_with fail
      refine (implCSame_yes HNR.out HNS.out HVr.out HVi.out _).mono ?_
      rintro e wz ⟨rfl, qz, hwz⟩
      have hBz : Below w.heap.size w wz := hwz ▸ below_any hBy qz
      clear hwz hBy
      go_wp2_with fail
      refine (conj_any wr' wi _).mono ?_
      rintro e w' ⟨rfl, rfl⟩
      go_wp2_with fail
      refine (conj_any wr' (Op.negFloat .f32 wi) _).mono ?_
      rw [neg_neg_word]
      rintro e w' ⟨rfl, rfl⟩
      go_wp2_with fail
      refine (implCSame_yes HVr.out HVi.out HVr.out HVi.out _).mono ?_
      rintro e wt2 ⟨rfl, qt, hwt⟩
      have hBt2 : Below w.heap.size w wt2 := hwt ▸ below_any hBz qt
      clear hwt hBz
      cases u1 with
      | false =>
        go_wp2_with fail
        refine (HF.out.1 _).mono ?_
        rintro e w9 ⟨rfl, hb9⟩
        have hB9 := hBt2.trans (hb9.mono hBt2.size)
        clear hb9 hBt2
        go_wp2_with fail
        refine (HF.out.2.1 _).mono ?_
        rintro e w10 ⟨rfl, q10, hw10⟩
        have hB10 : Below w.heap.size w w10 := hw10 ▸ below_any hB9 q10
        clear hw10 hB9
        go_wp2_with fail
        go_ret
        exact ⟨by simp, hB10⟩
      | true =>
        go_wp2_with fail
        refine (HF.out.1 _).mono ?_
        rintro e w9 ⟨rfl, hb9⟩
        have hB9 := hBt2.trans (hb9.mono hBt2.size)
        clear hb9 hBt2
        go_wp2_with fail
        refine (HF.out.2.1 _).mono ?_
        rintro e w10 ⟨rfl, q10, hw10⟩
        have hB10 : Below w.heap.size w w10 := hw10 ▸ below_any hB9 q10
        clear hw10 hB9
        go_wp2_with fail
        refine (HF.out.2.2 _).mono ?_
        rintro e w11 ⟨rfl, q11, hw11⟩
        have hB11 : Below w.heap.size w w11 := hw11 ▸ below_any hB10 q11
        clear hw11 hB10
        go_wp2_with fail
        go_ret
        exact ⟨by simp, hB11⟩
  · go_enter Tryz.func4, Tryz.ntmps4
    go_wp2_with fail
    refine (b10Long_long A0 n0 c0 A1 n1 c1 hs _).mono ?_
    rintro e w' ⟨rfl, rfl⟩
    go_wp2_with fail
    go_ret
    exact ⟨rfl, Below.refl _ _⟩
end Go.Proofs.YtdbcajiagjeplaaGreatDoor
