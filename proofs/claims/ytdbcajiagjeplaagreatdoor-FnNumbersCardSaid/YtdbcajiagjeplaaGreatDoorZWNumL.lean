/- FnNumbers returns true. -/
import Derived.Test.YtdbcajiagjeplaaGreatDoorZWAngX
import Derived.Test.YtdbcajiagjeplaaGreatDoorZOpenE
import Derived.Deep.QuietTactic
import Derived.BigQuiet
set_option linter.unusedVariables false
set_option linter.unusedSimpArgs false
namespace Go.Proofs.YtdbcajiagjeplaaGreatDoor
open Ieee Go.RowKit near

theorem bytes_of {w : World} {B n : Nat} {A : Option Addr} {f : Nat → Int} (hr : Row w B A n (fun j => .int .u8 (f j))) (hw : ∀ j, j < n → (Lit.int .u8 (f j)).wf = true) (hn : n ≤ 1048576) : Bytes w B A n f := by
  refine ⟨hr, fun j hj => ?_, hn⟩
  have h1 : IntKind.u8.min ≤ f j ∧ f j ≤ IntKind.u8.max := by simpa [Lit.wf] using hw j hj
  have h2 : IntKind.u8.min = 0 := by decide
  have h3 : IntKind.u8.max = 255 := by decide
  omega
theorem same_yes {x y : Nat} {v : Option Nat} (hx : FIs .f32 x v) (hy : FIs .f32 y v) (w : World) : Calls Tryz.prog 15 #[.float .f32 x, .float .f32 y] w fun e w' => e = .returned (.bool true) ∧ w = w' := by
  refine (specSameNumber_any x y hx.lt32 hy.lt32 w).mono ?_
  rintro e w' ⟨rfl, rfl⟩
  rw [hx.out, hy.out]
  exact ⟨by simp, rfl⟩
theorem same_fl {x z : Nat} {v : Option Nat} (hx : FIs .f32 x v) (hz : FIs .f32 z (flushV v)) (w : World) : Calls Tryz.prog 15 #[.float .f32 x, .float .f32 z] w fun e w' => e = .returned (.bool (bitsZ v == bitsZ (flushV v))) ∧ w = w' := by
  refine (specSameNumber_any x z hx.lt32 hz.lt32 w).mono ?_
  rintro e w' ⟨rfl, rfl⟩
  rw [hx.out, hz.out]
  exact ⟨rfl, rfl⟩
theorem quietE {P : Program} {f : FuncId} {args : Array Value} {w : World} {n : Nat} {v : Value} (h : Calls P f args (w.drewN n) fun e w' => e = .returned v ∧ w.drewN n = w') :
    Calls P f args (w.drewN n) fun e w'' => e = .returned v ∧ ∃ m, w'' = w.drewN m := h.mono fun _ _ ⟨he, hq⟩ => ⟨he, n, hq.symm⟩
theorem quietF {P : Program} {f : FuncId} {args : Array Value} {w : World} {a n : Nat} {v : Value} (h : Calls P f args (w.drewN (a + n)) fun e w' => e = .returned v ∧ w.drewN (a + n) = w') :
    Calls P f args (w.drewN (a + n)) fun e w'' => e = .returned v ∧ ∃ m, w'' = w.drewN (a + m) := h.mono fun _ _ ⟨he, hq⟩ => ⟨he, n, hq.symm⟩
theorem retNT_ok {f : Nat → Nat} {n : Nat} (hn : n ≤ 256) {w w' : World} {e : Ending} (h : RetNT f n w e w') : e = .returned (.tuple #[.string ⟨(txGL (hxF f) n).toArray⟩, .bool true]) ∧ Below w.heap.size w w' := by
  obtain ⟨rfl, hb⟩ := h
  exact ⟨by rw [if_pos hn, decide_eq_true hn], hb⟩
theorem below_any {w w' : World} (h : Below w.heap.size w w') (n : Nat) : Below w.heap.size w (w'.drewN n) := ⟨h.os, h.tape, h.output, h.size, h.block⟩
theorem implNarrow_any (x : Nat) (hfit : fitsNarrow (val .f64 x)) (w : World) : Calls Tryz.prog 19 #[.float .f64 x] w fun e w' => RetF .f32 (fnarrow (val .f64 x)) w e w' := by
  have HF := Lib.hid hfit
  clear hfit
  go_enter Tryz.func19, Tryz.ntmps19
  go_wp2_with (refine wpList_narrow rfl _ _ _ rfl (by kernel_rfl) (by kernel_rfl) _ rfl HF.out ?_; intro r n hr)
  go_ret
  exact ⟨_, _, rfl, hr, rfl⟩
/-- The law behind the draws: x, y and the list's numbers are there. -/
theorem fnNumbers_text (l : List Nat) (hl : l.length ≤ 256) (hall : ∀ j, j < l.length → l.getD j 0 < 4294967296) :
    (⟨(txGL (hxF fun j => l.getD j 0) l.length).toArray⟩ : ByteArray).size ≤ 1048576 := by
  show (txGL (hxF fun j => l.getD j 0) l.length).toArray.size ≤ _
  rw [List.size_toArray]
  generalize l.length = n at *
  match n, hl with
  | 0, _ =>
    show ([110, 111, 110, 101] : List UInt8).length ≤ _
    decide
  | k + 1, hl =>
    have := txG_len (g := hxF fun j => l.getD j 0) (m := 8) (k := k) (fun j _ => by rw [hxF_len]; omega)
    show (txG _ k).length ≤ _
    omega
set_option maxRecDepth 20000 in
set_option maxHeartbeats 3200000 in
theorem fnNumbers_walk (w : World) (A0 : Option Addr) (n0 c0 : Nat) (f0 : Nat → Int) (hnc0 : n0 ≤ c0) (hcm0 : c0 ≤ maxLen) (hr0 : Row w w.heap.size A0 n0 (fun j => .int .u8 (f0 j))) (hw0 : ∀ j, j < n0 → (Lit.int .u8 (f0 j)).wf = true)
    (A1 : Option Addr) (n1 c1 : Nat) (f1 : Nat → Int) (hnc1 : n1 ≤ c1) (hcm1 : c1 ≤ maxLen) (hr1 : Row w w.heap.size A1 n1 (fun j => .int .u8 (f1 j))) (hw1 : ∀ j, j < n1 → (Lit.int .u8 (f1 j)).wf = true) (hK : LibX w) :
    Calls Tryz.prog 3 #[.slice A0 n0 c0, .slice A1 n1 c1] w fun e w' => e = .returned (.bool true) ∧ Below w.heap.size w w' := by
  by_cases hs : n0 ≤ 1048576 ∧ n1 ≤ 1048576
  · have hy0 := bytes_of hr0 hw0 hs.1
    have hy1 := bytes_of hr1 hw1 hs.2
    have HW := Lib.hid (And.intro hw0 hw1)
    clear hw0 hw1 hr1
    go_enter Tryz.func3, Tryz.ntmps3
    go_wp2_with fail
    refine (b10Long_short A0 n0 c0 A1 n1 c1 hs.1 hs.2 _).mono ?_
    rintro e w' ⟨rfl, rfl⟩
    go_wp2_with fail
    refine (b10Number_any A0 n0 c0 f0 _ hy0).mono ?_
    rintro e wa ⟨x, rfl, hx, hba⟩
    have hy1a := hy1.below hba
    go_wp2_with fail
    refine (b10Number_any A1 n1 c1 f1 _ ⟨hy1a.1.mono hba.size, hy1a.2⟩).mono ?_
    rintro e wb ⟨y, rfl, hy, hbb⟩
    have hB := hba.trans (hbb.mono hba.size)
    clear hba hbb hy1a
    have HXv := Lib.hid (show FIs .f32 x (val .f32 x) from FIs.mk rfl hx)
    have hbits := implBitsOf_any x hx
    rw [bitsZ_nat] at hbits
    have HBits := Lib.hid hbits
    clear hbits
    go_wp2_with fail
    refine (HBits.out _).mono ?_
    rintro e w' ⟨rfl, rfl⟩
    go_wp2_with fail
    refine (implFrom_yes (bitsN (val .f32 x)) (bitsN_lt hx) _).mono ?_
    rintro e wc ⟨back, q1, rfl, hback, hwc⟩
    have hBc : Below w.heap.size w wc := hwc ▸ below_any hB q1
    clear hwc hB
    rw [val_bits _ x rfl] at hback
    have HBack := Lib.hid hback
    clear hback HBits
    go_wp2_with fail
    refine (implFlush_any x hx _).mono ?_
    rintro e wd ⟨z, q2, rfl, hz, hwd⟩
    have hB2 : Below w.heap.size w wd := hwd ▸ below_any hBc q2
    clear hwd hBc
    have HZ := Lib.hid hz
    clear hz
    go_wp2_with fail
    have hy0c := hy0.below hB2
    refine (b10At_zero A0 n0 c0 f0 12 (by omega) (by omega) (by omega) _ _ hy0c.1 HW.out.1).mono ?_
    rintro e w' ⟨⟨N, hN, rfl⟩, rfl⟩
    have hy1c := hy1.below hB2
    clear hy0c
    go_wp2_with fail
    refine (b10Numbers_any A1 n1 c1 N f1 _ (by omega) ⟨hy1c.1.mono hB2.size, hy1c.2⟩).mono ?_
    rintro e wl ⟨v, l, rfl, hl, hall, hown, hbl⟩
    have hB3 := hB2.trans (hbl.mono hB2.size)
    clear hy1c hB2 hbl
    obtain ⟨AL, cL, rfl, hrL⟩ := own_row hown
    have hR : Row wl wl.heap.size AL N (fun j => .float .f32 (l.getD j 0)) := hrL.congr fun j hj => fls_getD l j (by omega)
    have hall2 : ∀ j, j < N → l.getD j 0 < 4294967296 := fun j hj => by
      rw [List.getD_eq_getElem?_getD, List.getElem?_eq_getElem (by omega)]
      exact hall _ (List.getElem_mem (by omega))
    have HALL := Lib.hid hall2
    have HL := Lib.hid hl
    clear hrL hown hall hall2 hl
    go_wp2_with fail
    go_loopw [11, 12, 41] (fun s _ i wr => ∃ k : Nat, k ≤ N ∧ i = .int .i64 k ∧ ∃ r q, s = .float .f32 r ∧ FIs .f32 r (sumV (fun j => l.getD j 0) k) ∧ wr = wl.drewN q) (fun _ _ i _ => N - (intOf i).toNat)
    case atStart => exact ⟨0, Nat.zero_le _, rfl, _, 0, rfl, fis_zero, rfl⟩
    case round =>
      obtain ⟨k, hk, rfl, r, q, rfl, hr, rfl⟩ := hrel
      have HR := Lib.hid hr
      clear hr
      by_cases hlt : k < N
      · obtain ⟨bb, off, rfl, _, hc⟩ := hR (by omega)
        have h1 : wl.cell? ⟨bb, off + k, none⟩ = some (.float .f32 (l.getD k 0)) := hc k hlt
        clear hc
        go_wp2_with (refine wpList_fop rfl _ _ _ _ _ rfl rfl _ _ _ rfl rfl ?_; intro r2 n2 hr2)
        go_roundw
        case rel => exact ⟨k + 1, by omega, by go_num, _, _, rfl, sumV_step (f := fun j => l.getD j 0) HR.out hr2, rfl⟩
        case measure => simp [intOf]; omega
      · obtain rfl : k = N := by omega
        obtain ⟨wq, hwq⟩ : ∃ wq, wq = wl.drewN q := ⟨_, rfl⟩
        have hBq : Below w.heap.size w wq := hwq ▸ below_any hB3 q
        have hRq : Row wq wq.heap.size AL k (fun j => .float .f32 (l.getD j 0)) := hwq ▸ hR.drewN q
        rw [← hwq]
        clear hwq
        go_wp2_with fail
        refine (implSum_yes AL k cL _ (fun j => l.getD j 0) _ (by omega) hRq).mono ?_
        rintro e ws ⟨got, q3, rfl, hgot, hws⟩
        have HGot := Lib.hid hgot
        have hBq2 : Below w.heap.size w ws := hws ▸ below_any hBq q3
        have hRs : Row ws ws.heap.size AL k (fun j => .float .f32 (l.getD j 0)) := hws ▸ hRq.drewN q3
        clear hgot hws hBq hRq
        go_wp2_with fail
        have hKt := hK.below hBq2
        refine (implNumbersText_any AL k cL (fun j => l.getD j 0) HALL.out _ hRs hKt.tz).mono ?_
        intro e wt hret
        obtain ⟨rfl, hbt⟩ := retNT_ok (by omega) hret
        clear hret hKt
        have hBt := hBq2.trans (hbt.mono hBq2.size)
        have hRt := hRs.below hbt
        have hsz := fnNumbers_text l (by rw [HL.out]; omega) (fun j hj => HALL.out j (by rw [HL.out] at hj; exact hj))
        rw [HL.out] at hsz
        have hKr := hK.below hBt
        have hrd := implReadNumbers_any ⟨(txGL (hxF fun j => l.getD j 0) k).toArray⟩ hsz wt hKr.errs hKr.tz hKr.mlen
        have hrb := read_back (fun j => l.getD j 0) k (by omega) HALL.out
        have HRD := Lib.hid (show Calls Tryz.prog 14 #[.string ⟨(txGL (hxF fun j => l.getD j 0) k).toArray⟩] wt fun e w' => GivesL 24 (fls ((List.range k).map fun j => bitsN (val .f32 (l.getD j 0)))) true wt e w' from by
          have h : ∀ e w', RetNs (txGL (hxF fun j => l.getD j 0) k) wt e w' → GivesL 24 (fls ((List.range k).map fun j => bitsN (val .f32 (l.getD j 0)))) true wt e w' := fun e w' h => by
            unfold RetNs at h
            rw [hrb] at h
            exact h
          exact hrd.mono fun e w' hh => h e w' hh)
        clear hrd hrb hsz hKr
        go_wp2_with fail
        refine HRD.out.mono ?_
        rintro e wr ⟨vr, rfl, hownr, hbr⟩
        have hBr := hBt.trans (hbr.mono hBt.size)
        have hRl := ((hRt.mono hbt.size).below hbr).mono hbr.size
        obtain ⟨AR, cR, rfl, hrR⟩ := own_row hownr
        have hlenR : (fls ((List.range k).map fun j => bitsN (val .f32 (l.getD j 0)))).length = k := by rw [fls_len]; simp
        rw [hlenR] at hrR ⊢
        have hRr : Row wr wr.heap.size AR k (fun j => .float .f32 (bitsN (val .f32 (l.getD j 0)))) := hrR.congr fun j hj => by
          rw [fls_getD _ _ (by simpa using hj)]
          congr 1
          simp [List.getD_eq_getElem?_getD, hj]
        clear hrR hownr hlenR hbt hbr hBt hRt hRs
        have hsub := sub_iff_flush (val .f32 x)
        have hsb1 := implSub_any z HZ.out.lt32
        rw [HZ.out.out, flush_not_sub] at hsb1
        have hsb2 := implSub_any x hx
        have hsf := fun W => same_fl HXv.out HZ.out W
        generalize (bitsZ (val .f32 x) == bitsZ (flushV (val .f32 x))) = bq at *
        generalize subB (val .f32 x) = bp at *
        have HS1 := Lib.hid hsb1
        have HS2 := Lib.hid hsb2
        have HSF := Lib.hid hsf
        clear hsb1 hsb2 hsf
        have hkk : ((k : Int) != (k : Int)) = false := by simp
        go_wp2_with fail
        refine (same_yes HBack.out HXv.out _).mono ?_
        rintro e w' ⟨rfl, rfl⟩
        go_wp2_with fail
        refine (HS1.out _).mono ?_
        rintro e ws1 ⟨rfl, qs1, hws1⟩
        have hBs1 : Below w.heap.size w ws1 := hws1 ▸ below_any hBr qs1
        have hRl1 : Row ws1 wr.heap.size AL k (fun j => .float .f32 (l.getD j 0)) := hws1 ▸ hRl.drewN qs1
        have hRr1 : Row ws1 wr.heap.size AR k (fun j => .float .f32 (bitsN (val .f32 (l.getD j 0)))) := hws1 ▸ hRr.drewN qs1
        clear hws1 hBr hRl hRr
        go_wp2_with fail
        refine (HS2.out _).mono ?_
        rintro e ws2 ⟨rfl, qs2, hws2⟩
        have hBs2 : Below w.heap.size w ws2 := hws2 ▸ below_any hBs1 qs2
        have hRl2 : Row ws2 wr.heap.size AL k (fun j => .float .f32 (l.getD j 0)) := hws2 ▸ hRl1.drewN qs2
        have hRr2 : Row ws2 wr.heap.size AR k (fun j => .float .f32 (bitsN (val .f32 (l.getD j 0)))) := hws2 ▸ hRr1.drewN qs2
        clear hws2 hBs1 hRl1 hRr1
        go_wp2_with fail
        refine (HSF.out _).mono ?_
        rintro e w' ⟨rfl, rfl⟩
        go_wp2_with fail
        refine (same_yes HGot.out HR.out _).mono ?_
        rintro e w' ⟨rfl, rfl⟩
        go_wp2_with fail
        clear hlt hsub hkk HS1 HS2 HSF HGot HBack HZ HR
        go_loopw [19, 113] (fun _ i wr3 => ∃ j : Nat, j ≤ k ∧ i = .int .i64 j ∧ ∃ q, wr3 = ws2.drewN q) (fun _ i _ => k - (intOf i).toNat)
        case atStart => exact ⟨0, Nat.zero_le _, rfl, 0, rfl⟩
        case round =>
          obtain ⟨j, hj, rfl, q5, rfl⟩ := hrel
          by_cases hlt : j < k
          · obtain ⟨bl, ol, rfl, _, hcl⟩ := hRl2 (by omega)
            obtain ⟨br, orr, rfl, _, hcr⟩ := hRr2 (by omega)
            have h1 : ws2.cell? ⟨bl, ol + j, none⟩ = some (.float .f32 (l.getD j 0)) := hcl j hlt
            have h2 : ws2.cell? ⟨br, orr + j, none⟩ = some (.float .f32 (bitsN (val .f32 (l.getD j 0)))) := hcr j hlt
            have hfj := HALL.out j hlt
            have HA := Lib.hid (show FIs .f32 (bitsN (val .f32 (l.getD j 0))) (val .f32 (l.getD j 0)) from FIs.mk (val_bits _ _ rfl) (bitsN_lt hfj))
            have HB := Lib.hid (show FIs .f32 (l.getD j 0) (val .f32 (l.getD j 0)) from FIs.mk rfl hfj)
            clear hcl hcr hfj
            generalize bitsN (val .f32 (l.getD j 0)) = x1 at *
            generalize l.getD j 0 = x2 at *
            go_wp2_with fail
            go_quiet ((go_at_call 15; first | exact quietF (same_yes HA.out HB.out _) | exact quietE (same_yes HA.out HB.out _)))
            go_wp2
            go_roundw
            case rel => exact ⟨j + 1, by omega, by go_num, _, rfl⟩
            case measure => simp [intOf]; omega
          · obtain rfl : j = k := by omega
            obtain ⟨wz, hwz⟩ : ∃ wz, wz = ws2.drewN q5 := ⟨_, rfl⟩
            have hBz : Below w.heap.size w wz := hwz ▸ below_any hBs2 q5
            rw [← hwz]
            clear hwz hRl2 hRr2 hBs2 hlt
            obtain ⟨va, hva⟩ := implAng_ex y x
            have hvo := angleOf_any y x va hva
            obtain ⟨vs, hvs1, hvs2, hvs3⟩ := sine_quarter
            have hsn := fun W => implSineT_any 1048576000 vs hvs1 hvs2 W
            rw [hvs3] at hsn
            have HANG := Lib.hid (And.intro hva hvo)
            have HSN := Lib.hid hsn
            clear hva hvo hsn hvs1 hvs2 hvs3
            have hone : (FloatKind.f32.format.order 1065353216 1065353216 == some .eq) = true := by decide +kernel
            go_wp2_with fail
            refine (HANG.out.1 _).mono ?_
            rintro e w5 ⟨ra, rfl, hra, hb5⟩
            have hB5 := hBz.trans (hb5.mono hBz.size)
            have HRA := Lib.hid hra
            clear hra hb5 hBz
            go_wp2_with fail
            refine (HANG.out.2 _).mono ?_
            rintro e w6 ⟨rb, rfl, hrb, hb6⟩
            have hB6 := hB5.trans (hb6.mono hB5.size)
            have HRB := Lib.hid hrb
            clear hrb hb6 hB5
            go_wp2_with fail
            refine (same_yes HRA.out HRB.out _).mono ?_
            rintro e w' ⟨rfl, rfl⟩
            go_wp2_with (refine wpList_wide rfl _ _ _ rfl (by kernel_rfl) (by kernel_rfl) _ rfl ?_; intro rw1 nw hrw)
            have hfit : fitsNarrow (val .f64 rw1) := by rw [hrw.out]; exact fits_wide hx
            have hnar := fun W => implNarrow_any rw1 hfit W
            rw [hrw.out, fnarrow_fwide hx] at hnar
            have HN := Lib.hid hnar
            clear hnar hfit hrw
            refine (HN.out _).mono ?_
            rintro e w7 ⟨rn, q7, rfl, hrn, hw7⟩
            have hB7 : Below w.heap.size w w7 := hw7 ▸ below_any (below_any hB6 _) q7
            have HRN := Lib.hid hrn
            clear hrn hw7 hB6
            go_wp2_with fail
            refine (same_yes HRN.out HXv.out _).mono ?_
            rintro e w' ⟨rfl, rfl⟩
            go_wp2_with fail
            refine (HSN.out _).mono ?_
            rintro e w8 ⟨rs, q8, rfl, hrs, hw8⟩
            obtain rfl := hrs.eq
            have hB8 : Below w.heap.size w w8 := hw8 ▸ below_any hB7 q8
            clear hrs hw8 hB7
            go_wp2_with fail
            go_ret
            exact ⟨rfl, hB8⟩
  · go_enter Tryz.func3, Tryz.ntmps3
    go_wp2_with fail
    refine (b10Long_long A0 n0 c0 A1 n1 c1 hs _).mono ?_
    rintro e w' ⟨rfl, rfl⟩
    go_wp2_with fail
    go_ret
    exact ⟨rfl, Below.refl _ _⟩
end Go.Proofs.YtdbcajiagjeplaaGreatDoor
