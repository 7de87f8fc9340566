/- The laws' own sameComplex answers true at words of the same values; complex64 as complex128. -/
import Derived.Test.YtdbcajiagjeplaaGreatDoorZWNum
import Derived.Test.YtdbcajiagjeplaaGreatDoorZFWalk
import Derived.Test.YtdbcajiagjeplaaGreatDoorZWSrc3
import Derived.Laws.Cover2
import Derived.Laws.Cover3
import Derived.Test.YtdbcajiagjeplaaGreatDoorZWSrc4
set_option linter.unusedVariables false
set_option linter.unusedSimpArgs false
namespace Go.Proofs.YtdbcajiagjeplaaGreatDoor
open Ieee Go.RowKit near

theorem f2f_run (b : Nat) (W : World) : ∃ r n, (Conv.floatToFloat .f32 b .f64).run Tryz.prog W = .ok (.float .f64 r) (W.drewN n) ∧ FIs .f64 r (fwide (val .f32 b)) := by
  have hd : (Tryz.prog).underlying 44 = some (.float .f64) := by kernel_rfl
  have hs : (Tryz.prog).underlying 24 = some (.float .f32) := by kernel_rfl
  obtain ⟨r, n, h, hf⟩ := run_wide (P := Tryz.prog) 24 44 (by kernel_rfl) (by kernel_rfl) b W
  refine ⟨r, n, ?_, hf⟩
  rw [← h]
  simp [convert, run_underlying hs, run_underlying hd]
theorem cwide_run (a b : Nat) (W : World) : ∃ r1 r2 n, (convert 42 55 (.complex .f32 a b)).run Tryz.prog W = .ok (.complex .f64 r1 r2) (W.drewN n) ∧ FIs .f64 r1 (fwide (val .f32 a)) ∧ FIs .f64 r2 (fwide (val .f32 b)) := by
  have hd : (Tryz.prog).underlying 55 = some (.complex .f64) := by kernel_rfl
  have hs : (Tryz.prog).underlying 42 = some (.complex .f32) := by kernel_rfl
  obtain ⟨r1, n1, h1, f1⟩ := f2f_run a W
  obtain ⟨r2, n2, h2, f2⟩ := f2f_run b (W.drewN n1)
  refine ⟨r1, r2, n1 + n2, ?_, f1, f2⟩
  simp [convert, run_underlying hs, run_underlying hd, Conv.complexToComplex, h1, h2]
theorem wpList_cwide {ops : Array Oper} {rest : List Oper} {o : Oper} {a : Act} {w : World} {Q : Exit → Act → World → Prop} (hw : Region.wanted o (yielded ops a.tmps) = true)
    (x : Operand) (ho : o.op = .convert 42 55 x) (b c : Nat) (hx : a.eval x = .complex .f32 b c)
    (h : ∀ r1 r2 n, FIs .f64 r1 (fwide (val .f32 b)) → FIs .f64 r2 (fwide (val .f32 c)) → wpList Tryz.prog ops Q rest (a.put o.dst (.complex .f64 r1 r2)) (w.drewN n)) : wpList Tryz.prog ops Q (o :: rest) a w :=
  wpList_step fun K hK => by
    rw [if_pos hw]
    obtain ⟨r1, r2, n, hr, hf1, hf2⟩ := cwide_run b c w
    unfold Oper.wp execOp
    simp only [ho, hx, Sem.run_bind, Sem.run_pure, hr, Result.andThen_ok]
    exact hK _ _ (h r1 r2 n hf1 hf2)
theorem real_run (ts : Array TypeId) (t : TypeId) (a b : Nat) (W : World) : (Builtin.real_ ts t #[.complex .f64 a b]).run Tryz.prog W = .ok (.float .f64 a) W := rfl
theorem imag_run (ts : Array TypeId) (t : TypeId) (a b : Nat) (W : World) : (Builtin.imag_ ts t #[.complex .f64 a b]).run Tryz.prog W = .ok (.float .f64 b) W := rfl
end Go.Proofs.YtdbcajiagjeplaaGreatDoor
set_option linter.unusedVariables false
set_option linter.unusedSimpArgs false
namespace Go.Proofs.YtdbcajiagjeplaaGreatDoor
open Go.RowKit
/-- The word of float32(k). -/
def fwd (k : Int) : Nat := floatOfInt .f32 k
theorem fwd_ok {k : Nat} (h : k < 300) : (val .f32 (fwd (k : Int))).isNone = false := by
  have key : ∀ k : Fin 300, (val .f32 (fwd ((k.val : Nat) : Int))).isNone = false := by decide +kernel
  exact key ⟨k, h⟩
theorem fwd_ne {k : Int} (h0 : 0 ≤ k) (h : k < 300) : (FloatKind.f32.format.order (floatOfInt .f32 k) (floatOfInt .f32 k) != some .eq) = false := by
  obtain ⟨n, rfl⟩ := Int.eq_ofNat_of_zero_le h0
  rw [ne_self .f32]
  exact fwd_ok (by omega)
end Go.Proofs.YtdbcajiagjeplaaGreatDoor
set_option linter.unusedVariables false
set_option linter.unusedSimpArgs false
namespace Go.Proofs.YtdbcajiagjeplaaGreatDoor
open Go.RowKit

theorem cwide_fn (a b : Nat) : ∃ f1 f2 n : World → Nat, (∀ W, (convert 42 55 (.complex .f32 a b)).run Tryz.prog W = .ok (.complex .f64 (f1 W) (f2 W)) (W.drewN (n W))) ∧ (∀ W, FIs .f64 (f1 W) (fwide (val .f32 a))) ∧ (∀ W, FIs .f64 (f2 W) (fwide (val .f32 b))) := by
  have h : ∀ W, ∃ p : Nat × Nat × Nat, (convert 42 55 (.complex .f32 a b)).run Tryz.prog W = .ok (.complex .f64 p.1 p.2.1) (W.drewN p.2.2) ∧ FIs .f64 p.1 (fwide (val .f32 a)) ∧ FIs .f64 p.2.1 (fwide (val .f32 b)) := fun W => by
    obtain ⟨r1, r2, n, h1, h2, h3⟩ := cwide_run a b W
    exact ⟨(r1, r2, n), h1, h2, h3⟩
  obtain ⟨f, hf⟩ := Classical.axiomOfChoice h
  exact ⟨fun W => (f W).1, fun W => (f W).2.1, fun W => (f W).2.2, fun W => (hf W).1, fun W => (hf W).2.1, fun W => (hf W).2.2⟩
def cxv (p : Nat × Nat) : Value := .complex .f32 p.1 p.2
end Go.Proofs.YtdbcajiagjeplaaGreatDoor
set_option linter.unusedVariables false
set_option linter.unusedSimpArgs false
namespace Go.Proofs.YtdbcajiagjeplaaGreatDoor
open Go.RowKit Go.Lib

def cxs (l : List (Nat × Nat)) : List Value := l.map cxv
theorem cxs_len (l : List (Nat × Nat)) : (cxs l).length = l.length := by simp [cxs]
theorem cxs_getD (l : List (Nat × Nat)) (j : Nat) (h : j < l.length) : (cxs l).getD j undef = cxv (l.getD j (0, 0)) := by
  simp [cxs, List.getD_eq_getElem?_getD, List.getElem?_eq_getElem h]
theorem cxs_snoc (l : List (Nat × Nat)) (x y : Nat) : cxs (l ++ [(x, y)]) = cxs l ++ [.complex .f32 x y] := by simp [cxs, cxv]
theorem cx_one (x y : Nat) : ∀ u ∈ [Value.complex .f32 x y], u.oneCell' = true := by intro u hu; simp only [List.mem_singleton] at hu; subst hu; rfl
theorem info_cx : (Tryz.prog.info? 42).map (fun i => (i.zero, i.size, i.bytes)) = some (some (.complex .f32 0 0), 1, 8) := by kernel_rfl
/-- The two words of a text. -/
def decC (l : List UInt8) : Option (Nat × Nat) := if l.length = 16 then (match decX (l.take 8), decX (l.drop 8) with | some a, some b => some (a, b) | _, _ => none) else none
theorem decC_len {l : List UInt8} (h : l.length ≠ 16) : decC l = none := by unfold decC; rw [if_neg h]
theorem decC_yes {l : List UInt8} (h : l.length = 16) {a b : Nat} (ha : decX (l.take 8) = some a) (hb : decX (l.drop 8) = some b) : decC l = some (a, b) := by unfold decC; rw [if_pos h, ha, hb]
theorem decC_no1 {l : List UInt8} (ha : decX (l.take 8) = none) : decC l = none := by
  unfold decC; rw [ha]; split <;> rfl
theorem decC_no2 {l : List UInt8} (hb : decX (l.drop 8) = none) : decC l = none := by
  unfold decC; rw [hb]
  split
  · cases decX (l.take 8) <;> rfl
  · rfl
def cplxOf (l : List UInt8) : Option (List (Nat × Nat)) := listG decC 256 l
/-- What ReadComplex answers. -/
def RetCs (l : List UInt8) (w : World) (e : Ending) (w' : World) : Prop := GivesL 42 (cxs ((cplxOf l).getD [])) (cplxOf l).isSome w e w'
theorem retCs_none {l : List UInt8} (h : l = [110, 111, 110, 101]) {w w' : World} {v : Value} (ho : w'.ownsRow w.heap.size 42 1 v 0 []) (hb : Below w.heap.size w w') : RetCs l w (.returned (.tuple #[v, .bool true])) w' := by
  unfold RetCs cplxOf; rw [listG_none h]; exact ⟨v, rfl, ho, hb⟩
theorem retCs_no {l : List UInt8} (h : ¬ l = [110, 111, 110, 101]) (h2 : ¬ (cuts l).length ≤ 256 ∨ (cuts l).all (fun p => (decC p).isSome) = false) {w w' : World} (hb : Below w.heap.size w w') : RetCs l w (.returned (.tuple #[.slice none 0 0, .bool false])) w' := by
  unfold RetCs cplxOf; rw [listG_no h h2]
  exact ⟨_, rfl, World.ownsRow_nil _ _ _ _, hb⟩
theorem retCs_yes {l : List UInt8} (h : ¬ l = [110, 111, 110, 101]) (h1 : (cuts l).length ≤ 256) {i : Nat} {done : List (Nat × Nat)} (hr : RdTo decC (cuts l) i done) (hi : ¬ i < (cuts l).length) {w w' : World} {v : Value} (ho : w'.ownsRow w.heap.size 42 1 v done.length (cxs done)) (hb : Below w.heap.size w w') : RetCs l w (.returned (.tuple #[v, .bool true])) w' := by
  unfold RetCs cplxOf; rw [listG_yes h h1 hr hi]
  exact ⟨v, rfl, by rw [cxs_len]; exact ho, hb⟩
theorem half1 (p : ByteArray) : (p.extract 0 8).data.toList = p.data.toList.take 8 := by rw [extract_data]; simp
theorem half2 (p : ByteArray) : (p.extract 8 p.size).data.toList = p.data.toList.drop 8 := extract_to_end p 8
set_option maxRecDepth 20000 in
set_option maxHeartbeats 1600000 in
theorem implReadComplex_any (s : ByteArray) (hs : s.size ≤ 1048576) (w : World) (he : Errs w) (ht : Tz w) (hm : ∃ m, w.cell? ⟨Tryz.laysM146_ren.g 1, 0, none⟩ = some (.int .i64 m)) : Calls Tryz.prog 31 #[.string s] w fun e w' => RetCs s.data.toList w e w' := by
  obtain ⟨i0, hi0, hz0, hz1, hz2⟩ := info_parts info_cx
  by_cases hn : s.data.toList = [110, 111, 110, 101]
  · have HN := Lib.hid hn
    clear hn
    go_enter Tryz.func31, Tryz.ntmps31
    go_wp2_with fail
    refine (parts_none s HN.out _).mono ?_
    rintro e w' ⟨rfl, rfl⟩
    go_wp2_with fail
    refine wp_loop_rounds 1 ?_
    rw [rounds_succ]
    go_wp2_with fail
    go_ret2
    exact retCs_none HN.out (own_empty _ _) ((Below.refl _ _).alloc (Nat.le_refl _) _)
  · have hcl := cuts_len s.data.toList
    have hsl : s.data.toList.length = s.size := by rw [Array.length_toList]; rfl
    have hcut := parts_any s hs hn w hm
    generalize s.data.toList = l at *
    have HN := Lib.hid hn
    have HC := Lib.hid hcut
    clear hn hcut hm
    go_enter Tryz.func31, Tryz.ntmps31
    go_wp2_with fail
    refine HC.out.mono ?_
    rintro e w1 ⟨v, rfl, hown, hb⟩
    obtain ⟨A1, c1, rfl, hr1⟩ := own_row hown
    have hR : Row w1 w1.heap.size A1 (cuts l).length (fun j => ((cuts l).map sv).getD j undef) := hr1
    have hA : ∀ a, A1 = some a → a.block < w1.heap.size := fun a ha => by subst ha; exact (hown.lt a.block rfl).2
    clear hr1 hown
    generalize hps : cuts l = ps at *
    have HP := Lib.hid hps
    clear hps
    go_wp2_with fail
    go_loopw [5, 17] (fun ov iv wr => ∃ (i : Nat) (done : List (Nat × Nat)), iv = .int .i64 (i : Int) ∧ RdTo decC ps i done ∧ (0 < i → ps.length ≤ 256) ∧ wr.ownsRow w.heap.size 42 1 ov done.length (cxs done) ∧ Below w.heap.size w wr ∧ Aloof A1 ov ∧ Row wr wr.heap.size A1 ps.length (fun j => (ps.map sv).getD j undef)) (fun _ iv _ => ps.length - (Go.RowKit.intOf iv).toNat)
    case atStart =>
      refine ⟨0, [], rfl, RdTo.start, fun h => by omega, own_base (own_empty w1 42) hb.size, hb.alloc hb.size _, fun k a hk ha => ?_, (hR.below ((Below.refl _ _).alloc (Nat.le_refl _) _)).mono (by simp)⟩
      have h1 := hA a ha
      have h2 := Option.some.inj hk
      simp at h1 h2
      omega
    case round =>
      obtain ⟨i, done, rfl, hrd, h64, ho, hw, hlf, hrow⟩ := hrel
      have hil := hrd.1
      have hdl := hrd.len
      by_cases hlt : i < ps.length
      · have g2 : (i : Int) < (ps.length : Int) := by omega
        obtain ⟨b, off, rfl, hbB, hc⟩ := hrow (by omega)
        have hcell : wr.cell? ⟨b, off + i, none⟩ = some (.string ⟨ps[i].toArray⟩) := (hc i hlt).trans (congrArg some (sv_getD ps i hlt))
        obtain ⟨p, hp⟩ : ∃ p : ByteArray, p = ⟨ps[i].toArray⟩ := ⟨_, rfl⟩
        have hpl : ps[i] = p.data.toList := by rw [hp]
        rw [← hp] at hcell
        clear hc hp
        have hno : decC p.data.toList = none → ps.all (fun q => (decC q).isSome) = false := fun h => all_no hlt (by rw [hpl]; exact h)
        have hyes : ∀ N, decC p.data.toList = some N → RdTo decC ps (i + 1) (done ++ [N]) := fun N h => hrd.on hlt (by rw [hpl]; exact h)
        have HH := Lib.hid (And.intro hno hyes)
        have hpz : p.data.toList.length = p.size := by rw [Array.length_toList]; rfl
        clear hno hyes hpl hrd
        by_cases h8 : p.size = 16
        · have g3 : ((p.size : Int) != 16) = false := by simp; omega
          by_cases hle : ps.length ≤ 256
          · have g4 : ¬ (256 : Int) < (ps.length : Int) := by omega
            have g5 : (8 : Int) ≤ (p.size : Int) := by omega
            have g6 : 8 ≤ p.size := by omega
            have H8 := Lib.hid h8
            have HZ := Lib.hid hpz
            have hx1 := fun w he ht => implReadHex_any (p.extract 0 8) (by rw [ByteArray.size_extract]; omega) w he ht
            have hx2 := fun w he ht => implReadHex_any (p.extract 8 p.size) (by rw [ByteArray.size_extract]; omega) w he ht
            rw [half1] at hx1
            rw [half2] at hx2
            have HX := Lib.hid (And.intro hx1 hx2)
            clear h8 hpz hx1 hx2 h64
            go_wp2_with fail
            refine (HX.out.1 _ (he.below (Nat.le_refl _) hw) (ht.below (Nat.le_refl _) hw)).mono ?_
            rintro e w2 ⟨x1, ok1, rfl, hd1, hb2⟩
            have HD1 := Lib.hid hd1
            have hW2 := hw.trans (hb2.mono hw.size)
            clear hd1
            go_wp2_with fail
            refine (HX.out.2 _ (he.below (Nat.le_refl _) hW2) (ht.below (Nat.le_refl _) hW2)).mono ?_
            rintro e w3 ⟨x2, ok2, rfl, hd2, hb3⟩
            have HD2 := Lib.hid hd2
            have hW3 := hW2.trans (hb3.mono hW2.size)
            clear hd2
            cases ok1 with
            | false =>
              go_wp2_with fail
              go_ret2
              refine retCs_no HN.out (.inr ?_) hW3
              rw [HP.out]
              refine HH.out.1 (decC_no1 ?_)
              rcases HD1.out with ⟨h, _⟩ | ⟨_, h⟩
              · cases h
              · exact h
            | true =>
              cases ok2 with
              | false =>
                go_wp2_with fail
                go_ret2
                refine retCs_no HN.out (.inr ?_) hW3
                rw [HP.out]
                refine HH.out.1 (decC_no2 ?_)
                rcases HD2.out with ⟨h, _⟩ | ⟨_, h⟩
                · cases h
                · exact h
              | true =>
                have hd1 : decX (p.data.toList.take 8) = some x1 := by
                  rcases HD1.out with ⟨_, h⟩ | ⟨h, _⟩
                  · exact h
                  · cases h
                have hd2 : decX (p.data.toList.drop 8) = some x2 := by
                  rcases HD2.out with ⟨_, h⟩ | ⟨h, _⟩
                  · exact h
                  · cases h
                have HT := Lib.hid (HH.out.2 _ (decC_yes (HZ.out.trans H8.out) hd1 hd2))
                have hb23 : Below wr.heap.size wr w3 := hb2.trans (hb3.mono hb2.size)
                have ho3 := own_below ho hb23
                have hsz := hW3.size
                have hsb := hb23.size
                clear hd1 hd2 HD1 HD2 hcell hw ho hb2 hb3 hW2
                go_wp2_with (at_builtin; go_must (refine wpList_append_own_at _ rfl (.tmp 47) (.tmp 51) 45 rfl w.heap.size 42 i0 (.complex .f32 0 0) 1 8 Tryz.underlying45 hi0 hz0 hz1 hz2 rfl (by decide) _ done.length (cxs done) rfl (ho3.alloc _) ⟨w3.heap.size, 0, none⟩ 1 1 [.complex .f32 x1 x2] rfl rfl (new_one _ _ _) (cx_one _ _) (by unfold maxLen; omega) (by omega) (by simp; omega) ?_); intro v' w4 hown4 hgr4 _ hblk4)
                have hb4 := step_below hW3 ho3 hgr4
                have hrow4 := hrow.append hb23 hgr4 hlf
                have hlf4 := hlf.next hblk4 (fun a ha => by obtain rfl := Option.some.inj ha; simp; omega)
                go_roundw
                case rel => exact ⟨i + 1, _, rfl, HT.out, fun _ => hle, by rw [List.length_append, cxs_snoc]; exact hown4, hb4, hlf4, hrow4⟩
                case measure => simp [Go.RowKit.intOf]; omega
          · have g4 : (256 : Int) < (ps.length : Int) := by omega
            have H8 := Lib.hid h8
            clear h8 hpz
            go_wp2_with fail
            go_ret2
            exact retCs_no HN.out (.inl (by rw [HP.out]; exact hle)) hw
        · have g3 : ((p.size : Int) != 16) = true := by simp; omega
          go_wp2_with fail
          go_ret2
          refine retCs_no HN.out (.inr ?_) hw
          rw [HP.out]
          exact HH.out.1 (decC_len (by omega))
      · have g2 : ¬ (i : Int) < (ps.length : Int) := by omega
        have hpos : 0 < ps.length := by
          rw [← HP.out]
          exact List.length_pos_iff.2 (cuts_ne l)
        have hle := h64 (by omega)
        go_wp2_with fail
        go_ret2
        exact retCs_yes HN.out (by rw [HP.out]; exact hle) (by rw [HP.out]; exact hrd) (by rw [HP.out]; exact hlt) ho hw
end Go.Proofs.YtdbcajiagjeplaaGreatDoor
