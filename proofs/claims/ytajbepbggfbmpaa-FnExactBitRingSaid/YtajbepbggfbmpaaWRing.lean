/- BitRing: what both sides reckon; the walk of the reference. -/
import Derived.Test.YtajbepbggfbmpaaWDown
import Derived.Deep.LoopGhost
import Derived.WalkSmall
import Derived.Deep.DeepMust
set_option linter.unusedVariables false
set_option linter.unusedSimpArgs false
namespace Go.Proofs.Ytajbepbggfbmpaa
open Go.RowKit

def incL (W : List Int) : List Int := W.set (W.length - 1) (W.getD (W.length - 1) 0 + 1)
def extL (m : Nat) : Nat → List Int → List Int
  | 0, W => W
  | j + 1, W => extL m j W ++ [(extL m j W).getD ((extL m j W).length - m) 0]
def lastOne (W : List Int) : Bool := decide (0 < W.length) && (W.getD (W.length - 1) 0 == 1)
def stripL : Nat → List Int → List Int
  | 0, W => W
  | k + 1, W => if lastOne W then stripL k W.dropLast else W
def stripF (W : List Int) : List Int := stripL W.length W
def sStep (L : Nat) (s : List Int × List Int) : List Int × List Int :=
  if s.2 = [] then s else (if L % s.2.length = 0 then s.1 ++ incL s.2 else s.1, stripF (extL s.2.length (L - s.2.length) (incL s.2)))
def sIter (L : Nat) : Nat → List Int × List Int
  | 0 => ([], [-1])
  | t + 1 => sStep L (sIter L t)
def iExt (L : Nat) (W : List Int) (k : Nat) : List Int := (List.range k).map fun i => W.getD (i % W.length) 0
def upL (W : List Int) : List Int := if 0 < W.length then W.set (W.length - 1) 1 else W
def iStep (L : Nat) (s : List Int × List Int) : List Int × List Int :=
  if s.2 = [] then s else (if L % s.2.length = 0 then s.1 ++ s.2 else s.1, upL (stripF (iExt L s.2 L)))
def iIter (L : Nat) : Nat → List Int × List Int
  | 0 => ([], [0])
  | t + 1 => iStep L (iIter L t)
def ringL (L : Nat) : List Int := (sIter L 24).1
def stOk (L : Nat) (s : List Int × List Int) (t : Nat) : Bool :=
  decide (s.1.length + s.2.length ≤ 70) && (decide (s.2.length ≤ L) && (decide (-1 ≤ s.2.getD (s.2.length - 1) 0) && (decide (s.2.getD (s.2.length - 1) 0 ≤ 1) && (if s.2 = [] then decide (s.1 = ringL L) else decide (t < 24)))))
theorem s_ok : ∀ L : Nat, L < 7 → 1 ≤ L → ∀ t : Nat, t < 25 → stOk L (sIter L t) t = true := by decide +kernel
theorem i_ok : ∀ L : Nat, L < 7 → 1 ≤ L → ∀ t : Nat, t < 25 → stOk L (iIter L t) t = true := by decide +kernel
structure StOk (L : Nat) (s : List Int × List Int) (t : Nat) : Prop where
  few : s.1.length + s.2.length ≤ 70
  le : s.2.length ≤ L
  lo : -1 ≤ s.2.getD (s.2.length - 1) 0
  hi : s.2.getD (s.2.length - 1) 0 ≤ 1
  fin : s.2 = [] → s.1 = ringL L
  more : s.2 ≠ [] → t < 24
theorem StOk.of {L t : Nat} {s : List Int × List Int} (h : stOk L s t = true) : StOk L s t := by
  unfold stOk at h
  rw [Bool.and_eq_true, Bool.and_eq_true, Bool.and_eq_true, Bool.and_eq_true, decide_eq_true_eq, decide_eq_true_eq, decide_eq_true_eq, decide_eq_true_eq] at h
  obtain ⟨h1, h2, h3, h4, h5⟩ := h
  refine ⟨h1, h2, h3, h4, fun e => ?_, fun e => ?_⟩
  · rw [if_pos e, decide_eq_true_eq] at h5; exact h5
  · rw [if_neg e, decide_eq_true_eq] at h5; exact h5
theorem ring_len : ∀ L : Nat, L < 7 → (ringL L).length ≤ 70 := by decide +kernel

theorem incL_len (W : List Int) : (incL W).length = W.length := by simp [incL]
theorem extL_len (m : Nat) (W : List Int) : ∀ j, (extL m j W).length = W.length + j
  | 0 => rfl
  | j + 1 => by simp [extL, extL_len m W j]; omega
theorem extL_succ (m j : Nat) (W : List Int) : extL m (j + 1) W = extL m j W ++ [(extL m j W).getD ((extL m j W).length - m) 0] := rfl
theorem strip_yes {W : List Int} (h : lastOne W = true) : stripF W = stripF W.dropLast := by
  unfold stripF
  have hl : 0 < W.length := by
    unfold lastOne at h
    rw [Bool.and_eq_true, decide_eq_true_eq] at h
    exact h.1
  obtain ⟨k, hk⟩ : ∃ k, W.length = k + 1 := ⟨W.length - 1, by omega⟩
  rw [List.length_dropLast, hk]
  show (if lastOne W = true then stripL k W.dropLast else W) = stripL k W.dropLast
  rw [if_pos h]
theorem strip_no {W : List Int} (h : lastOne W = false) : stripF W = W := by
  unfold stripF
  cases hk : W.length with
  | zero => rfl
  | succ k =>
    show (if lastOne W = true then stripL k W.dropLast else W) = W
    rw [h]; rfl
theorem lastOne_nil {W : List Int} (h : W.length = 0) : lastOne W = false := by unfold lastOne; rw [h]; rfl
theorem lastOne_some {W : List Int} {p : Nat} (h : W.length = p + 1) : lastOne W = (W.getD p 0 == 1) := by unfold lastOne; rw [h]; simp
theorem ints_drop {W : List Int} {p : Nat} (h : W.length = p + 1) : ints W = ints W.dropLast ++ [.int .i64 (W.getD p 0)] := by
  have hne : W ≠ [] := by intro e; subst e; simp at h
  have := List.dropLast_concat_getLast hne
  conv => lhs; rw [← this, ints_snoc]
  congr 3
  rw [List.getLast_eq_getElem, List.getD_eq_getElem?_getD, List.getElem?_eq_getElem (by omega)]
  simp [h]
theorem ints_set (W : List Int) (k : Nat) (x : Int) : (ints W).set k (.int .i64 x) = ints (W.set k x) := by simp [ints, intv]
theorem ints_get {W : List Int} {k : Nat} (h : k < W.length) : (ints W)[k]? = some (.int .i64 (W.getD k 0)) := by
  simp [ints, intv, List.getD_eq_getElem?_getD, List.getElem?_eq_getElem h]
theorem own_new1 (w : World) (x : Value) (e : TypeId) : (w.alloc (.cells #[x] e)).ownsRow w.heap.size e 1 (.slice (some ⟨w.heap.size, 0, none⟩) 1 1) 1 [x] :=
  ⟨rfl, .inr ⟨w.heap.size, 1, #[x], rfl, Nat.le_refl _, heap_alloc_new w _, Nat.le_refl _, by unfold maxLen; omega, rfl, rfl⟩⟩
/-- What is owned and not nil. -/
theorem own_form {w : World} {base e n : Nat} {v : Value} {xs : List Value} (h : w.ownsRow base e 1 v n xs) (hne : v ≠ .slice none 0 0) : ∃ g cap, v = .slice (some ⟨g, 0, none⟩) n cap ∧ base ≤ g ∧ g < w.heap.size := by
  rcases h.2 with ⟨e1, _⟩ | ⟨g, cap, cur, rfl, hb, hg, _⟩
  · exact absurd e1 hne
  · exact ⟨g, cap, rfl, hb, (Array.getElem?_eq_some_iff.1 hg).1⟩
theorem Apart.of_ge {u v : Value} {N : Nat} (hu : ∀ g, u.ownBlock = some g → N ≤ g) (hv : ∀ g, v.ownBlock = some g → g < N) : Apart u v := by
  cases h : u.ownBlock with
  | none => exact .inl h
  | some g => right; intro e; have h1 := hu g h; have h2 := hv g (e.symm.trans h); omega
theorem Apart.own {u v v' : Value} {w : World} {base e n : Nat} {xs : List Value} {h : Nat} (ha : Apart u v) (hu : w.ownsRow base e 1 u n xs) (hv : v'.ownBlock = v.ownBlock ∨ v'.ownBlock = some h) (hh : w.heap.size ≤ h) : Apart u v' :=
  (ha.symm.turn hu hv hh).symm
theorem own_src {w : World} {base e n c g : Nat} {xs : List Value} (h : w.ownsRow base e 1 (.slice (some ⟨g, 0, none⟩) n c) n xs) : ∀ j u, xs[j]? = some u → w.cell? ((⟨g, 0, none⟩ : Addr).add j) = some u := h.cells rfl

set_option maxRecDepth 100000 in
set_option maxHeartbeats 4000000 in
theorem specRing_yes (L : Nat) (h1 : 1 ≤ L) (hL : L < 7) (w : World) : Calls Try.prog 21 #[.int .i64 L] w fun e w' => GivesL 2 (ints (ringL L)) true w e w' := by
  obtain ⟨i0, hi, hz0, hz1, hz2⟩ := info_parts info_int
  have hin := inB_true (n := L) (low := 1) (high := 6) (by omega) (by omega)
  go_enter Try.func21, Try.ntmps21
  go_wp2_with (go_at_call 25; refine (l00In_any _ _ _ _).mono ?_; rw [hin]; rintro e w' ⟨rfl, rfl⟩)
  clear hin
  go_loopg [4, 5, 6] 25 (fun gg o d _ wr => ∃ (t g cap n : Nat), t < 25 ∧ 25 - t ≤ gg ∧ Hid ((sIter L t).2.length = n) ∧ d = .slice (some ⟨g, 0, none⟩) n cap ∧ wr.ownsRow w.heap.size 2 1 d n (ints (sIter L t).2) ∧ o ≠ .slice none 0 0 ∧ wr.ownsRow w.heap.size 2 1 o (sIter L t).1.length (ints (sIter L t).1) ∧ Apart d o ∧ Below w.heap.size w wr)
  case atStart =>
    refine ⟨0, w.heap.size + 1, 1, 1, by omega, by omega, Lib.hid rfl, rfl, ?_, by simp, (own_empty w _).alloc _, ?_, ((Below.refl _ _).alloc (Nat.le_refl _) _).alloc (by simp) _⟩
    · have := own_new1 (w.alloc (.cells #[] 2)) (.int .i64 (-1)) 2
      simp only [World.size_alloc] at this
      exact own_base this (by simp)
    · right; simp [Value.ownBlock]
  case round =>
    obtain ⟨t, g, cap, n, ht, hg, HN, rfl, hd, hone, ho, ha, hb⟩ := hrel
    have hsb := hb.size
    have hok := StOk.of (s_ok L hL h1 t ht)
    have HT := Lib.hid (show sIter L (t + 1) = sStep L (sIter L t) from rfl)
    obtain ⟨O, W, hOW⟩ : ∃ O W, sIter L t = (O, W) := ⟨_, _, rfl⟩
    rw [hOW] at hok ho hd HT
    have hNW : W.length = n := by have h := HN.out; rw [hOW] at h; exact h
    have HN := Lib.hid hNW
    have h2few : O.length + W.length ≤ 70 := hok.few
    have h2le : W.length ≤ L := hok.le
    have h2lo : -1 ≤ W.getD (W.length - 1) 0 := hok.lo
    have h2hi : W.getD (W.length - 1) 0 ≤ 1 := hok.hi
    have h2fin : W = [] → O = ringL L := hok.fin
    have h2more : W ≠ [] → t < 24 := hok.more
    have ho : wr.ownsRow w.heap.size 2 1 u4 O.length (ints O) := ho
    have hd : wr.ownsRow w.heap.size 2 1 (.slice (some ⟨g, 0, none⟩) n cap) n (ints W) := hd
    rw [hNW] at h2few h2le h2lo h2hi
    clear hok hOW
    have H2F := Lib.hid h2fin
    have H2M := Lib.hid h2more
    clear h2fin h2more hNW
    by_cases hn : n = 0
    · subst hn
      have hW0 : W = [] := List.eq_nil_of_length_eq_zero HN.out
      have HF := Lib.hid (H2F.out hW0)
      clear hd ha hW0
      go_wp2_with fail
      go_ret2
      rw [← HF.out]
      exact ⟨_, rfl, by rw [ints_len]; exact ho, hb⟩
    · obtain ⟨p, rfl⟩ : ∃ p, n = p + 1 := ⟨n - 1, by omega⟩
      clear hn
      rw [show p + 1 - 1 = p from rfl] at h2lo h2hi
      have ht24 : t < 24 := H2M.out (by intro e; have := HN.out; rw [e] at this; simp at this)
      have hcm := hd.cellAt p (by omega)
      have hfm := hd.frozenAt p
      rw [ints_get (by rw [HN.out]; omega)] at hcm
      have HX := Lib.hid (show (ints W).set p (.int .i64 (W.getD p 0 + 1)) = ints (incL W) from by rw [ints_set]; unfold incL; rw [HN.out]; rfl)
      have HST := Lib.hid (hd.stored p (.int .i64 (W.getD p 0 + 1)))
      have HI := Lib.hid (show (incL W).length = p + 1 from by rw [incL_len]; exact HN.out)
      have hne : W ≠ [] := by intro e; have := HN.out; rw [e] at this; simp at this
      have HNE := Lib.hid hne
      have hdw := hd
      clear hd hne
      generalize hx : W.getD p 0 = x at *
      have Hx := Lib.hid hx
      clear hx
      by_cases hdiv : L % (p + 1) = 0
      · have hdb : ((L : Int) % ((p : Int) + 1) == 0) = true := by
          rw [show ((L : Int) % ((p : Int) + 1)) = ((L % (p + 1) : Nat) : Int) from by rw [Int.natCast_emod, Int.natCast_add]; rfl, beq_iff_eq]; omega
        obtain ⟨OL, hOLe⟩ : ∃ OL, OL = O ++ incL W := ⟨_, rfl⟩
        have HS := Lib.hid (show sIter L (t + 1) = (OL, stripF (extL (p + 1) (L - (p + 1)) (incL W))) from by rw [HT.out]; unfold sStep; dsimp only; rw [if_neg HNE.out, HN.out, if_pos hdiv, hOLe])
        have hOL70 : OL.length ≤ 70 := by rw [hOLe]; rw [List.length_append, HI.out]; omega
        have HOL := Lib.hid hOLe
        clear hOLe
        obtain ⟨hown1, hgr1⟩ := HST.out
        rw [HX.out] at hown1
        have ho1 := ho.kept hgr1 (show u4.ownBlock = none ∨ u4.ownBlock ≠ some g from ha.symm)
        have hb1 := hb.grown hgr1 hsb (fun k hk => (hdw.lt k hk).1)
        have hs1 := hb1.size
        have HO1 := Lib.hid ho1
        have HD1 := Lib.hid hown1
        have HB1 := Lib.hid hb1
        have hsize1 : (wr.setCell ⟨g, p, none⟩ (.int .i64 (x + 1))).heap.size = wr.heap.size := by simp [World.setCell]
        have HZ1 := Lib.hid hsize1
        clear hsize1 hown1 hgr1 ho1 hb1 hs1 hdiv
        go_wp2_with (at_builtin; go_must (refine wpList_append_own_at _ rfl (.tmp 29) (.tmp 30) 22 rfl w.heap.size 2 i0 (.int .i64 0) 1 8 Try.underlying22 hi hz0 hz1 hz2 rfl (by decide) _ O.length (ints O) rfl HO1.out ⟨g, 0, none⟩ (p + 1) cap (ints (incL W)) rfl (by rw [ints_len, HI.out, Nat.mul_one]) (own_src HD1.out) (ints_one _) (by unfold maxLen; omega) (by omega) (by rw [HZ1.out]; exact hsb) ?_); intro o2 w2 ho2 hgr2 hnil2 hblk2)
        have ho2e : w2.ownsRow w.heap.size 2 1 o2 OL.length (ints OL) := by
          have h := ho2
          rw [HOL.out, List.length_append, HI.out]
          rw [show ints (O ++ incL W) = ints O ++ ints (incL W) from by simp [ints]]
          exact h
        have hd2e := HD1.out.kept hgr2 (show _ ∨ _ from ha)
        have ha2e := ha.own HD1.out hblk2 (Nat.le_refl _)
        have hb2e : Below w.heap.size w w2 := HB1.out.grown hgr2 HB1.out.size (fun k hk => (HO1.out.lt k hk).1)
        have HNIL := Lib.hid (show o2 ≠ .slice none 0 0 from fun e => hone ((hnil2.1 e).1))
        clear HO1 HB1 hgr2 hnil2 hblk2 ho2
        have HO1 := Lib.hid ho2e
        have HB1 := Lib.hid hb2e
        have HD2 := Lib.hid hd2e
        have HA1 := Lib.hid ha2e
        clear ho2e hb2e hd2e ha2e HD1 ha hone hdw hb hsb ho hcm hfm
        have HD1 := HD2
        clear HD2
        have HXO := Lib.hid hOL70
        go_loopg [5] (L + 1) (fun gg v wr2 => ∃ (j g2 c2 : Nat), j ≤ L - (p + 1) ∧ L - (p + 1) - j ≤ gg ∧ v = .slice (some ⟨g2, 0, none⟩) (p + 1 + j) c2 ∧ wr2.ownsRow w.heap.size 2 1 v (p + 1 + j) (ints (extL (p + 1) j (incL W))) ∧ wr2.ownsRow w.heap.size 2 1 o2 OL.length (ints OL) ∧ Apart v o2 ∧ Below w.heap.size w wr2)
        case atStart => exact ⟨0, g, cap, by omega, by omega, rfl, HD1.out, HO1.out, HA1.out, HB1.out⟩
        case round =>
          obtain ⟨j, g2, c2, hj, hgg, rfl, hd2, ho2, ha2, hb2⟩ := hrel
          have hs2 := hb2.size
          by_cases hlt : j < L - (p + 1)
          · have hcj := hd2.cellAt j (by omega)
            rw [ints_get (by rw [extL_len, HI.out]; omega)] at hcj
            have HE := Lib.hid (show ints (extL (p + 1) j (incL W)) ++ [.int .i64 ((extL (p + 1) j (incL W)).getD j 0)] = ints (extL (p + 1) (j + 1) (incL W)) from by rw [extL_succ, ints_snoc, extL_len, HI.out, show p + 1 + j - (p + 1) = j by omega])
            generalize (extL (p + 1) j (incL W)).getD j 0 = y at *
            go_wp2_with (at_builtin; go_must (refine wpList_append_own_at _ rfl (.tmp 36) (.tmp 44) 22 rfl w.heap.size 2 i0 (.int .i64 0) 1 8 Try.underlying22 hi hz0 hz1 hz2 rfl (by decide) _ (p + 1 + j) (ints (extL (p + 1) j (incL W))) rfl (hd2.alloc _) ⟨wr.heap.size, 0, none⟩ 1 1 [.int .i64 y] rfl rfl (new_one _ _ _) (int_one _) (by unfold maxLen; omega) (by omega) (by simp; omega) ?_); intro v3 w3 hd3 hgr3 hnil3 hblk3)
            obtain ⟨g3, c3, hv3, _, _⟩ := own_form hd3 (fun e => by have := (hnil3.1 e).2; cases this)
            have ho3 := (ho2.alloc (.cells #[.int .i64 y] 2)).kept hgr3 ha2.symm
            have ha3 := ha2.turn (ho2.alloc (.cells #[.int .i64 y] 2)) hblk3 (Nat.le_refl _)
            have hb3 := step_below hb2 hd2 hgr3
            rw [HE.out] at hd3
            subst hv3
            go_roundg (L - (p + 1) - (j + 1))
            case rel => exact ⟨j + 1, g3, c3, by omega, by omega, rfl, hd3, ho3, ha3, hb3⟩
            case measure => omega
          · obtain rfl : j = L - (p + 1) := by omega
            have HS3 := HS
            have hq : p + 1 + (L - (p + 1)) = L := by omega
            rw [hq] at hd2 ha2 ⊢
            have HL3 := Lib.hid (show (extL (p + 1) (L - (p + 1)) (incL W)).length = L from by rw [extL_len, HI.out, hq])
            generalize hV0 : extL (p + 1) (L - (p + 1)) (incL W) = V0 at *
            have HV0 := Lib.hid hV0
            clear hV0 hlt hq hgg hj hs2
            go_wp2_with fail
            go_loopg [5] (L + 1) (fun gg v wr3 => ∃ (V : List Int) (q g3 c3 : Nat), Hid (V.length = q) ∧ q ≤ gg ∧ q ≤ L ∧ Hid (stripF V = stripF V0) ∧ v = .slice (some ⟨g3, 0, none⟩) q c3 ∧ wr3.ownsRow w.heap.size 2 1 v q (ints V) ∧ wr3.ownsRow w.heap.size 2 1 o2 OL.length (ints OL) ∧ Apart v o2 ∧ Below w.heap.size w wr3)
            case atStart => exact ⟨V0, L, g2, c2, HL3, by omega, Nat.le_refl _, Lib.hid rfl, rfl, hd2, ho2, ha2, hb2⟩
            case round =>
              clear hd2 ho2 ha2 hb2
              obtain ⟨V, q, g3, c3, HV, hq1, hqL, HSV, rfl, hd3, ho3, ha3, hb3⟩ := hrel
              by_cases hq0 : q = 0
              · subst hq0
                have HN3 := Lib.hid ((strip_no (lastOne_nil HV.out)).symm.trans HSV.out)
                go_wp2_with fail
                go_roundg (24 - t)
                case rel => exact ⟨t + 1, g3, c3, 0, by omega, by omega, Lib.hid (by rw [HS.out]; show (stripF V0).length = 0; rw [← HN3.out]; exact HV.out), rfl, by rw [HS.out]; show World.ownsRow _ _ _ _ _ _ (ints (stripF V0)); rw [← HN3.out]; exact hd3, HNIL.out, by rw [HS.out]; exact ho3, ha3, hb3⟩
                case measure => omega
              · obtain ⟨r, rfl⟩ : ∃ r, q = r + 1 := ⟨q - 1, by omega⟩
                clear hq0
                have hcap3 := own_cap hd3
                have hcr := hd3.cellAt r (by omega)
                rw [ints_get (by rw [HV.out]; omega)] at hcr
                have HLO := Lib.hid (lastOne_some HV.out)
                have HDR := Lib.hid (ints_drop HV.out)
                generalize hy : V.getD r 0 = y at *
                have HY := Lib.hid hy
                clear hy
                by_cases hy1 : y = 1
                · subst hy1
                  have HPOP := Lib.hid (ownsRow_pop (size := 1) (n := r) (xs := ints V.dropLast) (last := [.int .i64 1]) (by rw [ints_len, List.length_dropLast, HV.out]; omega) (by rw [← HDR.out]; exact hd3))
                  have HST2 := Lib.hid ((strip_yes (HLO.out.trans rfl)).symm.trans HSV.out)
                  go_wp2_with fail
                  go_roundg r
                  case rel => exact ⟨V.dropLast, r, g3, c3, Lib.hid (by rw [List.length_dropLast, HV.out]; rfl), by omega, by omega, HST2, rfl, HPOP.out, ho3, ha3, hb3⟩
                  case measure => omega
                · have hyb : (y == 1) = false := by rw [beq_eq_false_iff_ne]; exact hy1
                  have HN3 := Lib.hid ((strip_no (HLO.out.trans hyb)).symm.trans HSV.out)
                  clear hy1
                  go_wp2_with fail
                  go_roundg (24 - t)
                  case rel => exact ⟨t + 1, g3, c3, r + 1, by omega, by omega, Lib.hid (by rw [HS.out]; show (stripF V0).length = r + 1; rw [← HN3.out]; exact HV.out), rfl, by rw [HS.out]; show World.ownsRow _ _ _ _ _ _ (ints (stripF V0)); rw [← HN3.out]; exact hd3, HNIL.out, by rw [HS.out]; exact ho3, ha3, hb3⟩
                  case measure => omega
      · have hdb : ((L : Int) % ((p : Int) + 1) == 0) = false := by
          rw [show ((L : Int) % ((p : Int) + 1)) = ((L % (p + 1) : Nat) : Int) from by rw [Int.natCast_emod, Int.natCast_add]; rfl, beq_eq_false_iff_ne]; omega
        obtain ⟨OL, hOLe⟩ : ∃ OL, OL = O := ⟨_, rfl⟩
        have HS := Lib.hid (show sIter L (t + 1) = (OL, stripF (extL (p + 1) (L - (p + 1)) (incL W))) from by rw [HT.out]; unfold sStep; dsimp only; rw [if_neg HNE.out, HN.out, if_neg hdiv, hOLe])
        have hOL70 : OL.length ≤ 70 := by rw [hOLe]; omega
        have HOL := Lib.hid hOLe
        clear hOLe
        obtain ⟨hown1, hgr1⟩ := HST.out
        rw [HX.out] at hown1
        have ho1 := ho.kept hgr1 (show u4.ownBlock = none ∨ u4.ownBlock ≠ some g from ha.symm)
        have hb1 := hb.grown hgr1 hsb (fun k hk => (hdw.lt k hk).1)
        have hs1 := hb1.size
        have HO1 := Lib.hid ho1
        have HD1 := Lib.hid hown1
        have HB1 := Lib.hid hb1
        have hsize1 : (wr.setCell ⟨g, p, none⟩ (.int .i64 (x + 1))).heap.size = wr.heap.size := by simp [World.setCell]
        have HZ1 := Lib.hid hsize1
        clear hsize1 hown1 hgr1 ho1 hb1 hs1 hdiv
        go_wp2_with fail
        generalize wr.setCell ⟨g, p, none⟩ (.int .i64 (x + 1)) = w2 at HO1 HD1 HB1 HZ1 HST ⊢
        have HNIL := Lib.hid hone
        have HA1 := Lib.hid ha
        have ho2e : w2.ownsRow w.heap.size 2 1 u4 OL.length (ints OL) := by rw [HOL.out]; exact HO1.out
        clear HO1
        have HO1 := Lib.hid ho2e
        clear ho2e ha hone hdw hb hsb ho hcm hfm
        have HXO := Lib.hid hOL70
        go_loopg [5] (L + 1) (fun gg v wr2 => ∃ (j g2 c2 : Nat), j ≤ L - (p + 1) ∧ L - (p + 1) - j ≤ gg ∧ v = .slice (some ⟨g2, 0, none⟩) (p + 1 + j) c2 ∧ wr2.ownsRow w.heap.size 2 1 v (p + 1 + j) (ints (extL (p + 1) j (incL W))) ∧ wr2.ownsRow w.heap.size 2 1 u4 OL.length (ints OL) ∧ Apart v u4 ∧ Below w.heap.size w wr2)
        case atStart => exact ⟨0, g, cap, by omega, by omega, rfl, HD1.out, HO1.out, HA1.out, HB1.out⟩
        case round =>
          obtain ⟨j, g2, c2, hj, hgg, rfl, hd2, ho2, ha2, hb2⟩ := hrel
          have hs2 := hb2.size
          by_cases hlt : j < L - (p + 1)
          · have hcj := hd2.cellAt j (by omega)
            rw [ints_get (by rw [extL_len, HI.out]; omega)] at hcj
            have HE := Lib.hid (show ints (extL (p + 1) j (incL W)) ++ [.int .i64 ((extL (p + 1) j (incL W)).getD j 0)] = ints (extL (p + 1) (j + 1) (incL W)) from by rw [extL_succ, ints_snoc, extL_len, HI.out, show p + 1 + j - (p + 1) = j by omega])
            generalize (extL (p + 1) j (incL W)).getD j 0 = y at *
            go_wp2_with (at_builtin; go_must (refine wpList_append_own_at _ rfl (.tmp 36) (.tmp 44) 22 rfl w.heap.size 2 i0 (.int .i64 0) 1 8 Try.underlying22 hi hz0 hz1 hz2 rfl (by decide) _ (p + 1 + j) (ints (extL (p + 1) j (incL W))) rfl (hd2.alloc _) ⟨wr.heap.size, 0, none⟩ 1 1 [.int .i64 y] rfl rfl (new_one _ _ _) (int_one _) (by unfold maxLen; omega) (by omega) (by simp; omega) ?_); intro v3 w3 hd3 hgr3 hnil3 hblk3)
            obtain ⟨g3, c3, hv3, _, _⟩ := own_form hd3 (fun e => by have := (hnil3.1 e).2; cases this)
            have ho3 := (ho2.alloc (.cells #[.int .i64 y] 2)).kept hgr3 ha2.symm
            have ha3 := ha2.turn (ho2.alloc (.cells #[.int .i64 y] 2)) hblk3 (Nat.le_refl _)
            have hb3 := step_below hb2 hd2 hgr3
            rw [HE.out] at hd3
            subst hv3
            go_roundg (L - (p + 1) - (j + 1))
            case rel => exact ⟨j + 1, g3, c3, by omega, by omega, rfl, hd3, ho3, ha3, hb3⟩
            case measure => omega
          · obtain rfl : j = L - (p + 1) := by omega
            have HS3 := HS
            have hq : p + 1 + (L - (p + 1)) = L := by omega
            rw [hq] at hd2 ha2 ⊢
            have HL3 := Lib.hid (show (extL (p + 1) (L - (p + 1)) (incL W)).length = L from by rw [extL_len, HI.out, hq])
            generalize hV0 : extL (p + 1) (L - (p + 1)) (incL W) = V0 at *
            have HV0 := Lib.hid hV0
            clear hV0 hlt hq hgg hj hs2
            go_wp2_with fail
            go_loopg [5] (L + 1) (fun gg v wr3 => ∃ (V : List Int) (q g3 c3 : Nat), Hid (V.length = q) ∧ q ≤ gg ∧ q ≤ L ∧ Hid (stripF V = stripF V0) ∧ v = .slice (some ⟨g3, 0, none⟩) q c3 ∧ wr3.ownsRow w.heap.size 2 1 v q (ints V) ∧ wr3.ownsRow w.heap.size 2 1 u4 OL.length (ints OL) ∧ Apart v u4 ∧ Below w.heap.size w wr3)
            case atStart => exact ⟨V0, L, g2, c2, HL3, by omega, Nat.le_refl _, Lib.hid rfl, rfl, hd2, ho2, ha2, hb2⟩
            case round =>
              clear hd2 ho2 ha2 hb2
              obtain ⟨V, q, g3, c3, HV, hq1, hqL, HSV, rfl, hd3, ho3, ha3, hb3⟩ := hrel
              by_cases hq0 : q = 0
              · subst hq0
                have HN3 := Lib.hid ((strip_no (lastOne_nil HV.out)).symm.trans HSV.out)
                go_wp2_with fail
                go_roundg (24 - t)
                case rel => exact ⟨t + 1, g3, c3, 0, by omega, by omega, Lib.hid (by rw [HS.out]; show (stripF V0).length = 0; rw [← HN3.out]; exact HV.out), rfl, by rw [HS.out]; show World.ownsRow _ _ _ _ _ _ (ints (stripF V0)); rw [← HN3.out]; exact hd3, HNIL.out, by rw [HS.out]; exact ho3, ha3, hb3⟩
                case measure => omega
              · obtain ⟨r, rfl⟩ : ∃ r, q = r + 1 := ⟨q - 1, by omega⟩
                clear hq0
                have hcap3 := own_cap hd3
                have hcr := hd3.cellAt r (by omega)
                rw [ints_get (by rw [HV.out]; omega)] at hcr
                have HLO := Lib.hid (lastOne_some HV.out)
                have HDR := Lib.hid (ints_drop HV.out)
                generalize hy : V.getD r 0 = y at *
                have HY := Lib.hid hy
                clear hy
                by_cases hy1 : y = 1
                · subst hy1
                  have HPOP := Lib.hid (ownsRow_pop (size := 1) (n := r) (xs := ints V.dropLast) (last := [.int .i64 1]) (by rw [ints_len, List.length_dropLast, HV.out]; omega) (by rw [← HDR.out]; exact hd3))
                  have HST2 := Lib.hid ((strip_yes (HLO.out.trans rfl)).symm.trans HSV.out)
                  go_wp2_with fail
                  go_roundg r
                  case rel => exact ⟨V.dropLast, r, g3, c3, Lib.hid (by rw [List.length_dropLast, HV.out]; rfl), by omega, by omega, HST2, rfl, HPOP.out, ho3, ha3, hb3⟩
                  case measure => omega
                · have hyb : (y == 1) = false := by rw [beq_eq_false_iff_ne]; exact hy1
                  have HN3 := Lib.hid ((strip_no (HLO.out.trans hyb)).symm.trans HSV.out)
                  clear hy1
                  go_wp2_with fail
                  go_roundg (24 - t)
                  case rel => exact ⟨t + 1, g3, c3, r + 1, by omega, by omega, Lib.hid (by rw [HS.out]; show (stripF V0).length = r + 1; rw [← HN3.out]; exact HV.out), rfl, by rw [HS.out]; show World.ownsRow _ _ _ _ _ _ (ints (stripF V0)); rw [← HN3.out]; exact hd3, HNIL.out, by rw [HS.out]; exact ho3, ha3, hb3⟩
                  case measure => omega
end Go.Proofs.Ytajbepbggfbmpaa
