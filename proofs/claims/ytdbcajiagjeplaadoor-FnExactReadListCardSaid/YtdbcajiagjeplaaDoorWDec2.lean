/- The reference's decimal text, walked. -/
import Derived.Test.YtdbcajiagjeplaaDoorWDec
import Derived.Deep.DeepMust
set_option linter.unusedVariables false
set_option linter.unusedSimpArgs false
namespace Go.Proofs.YtdbcajiagjeplaaDoor
open Go.RowKit

def slen : Value → Nat | .slice _ n _ => n | _ => 0
/-- A row of bytes at ⟨g, off⟩. -/
def BytesAt (w : World) (g off : Nat) (l : List UInt8) : Prop := g < w.heap.size ∧ ∀ j u, (bytesV l)[j]? = some u → w.cell? ((⟨g, off, none⟩ : Addr).add j) = some u
theorem BytesAt.nil {w : World} {g off : Nat} (h : g < w.heap.size) : BytesAt w g off [] := ⟨h, fun j u hu => by simp [bytesV] at hu⟩
theorem BytesAt.alloc {w : World} {g off : Nat} {l : List UInt8} (h : BytesAt w g off l) (o : Obj) : BytesAt (w.alloc o) g off l :=
  ⟨by simp; have := h.1; omega, fun j u hu => by rw [World.cell?_alloc_lt _ _ _ (by rw [Addr.add_lit]; exact h.1)]; exact h.2 j u hu⟩
theorem BytesAt.of_win {w : World} {B n : Nat} {v : Value} {l : List UInt8} (h : Win w B v n (bytesV l)) (hn : 0 < n) : ∃ g off c, v = .slice (some ⟨g, off, none⟩) l.length c ∧ BytesAt w g off l ∧ B ≤ g := by
  have hl := h.1
  rw [bytesV_len] at hl
  rcases h.2 with ⟨_, h0⟩ | ⟨g, off, cap, rfl, hb, hg, _, _, hc, _⟩
  · omega
  · exact ⟨g, off, cap, by rw [hl], ⟨hg, fun j u hu => by rw [Addr.add_lit]; exact hc j u hu⟩, hb⟩
theorem BytesAt.string {w : World} {g off : Nat} {l : List UInt8} (h : BytesAt w g off l) (c : Nat) (src dst e : TypeId) (hs : Tryd.prog.underlying src = some (.slice e)) (he : Tryd.prog.underlying e = some (.int .u8)) (hd : Tryd.prog.underlying dst = some .string) :
    ∀ W, W = w → (convert src dst (.slice (some ⟨g, off, none⟩) l.length c)).run Tryd.prog W = .ok (.string ⟨l.toArray⟩) W := by
  rintro W rfl
  exact run_convert_bytes_back W src dst e _ c l hs he hd (fun j hj => h.2 j _ (by simp [bytesV, bytev, List.getElem?_eq_getElem hj]))
theorem win_one (w : World) (b : UInt8) (B : Nat) (hB : B ≤ w.heap.size) (e : TypeId) : Win (w.alloc (.cells #[bytev b] e)) B (.slice (some ⟨w.heap.size, 0, none⟩) 1 1) 1 (bytesV [b]) := by
  refine ⟨rfl, .inr ⟨w.heap.size, 0, 1, rfl, hB, by simp, Nat.le_refl _, by unfold maxLen; omega, fun j u hu => ?_, fun j h1 h2 => by omega⟩⟩
  have := new_one w (bytev b) e j u hu
  rwa [Addr.add_lit] at this

theorem own_ge {B N off n c : Nat} (h : B ≤ N) : ∀ q, (Value.slice (some ⟨N, off, none⟩) n c).ownBlock = some q → B ≤ q := by
  intro q e
  simp [Value.ownBlock] at e
  omega
theorem bytes_one (w : World) (b : UInt8) (e : TypeId) : BytesAt (w.alloc (.cells #[bytev b] e)) w.heap.size 0 [b] := ⟨by simp, new_one w (bytev b) e⟩
theorem digit_cell (m : Nat) (h : m < 10) : bytev (UInt8.ofNat (48 + m)) = .int .u8 (48 + (m : Int)) := by
  have : (UInt8.ofNat (48 + m)).toNat = 48 + m := by simp [UInt8.toNat_ofNat']; omega
  unfold bytev
  rw [this]
  rfl
set_option maxRecDepth 20000 in
set_option maxHeartbeats 1000000 in
theorem specDec_any (n : Int) (h0 : -9223372036854775808 ≤ n) (h1 : n ≤ 9223372036854775807) (w : World) :
    Calls Tryd.prog 38 #[.int .i64 n] w fun e w' => e = .returned (.string ⟨(Lib.itoa n).toArray⟩) ∧ Below w.heap.size w w' := by
  obtain ⟨i0, hi, hz0, hz1, hz2⟩ := info_parts info_byte
  go_enter Tryd.func38, Tryd.ntmps38
  go_wp2_with fail
  go_loopw [3, 4] (fun o r wr => ∃ (l : List UInt8) (rest : Int) (g off c : Nat), r = .int .i64 rest ∧ o = .slice (some ⟨g, off, none⟩) l.length c ∧ Dec n rest l ∧ BytesAt wr g off l ∧ Below w.heap.size w wr) (fun o r _ => (intOf r).natAbs * 2 + if slen o = 0 then 1 else 0)
  case atStart => exact ⟨[], n, _, _, _, rfl, rfl, .start n, .nil (by simp), (Below.refl _ _).alloc (Nat.le_refl _) _⟩
  case round =>
    obtain ⟨l, rest, g, off, c, rfl, rfl, hd, hb, hw⟩ := hrel
    have hlen := hd.len (by omega)
    have HD := Lib.hid hd
    have HB := Lib.hid hb
    have HW := Lib.hid hw
    have hle := hd.le
    have hr0 : -9223372036854775808 ≤ rest := by omega
    have hr1 : rest ≤ 9223372036854775807 := by have := hd.sign; omega
    clear hd hb hw hle
    by_cases hx : l = [] ∨ rest ≠ 0
    · have hc1 : ((l.length : Int) = 0) ∨ ¬ ((l.length : Int) = 0) ∧ ¬ rest = 0 := by
        rcases hx with rfl | h
        · left; rfl
        · by_cases h2 : (l.length : Int) = 0
          · exact .inl h2
          · exact .inr ⟨h2, h⟩
      have HX := Lib.hid hx
      have HT : Hid (rest.tdiv 10 = 0 ∨ True) := Lib.hid (.inr trivial)
      clear hx
      have hm : rest.natAbs % 10 < 10 := Nat.mod_lt _ (by decide)
      have hstep := Lib.hid (HD.out.step HX.out)
      have hdig := digit_cell _ hm
      have hmea : ∀ k : Nat, (rest.tdiv 10).natAbs * 2 + (if (k + 1 : Nat) = 0 then 1 else 0) < rest.natAbs * 2 + (if l.length = 0 then 1 else 0) := by
        intro k
        rw [if_neg (by omega)]
        have h9 : (rest.tdiv 10).natAbs = rest.natAbs / 10 := by rw [Int.natAbs_tdiv]; rfl
        rcases hc1 with h | ⟨_, h⟩
        · rw [if_pos (by omega)]; omega
        · omega
      have HM := Lib.hid hmea
      clear hmea
      have H45 := Lib.hid (tdiv_cases rest)
      generalize rest.natAbs % 10 = m at *
      generalize hq : rest.tdiv 10 = q at *
      have hq0 : -9223372036854775808 ≤ q ∧ q ≤ 9223372036854775807 := by
        rcases H45.out with ⟨_, _, h, _⟩ | ⟨_, _, h, _⟩ <;> omega
      have hq1 := hq0.2
      have hq2 := hq0.1
      clear hq0
      have h5 : (rest.tmod 10 = (m : Int)) ∨ (m = 0 ∧ rest.tmod 10 = 0) ∨ (0 < m ∧ rest.tmod 10 = -(m : Int)) := by
        rcases H45.out with ⟨_, _, _, h⟩ | ⟨_, _, _, h⟩
        · exact .inl h
        · rcases Nat.eq_zero_or_pos m with h0 | h0
          · right; left; exact ⟨h0, by rw [h, h0]; rfl⟩
          · right; right; exact ⟨h0, h⟩
      by_cases hl0 : l = []
      · subst hl0
        clear hc1
        rcases h5 with h5 | ⟨rfl, h5⟩ | ⟨hmp, h5⟩
        · go_wp2_with fail
          have hb2 := bytes_one wr (UInt8.ofNat (48 + m)) 5
          rw [hdig] at hb2
          go_roundw
          case rel => exact ⟨[UInt8.ofNat (48 + m)], q, wr.heap.size, 0, 1, rfl, rfl, hstep.out, hb2, HW.out.alloc HW.out.size _⟩
          case measure => exact HM.out 0
        · go_wp2_with fail
          have hb2 := bytes_one wr (UInt8.ofNat (48 + 0)) 5
          rw [hdig] at hb2
          go_roundw
          case rel => exact ⟨[UInt8.ofNat (48 + 0)], q, wr.heap.size, 0, 1, rfl, rfl, hstep.out, hb2, HW.out.alloc HW.out.size _⟩
          case measure => exact HM.out 0
        · go_wp2_with fail
          have hb2 := bytes_one wr (UInt8.ofNat (48 + m)) 5
          rw [hdig] at hb2
          go_roundw
          case rel => exact ⟨[UInt8.ofNat (48 + m)], q, wr.heap.size, 0, 1, rfl, rfl, hstep.out, hb2, HW.out.alloc HW.out.size _⟩
          case measure => exact HM.out 0
      · have hlp : 0 < l.length := List.length_pos_iff.2 hl0
        have hc2 : ¬ ((l.length : Int) = 0) := by omega
        have hc3 : ¬ rest = 0 := by
          rcases hc1 with h | ⟨_, h⟩
          · omega
          · exact h
        clear hc1
        have hc4 : (rest != 0) = true := by simpa using hc3
        have hc5 : decide (rest = 0) = false := by simpa using hc3
        have hc6 : ((l.length : Int) == 0) = false := by simpa using hc2
        rcases h5 with h5 | ⟨rfl, h5⟩ | ⟨hmp, h5⟩
        · have hmn : decide ((m : Int) < 0) = false := by simp
          go_wp2_with (first | (at_builtin; refine wpList_append_win _ rfl (.tmp 24) (.tmp 25) 69 rfl wr.heap.size 5 i0 (.int .u8 0) 1 Tryd.underlying69 hi hz0 hz1 hz2 rfl _ 1 (bytesV [UInt8.ofNat (48 + m)]) rfl (by rw [← hdig]; exact win_one _ _ _ (Nat.le_refl _) _) ⟨g, off, none⟩ l.length c (bytesV l) rfl (bytesV_len l) (HB.out.alloc _).2 (bytesV_cell l) (by unfold maxLen; omega) (by omega) (by simp) ?_; intro v' w2 hw2 hgr2 hblk2))
          have hwin := Lib.hid (show Win w2 wr.heap.size v' ((UInt8.ofNat (48 + m) :: l).length) (bytesV (UInt8.ofNat (48 + m) :: l)) from by rw [List.length_cons, Nat.add_comm]; exact hw2)
          have hbel : Below w.heap.size w w2 := (HW.out.alloc HW.out.size _).grown hgr2 (by have := HW.out.size; simp; omega) (own_ge HW.out.size)
          obtain ⟨g2, off2, c2, rfl, hb2, _⟩ := BytesAt.of_win hwin.out (by simp)
          clear hgr2 hblk2 hw2
          go_roundw
          case rel => exact ⟨UInt8.ofNat (48 + m) :: l, q, g2, off2, c2, rfl, rfl, hstep.out, hb2, hbel⟩
          case measure => exact HM.out l.length
        · have hdig : bytev (UInt8.ofNat (48 + 0)) = .int .u8 48 := rfl
          go_wp2_with (first | (at_builtin; refine wpList_append_win _ rfl (.tmp 24) (.tmp 25) 69 rfl wr.heap.size 5 i0 (.int .u8 0) 1 Tryd.underlying69 hi hz0 hz1 hz2 rfl _ 1 (bytesV [UInt8.ofNat (48 + 0)]) rfl (by rw [← hdig]; exact win_one _ _ _ (Nat.le_refl _) _) ⟨g, off, none⟩ l.length c (bytesV l) rfl (bytesV_len l) (HB.out.alloc _).2 (bytesV_cell l) (by unfold maxLen; omega) (by omega) (by simp) ?_; intro v' w2 hw2 hgr2 hblk2))
          have hwin := Lib.hid (show Win w2 wr.heap.size v' ((UInt8.ofNat (48 + 0) :: l).length) (bytesV (UInt8.ofNat (48 + 0) :: l)) from by rw [List.length_cons, Nat.add_comm]; exact hw2)
          have hbel : Below w.heap.size w w2 := (HW.out.alloc HW.out.size _).grown hgr2 (by have := HW.out.size; simp; omega) (own_ge HW.out.size)
          obtain ⟨g2, off2, c2, rfl, hb2, _⟩ := BytesAt.of_win hwin.out (by simp)
          clear hgr2 hblk2 hw2
          go_roundw
          case rel => exact ⟨UInt8.ofNat (48 + 0) :: l, q, g2, off2, c2, rfl, rfl, hstep.out, hb2, hbel⟩
          case measure => exact HM.out l.length
        · go_wp2_with (first | (at_builtin; refine wpList_append_win _ rfl (.tmp 24) (.tmp 25) 69 rfl wr.heap.size 5 i0 (.int .u8 0) 1 Tryd.underlying69 hi hz0 hz1 hz2 rfl _ 1 (bytesV [UInt8.ofNat (48 + m)]) rfl (by rw [← hdig]; exact win_one _ _ _ (Nat.le_refl _) _) ⟨g, off, none⟩ l.length c (bytesV l) rfl (bytesV_len l) (HB.out.alloc _).2 (bytesV_cell l) (by unfold maxLen; omega) (by omega) (by simp) ?_; intro v' w2 hw2 hgr2 hblk2))
          have hwin := Lib.hid (show Win w2 wr.heap.size v' ((UInt8.ofNat (48 + m) :: l).length) (bytesV (UInt8.ofNat (48 + m) :: l)) from by rw [List.length_cons, Nat.add_comm]; exact hw2)
          have hbel : Below w.heap.size w w2 := (HW.out.alloc HW.out.size _).grown hgr2 (by have := HW.out.size; simp; omega) (own_ge HW.out.size)
          obtain ⟨g2, off2, c2, rfl, hb2, _⟩ := BytesAt.of_win hwin.out (by simp)
          clear hgr2 hblk2 hw2
          go_roundw
          case rel => exact ⟨UInt8.ofNat (48 + m) :: l, q, g2, off2, c2, rfl, rfl, hstep.out, hb2, hbel⟩
          case measure => exact HM.out l.length
    · obtain ⟨hne, rfl⟩ : l ≠ [] ∧ rest = 0 := by
        refine ⟨fun h => hx (.inl h), ?_⟩
        rcases Int.lt_trichotomy rest 0 with h | h | h
        · exact absurd (Or.inr (by omega)) hx
        · exact h
        · exact absurd (Or.inr (by omega)) hx
      have hlp : 0 < l.length := List.length_pos_iff.2 hne
      have hl1 : ((l.length : Int) == 0) = false := by simp; exact hne
      have hout := HD.out.out
      rw [if_pos ⟨hne, rfl⟩, List.nil_append] at hout
      have HO := Lib.hid hout
      clear hout hx hne hr0 hr1
      by_cases hneg : n < 0
      · have hcell := show bytev 45 = .int .u8 45 from rfl
        go_wp2_with (at_builtin; go_must (refine wpList_append_win _ rfl (.tmp 31) (.tmp 32) 69 rfl wr.heap.size 5 i0 (.int .u8 0) 1 Tryd.underlying69 hi hz0 hz1 hz2 rfl _ 1 (bytesV [45]) rfl (by rw [← hcell]; exact win_one _ _ _ (Nat.le_refl _) _) ⟨g, off, none⟩ l.length c (bytesV l) rfl (bytesV_len l) (HB.out.alloc _).2 (bytesV_cell l) (by unfold maxLen; omega) (by omega) (by simp) ?_); intro v' w2 hw2 hgr2 hblk2; have hwin := Lib.hid (show Win w2 wr.heap.size v' ((45 :: l).length) (bytesV (45 :: l)) from by rw [List.length_cons, Nat.add_comm]; exact hw2); have hbel := Lib.hid (show Below w.heap.size w w2 from (HW.out.alloc HW.out.size _).grown hgr2 (by have := HW.out.size; simp; omega) (own_ge HW.out.size)); obtain ⟨g2, off2, c2, rfl, hb2, _⟩ := BytesAt.of_win hwin.out (by simp); have hconv := BytesAt.string hb2 c2 69 9 5 Tryd.underlying69 Tryd.underlying5 Tryd.underlying9 w2 rfl; rw [List.length_cons] at hconv)
        go_ret
        refine ⟨?_, hbel.out⟩
        unfold Lib.itoa
        rw [if_pos hneg, ← HO.out]
        rfl
      · have hconv := BytesAt.string HB.out c 69 9 5 Tryd.underlying69 Tryd.underlying5 Tryd.underlying9 wr rfl
        go_wp2_with fail
        go_ret
        refine ⟨?_, HW.out⟩
        unfold Lib.itoa
        rw [if_neg (by omega), HO.out, show n.natAbs = n.toNat from by omega]
        rfl
end Go.Proofs.YtdbcajiagjeplaaDoor
