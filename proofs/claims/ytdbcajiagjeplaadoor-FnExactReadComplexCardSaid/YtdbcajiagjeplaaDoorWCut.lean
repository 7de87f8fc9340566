/- A text cut at its commas: both sides. -/
import Derived.Test.YtdbcajiagjeplaaDoorFCut
import Derived.Test.YtdbcajiagjeplaaDoorApp
import Derived.Test.YtdbcajiagjeplaaDoorWIn
import Derived.Test.YtdbcajiagjeplaaDoorShelfS
import Derived.OwnWalk
import Derived.Deep.DeepMust
set_option linter.unusedVariables false
set_option linter.unusedSimpArgs false
namespace Go.Proofs.YtdbcajiagjeplaaDoor
open Go.RowKit Go.Lib

def sv (l : List UInt8) : Value := .string ⟨l.toArray⟩
theorem sv_of (s : ByteArray) : Value.string s = sv s.data.toList := rfl
theorem sv_one (x : ByteArray) : ∀ u ∈ [Value.string x], u.oneCell' = true := by intro u hu; simp only [List.mem_singleton] at hu; subst hu; rfl
theorem info_s : (Tryd.prog.info? 9).map (fun i => (i.zero, i.size, i.bytes)) = some (some (.string ⟨#[]⟩), 1, 16) := by kernel_rfl
/-- The round's relation: the pieces up to 'fr' are laid, and no comma stands from there to 'i'. -/
def CutRel (l : List UInt8) (i fr : Nat) (done : List (List UInt8)) : Prop :=
  done.length ≤ i ∧ ((i ≤ l.length ∧ fr ≤ i ∧ (∀ j, j < i - fr → (l.drop fr)[j]? ≠ some 44) ∧ done ++ cuts (l.drop fr) = cuts l) ∨ (i = l.length + 1 ∧ done = cuts l))
theorem CutRel.start (l : List UInt8) : CutRel l 0 0 [] := ⟨by simp, .inl ⟨by omega, by omega, fun j hj => by omega, rfl⟩⟩
theorem CutRel.on {l : List UInt8} {i fr : Nat} {done : List (List UInt8)} (h : CutRel l i fr done) (hi : i < l.length) (hc : l[i]? ≠ some 44) : CutRel l (i + 1) fr done := by
  obtain ⟨h0, ⟨h1, h2, h3, h4⟩ | ⟨h1, _⟩⟩ := h
  · refine ⟨by omega, .inl ⟨by omega, by omega, fun j hj => ?_, h4⟩⟩
    rcases Nat.lt_or_ge j (i - fr) with h5 | h5
    · exact h3 j h5
    · obtain rfl : j = i - fr := by omega
      rw [List.getElem?_drop, show fr + (i - fr) = i by omega]
      exact hc
  · omega
theorem CutRel.le {l : List UInt8} {i fr : Nat} {done : List (List UInt8)} (h : CutRel l i fr done) (hi : i ≤ l.length) : fr ≤ i := by
  obtain ⟨h0, ⟨h1, h2, h3, h4⟩ | ⟨h1, _⟩⟩ := h <;> omega
theorem CutRel.hit {l : List UInt8} {i fr : Nat} {done : List (List UInt8)} (h : CutRel l i fr done) (hi : i < l.length) (hc : l[i]? = some 44) : CutRel l (i + 1) (i + 1) (done ++ [(l.drop fr).take (i - fr)]) := by
  obtain ⟨h0, ⟨h1, h2, h3, h4⟩ | ⟨h1, _⟩⟩ := h
  · refine ⟨by simp; omega, .inl ⟨by omega, by omega, fun j hj => by omega, ?_⟩⟩
    have := cuts_hit (i - fr) (l.drop fr) h3 (by rw [List.getElem?_drop, show fr + (i - fr) = i by omega]; exact hc)
    rw [← h4, this, List.drop_drop, show fr + (i - fr + 1) = i + 1 by omega, List.append_assoc]
    rfl
  · omega
theorem CutRel.last {l : List UInt8} {i fr : Nat} {done : List (List UInt8)} (h : CutRel l i fr done) (hi : i = l.length) : CutRel l (i + 1) (i + 1) (done ++ [(l.drop fr).take (i - fr)]) := by
  obtain ⟨h0, ⟨h1, h2, h3, h4⟩ | ⟨h1, _⟩⟩ := h
  · refine ⟨by simp; omega, .inr ⟨by omega, ?_⟩⟩
    have := cuts_miss (l.drop fr) (fun j => by
      rcases Nat.lt_or_ge j (i - fr) with h5 | h5
      · exact h3 j h5
      · rw [List.getElem?_eq_none (by rw [List.length_drop]; omega)]; simp)
    rw [← h4, this, List.take_of_length_le (by rw [List.length_drop]; omega)]
  · omega
theorem CutRel.fin {l : List UInt8} {i fr : Nat} {done : List (List UInt8)} (h : CutRel l i fr done) (hi : ¬ i ≤ l.length) : done = cuts l := by
  obtain ⟨h0, ⟨h1, h2, h3, h4⟩ | ⟨h1, h2⟩⟩ := h
  · omega
  · exact h2
theorem CutRel.top {l : List UInt8} {i fr : Nat} {done : List (List UInt8)} (h : CutRel l i fr done) : i ≤ l.length + 1 := by
  obtain ⟨h0, ⟨h1, h2, h3, h4⟩ | ⟨h1, h2⟩⟩ := h <;> omega
theorem sv_extract (s : ByteArray) (a b : Nat) : Value.string (s.extract a b) = sv ((s.data.toList.drop a).take (b - a)) := by rw [sv_of, extract_data]
/-- What is cut. -/
def RetCut (l : List UInt8) (w : World) (e : Ending) (w' : World) : Prop := ∃ v, e = .returned v ∧ w'.ownsRow w.heap.size 9 1 v (cuts l).length ((cuts l).map sv) ∧ Below w.heap.size w w'
set_option maxRecDepth 20000 in
set_option maxHeartbeats 800000 in
theorem specCut_any (s : ByteArray) (hs : s.size ≤ 1048576) (w : World) : Calls Tryd.prog 73 #[.string s, .int .u8 44] w fun e w' => RetCut s.data.toList w e w' := by
  obtain ⟨i0, hi0, hz0, hz1, hz2⟩ := info_parts info_s
  have hsl : s.data.toList.length = s.size := by rw [Array.length_toList]; rfl
  have hget : ∀ i (h : i < s.size), s.data.toList[i]? = some (s[i]'h) := fun i h => by rw [List.getElem?_eq_getElem (by omega)]; rfl
  have hex : ∀ a b, Value.string (s.extract a b) = sv ((s.data.toList.drop a).take (b - a)) := sv_extract s
  generalize s.data.toList = l at *
  have HG := Lib.hid (And.intro hget hex)
  have HL := Lib.hid hsl
  clear hget hex hsl
  go_enter Tryd.func73, Tryd.ntmps73
  go_wp2_with fail
  go_loopw [5, 6, 7] (fun ov fv iv wr => ∃ (i fr : Nat) (done : List (List UInt8)), iv = .int .i64 (i : Int) ∧ fv = .int .i64 (fr : Int) ∧ CutRel l i fr done ∧ wr.ownsRow w.heap.size 9 1 ov done.length (done.map sv) ∧ Below w.heap.size w wr) (fun _ _ iv _ => s.size + 1 - (Go.RowKit.intOf iv).toNat)
  case atStart => exact ⟨0, 0, [], rfl, rfl, CutRel.start l, own_empty _ _, (Below.refl _ _).alloc (Nat.le_refl _) _⟩
  case round =>
    obtain ⟨i, fr, done, rfl, rfl, hcut, ho, hw⟩ := hrel
    have htop := hcut.top
    have hdl := hcut.1
    have hsz := hw.size
    rw [HL.out] at htop
    by_cases hle : i ≤ s.size
    · have hfr := hcut.le (by rw [HL.out]; exact hle)
      have g1 : (i : Int) ≤ (s.size : Int) := by omega
      have g2 : (fr : Int) ≤ (i : Int) := by omega
      by_cases hlt : i < s.size
      · have g3 : ((i : Int) == (s.size : Int)) = false := by simp; omega
        by_cases hc : ((s[i]'hlt).toNat : Int) = 44
        · have hb : s[i]'hlt = 44 := by apply UInt8.toNat_inj.1; show _ = 44; omega
          have HN := Lib.hid (hcut.hit (by rw [HL.out]; exact hlt) (by rw [HG.out.1 i hlt, hb]))
          have g4 : (((s[i]'hlt).toNat : Int) == 44) = true := by simp; omega
          clear hcut hb
          go_wp2_with (at_builtin; go_must (refine wpList_append_own_at _ rfl (.tmp 26) (.tmp 31) 52 rfl w.heap.size 9 i0 (.string ⟨#[]⟩) 1 16 Tryd.underlying52 hi0 hz0 hz1 hz2 rfl (by decide) _ done.length (done.map sv) rfl (ho.alloc _) ⟨wr.heap.size, 0, none⟩ 1 1 [.string (s.extract fr i)] rfl rfl (new_one _ _ _) (sv_one _) (by unfold maxLen; omega) (by omega) (by simp; omega) ?_); intro v' w3 hown3 hgr3 _ hblk3)
          have hb3 := step_below hw ho hgr3
          go_roundw
          case rel => exact ⟨i + 1, i + 1, _, rfl, rfl, HN.out, by rw [List.length_append, List.map_append, List.map_cons, List.map_nil, ← HG.out.2]; exact hown3, hb3⟩
          case measure => simp [Go.RowKit.intOf]; omega
        · have hb : l[i]? ≠ some 44 := by
            rw [HG.out.1 i hlt]
            intro h
            have := Option.some.inj h
            rw [this] at hc
            exact hc rfl
          have HN := Lib.hid (hcut.on (by rw [HL.out]; exact hlt) hb)
          have g4 : (((s[i]'hlt).toNat : Int) == 44) = false := by simpa using hc
          clear hcut hb
          go_wp2_with fail
          go_roundw
          case rel => exact ⟨i + 1, fr, _, rfl, rfl, HN.out, ho, hw⟩
          case measure => simp [Go.RowKit.intOf]; omega
      · obtain rfl : i = s.size := by omega
        have g3 : ((s.size : Int) == (s.size : Int)) = true := by simp
        have HN := Lib.hid (hcut.last HL.out.symm)
        clear hcut
        go_wp2_with (at_builtin; go_must (refine wpList_append_own_at _ rfl (.tmp 26) (.tmp 31) 52 rfl w.heap.size 9 i0 (.string ⟨#[]⟩) 1 16 Tryd.underlying52 hi0 hz0 hz1 hz2 rfl (by decide) _ done.length (done.map sv) rfl (ho.alloc _) ⟨wr.heap.size, 0, none⟩ 1 1 [.string (s.extract fr s.size)] rfl rfl (new_one _ _ _) (sv_one _) (by unfold maxLen; omega) (by omega) (by simp; omega) ?_); intro v' w3 hown3 hgr3 _ hblk3)
        have hb3 := step_below hw ho hgr3
        go_roundw
        case rel => exact ⟨s.size + 1, s.size + 1, _, rfl, rfl, HN.out, by rw [List.length_append, List.map_append, List.map_cons, List.map_nil, ← HG.out.2]; exact hown3, hb3⟩
        case measure => simp [Go.RowKit.intOf]
    · have g1 : ¬ (i : Int) ≤ (s.size : Int) := by omega
      obtain rfl := hcut.fin (by rw [HL.out]; exact hle)
      clear hcut
      go_wp2_with fail
      go_ret
      exact ⟨_, rfl, ho, hw⟩
end Go.Proofs.YtdbcajiagjeplaaDoor
