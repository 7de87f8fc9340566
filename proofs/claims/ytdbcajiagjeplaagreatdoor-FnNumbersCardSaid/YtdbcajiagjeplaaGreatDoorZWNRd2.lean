/- ReadNumbers: both sides. -/
import Derived.Test.YtdbcajiagjeplaaGreatDoorZWRH
import Derived.Test.YtdbcajiagjeplaaGreatDoorZFRd
import Derived.Test.YtdbcajiagjeplaaGreatDoorZWCut2
import Derived.Test.YtdbcajiagjeplaaGreatDoorZFAng
import Derived.Test.YtdbcajiagjeplaaGreatDoorZFloats
set_option linter.unusedVariables false
set_option linter.unusedSimpArgs false
namespace Go.Proofs.YtdbcajiagjeplaaGreatDoor
open Go.RowKit Go.Lib

def flv (n : Nat) : Value := .float .f32 n
def fls (l : List Nat) : List Value := l.map flv
theorem fls_len (l : List Nat) : (fls l).length = l.length := by simp [fls]
theorem fls_getD (l : List Nat) (j : Nat) (h : j < l.length) : (fls l).getD j undef = .float .f32 (l.getD j 0) := by
  simp [fls, flv, List.getD_eq_getElem?_getD, List.getElem?_eq_getElem h]
theorem fls_snoc (l : List Nat) (x : Nat) : fls (l ++ [x]) = fls l ++ [.float .f32 x] := by simp [fls, flv]
theorem fl_one (x : Nat) : ∀ u ∈ [Value.float .f32 x], u.oneCell' = true := by intro u hu; simp only [List.mem_singleton] at hu; subst hu; rfl
def numsOf (l : List UInt8) : Option (List Nat) := listG decX 256 l
/-- What ReadNumbers answers. -/
def RetNs (l : List UInt8) (w : World) (e : Ending) (w' : World) : Prop := GivesL 24 (fls ((numsOf l).getD [])) (numsOf l).isSome w e w'
theorem retNs_none {l : List UInt8} (h : l = [110, 111, 110, 101]) {w w' : World} {v : Value} (ho : w'.ownsRow w.heap.size 24 1 v 0 []) (hb : Below w.heap.size w w') : RetNs l w (.returned (.tuple #[v, .bool true])) w' := by
  unfold RetNs numsOf; rw [listG_none h]; exact ⟨v, rfl, ho, hb⟩
theorem retNs_no {l : List UInt8} (h : ¬ l = [110, 111, 110, 101]) (h2 : ¬ (cuts l).length ≤ 256 ∨ (cuts l).all (fun p => (decX p).isSome) = false) {w w' : World} (hb : Below w.heap.size w w') : RetNs l w (.returned (.tuple #[.slice none 0 0, .bool false])) w' := by
  unfold RetNs numsOf; rw [listG_no h h2]
  exact ⟨_, rfl, World.ownsRow_nil _ _ _ _, hb⟩
theorem retNs_yes {l : List UInt8} (h : ¬ l = [110, 111, 110, 101]) (h1 : (cuts l).length ≤ 256) {i : Nat} {done : List Nat} (hr : RdTo decX (cuts l) i done) (hi : ¬ i < (cuts l).length) {w w' : World} {v : Value} (ho : w'.ownsRow w.heap.size 24 1 v done.length (fls done)) (hb : Below w.heap.size w w') : RetNs l w (.returned (.tuple #[v, .bool true])) w' := by
  unfold RetNs numsOf; rw [listG_yes h h1 hr hi]
  exact ⟨v, rfl, by rw [fls_len]; exact ho, hb⟩
theorem HexTo.lt {l : List UInt8} {k v : Nat} (h : HexTo l k v) (hk : k ≤ 8) : v < 4294967296 := by
  have h1 := h.2.1
  have h2 : 16 ^ k ≤ 16 ^ 8 := Nat.pow_le_pow_right (by decide) hk
  omega
theorem HexTo.lt7 {l : List UInt8} {k v : Nat} (h : HexTo l k v) (hk : k < 8) : v < 268435456 := by
  have h1 := h.2.1
  have h2 : 16 ^ k ≤ 16 ^ 7 := Nat.pow_le_pow_right (by decide) (by omega)
  omega
theorem HexTo.end8 {l : List UInt8} {v : Nat} (h : HexTo l 8 v) (hl : l.length = 8) : l = hexN 8 v := by
  have h1 := h.2.2
  rw [List.take_of_length_le (by omega)] at h1
  exact h1
theorem decX_len {l : List UInt8} (h : l.length ≠ 8) : decX l = none := decX_none fun N _ _ e => h (by rw [e, hexN_len])
set_option maxRecDepth 20000 in
set_option maxHeartbeats 800000 in
theorem implReadNumbers_any (s : ByteArray) (hs : s.size ≤ 1048576) (w : World) (he : Errs w) (ht : Tz w) (hm : ∃ m, w.cell? ⟨Tryz.laysM146_ren.g 1, 0, none⟩ = some (.int .i64 m)) : Calls Tryz.prog 14 #[.string s] w fun e w' => RetNs s.data.toList w e w' := by
  obtain ⟨i0, hi0, hz0, hz1, hz2⟩ := info_parts info_f32
  by_cases hn : s.data.toList = [110, 111, 110, 101]
  · have HN := Lib.hid hn
    clear hn
    go_enter Tryz.func14, Tryz.ntmps14
    go_wp2_with fail
    refine (parts_none s HN.out _).mono ?_
    rintro e w' ⟨rfl, rfl⟩
    go_wp2_with fail
    refine wp_loop_rounds 1 ?_
    rw [rounds_succ]
    go_wp2_with fail
    go_ret2
    exact retNs_none HN.out (own_empty _ _) ((Below.refl _ _).alloc (Nat.le_refl _) _)
  · have hcl := cuts_len s.data.toList
    have hsl : s.data.toList.length = s.size := by rw [Array.length_toList]; rfl
    have hpl : ∀ p ∈ cuts s.data.toList, p.length ≤ 1048576 := fun p hp => by have := cuts_piece _ p hp; omega
    have hcut := parts_any s hs hn w hm
    generalize s.data.toList = l at *
    have HN := Lib.hid hn
    have HC := Lib.hid hcut
    clear hn hcut hm
    go_enter Tryz.func14, Tryz.ntmps14
    go_wp2_with fail
    refine HC.out.mono ?_
    rintro e w1 ⟨v, rfl, hown, hb⟩
    obtain ⟨A1, c1, rfl, hr1⟩ := own_row hown
    have hR : Row w1 w1.heap.size A1 (cuts l).length (fun j => ((cuts l).map sv).getD j undef) := hr1
    have hA : ∀ a, A1 = some a → a.block < w1.heap.size := fun a ha => by subst ha; exact (hown.lt a.block rfl).2
    clear hr1 hown
    have HP0 := Lib.hid hpl
    generalize hps : cuts l = ps at *
    have HP := Lib.hid hps
    clear hps hpl
    go_wp2_with fail
    go_loopw [5, 15] (fun ov iv wr => ∃ (i : Nat) (done : List Nat), iv = .int .i64 (i : Int) ∧ RdTo decX ps i done ∧ (0 < i → ps.length ≤ 256) ∧ wr.ownsRow w.heap.size 24 1 ov done.length (fls done) ∧ Below w.heap.size w wr ∧ Aloof A1 ov ∧ Row wr wr.heap.size A1 ps.length (fun j => (ps.map sv).getD j undef)) (fun _ iv _ => ps.length - (Go.RowKit.intOf iv).toNat)
    case atStart =>
      refine ⟨0, [], rfl, RdTo.start, fun h => by omega, own_base (own_empty w1 24) hb.size, hb.alloc hb.size _, fun k a hk ha => ?_, (hR.below ((Below.refl _ _).alloc (Nat.le_refl _) _)).mono (by simp)⟩
      have h1 := hA a ha
      have h2 := Option.some.inj hk
      simp at h1 h2
      omega
    case round =>
      obtain ⟨i, done, rfl, hrd, h64, ho, hw, hlf, hrow⟩ := hrel
      have hil := hrd.1
      have hdl := hrd.len
      by_cases hlt : i < ps.length
      · have g2 : (i : Int) < (ps.length : Int) := by omega
        obtain ⟨b, off, rfl, hbB, hc⟩ := hrow (by omega)
        have hcell : wr.cell? ⟨b, off + i, none⟩ = some (.string ⟨ps[i].toArray⟩) := (hc i hlt).trans (congrArg some (sv_getD ps i hlt))
        have hpz : (⟨ps[i].toArray⟩ : ByteArray).size ≤ 1048576 := by
          have := HP0.out ps[i] (List.getElem_mem hlt)
          simpa [ByteArray.size] using this
        clear hc
        go_wp2_with fail
        refine (implReadHex_any _ hpz _ (he.below (Nat.le_refl _) hw) (ht.below (Nat.le_refl _) hw)).mono ?_
        rintro e w2 ⟨n, ok, rfl, hd, hb2⟩
        have HD := Lib.hid (show ok = true ∧ decX ps[i] = some n ∨ ok = false ∧ decX ps[i] = none from hd)
        clear hd
        have hW2 := hw.trans (hb2.mono hw.size)
        cases ok with
        | false =>
          go_wp2_with fail
          go_ret2
          refine retNs_no HN.out (.inr ?_) hW2
          rw [HP.out]
          refine all_no hlt ?_
          rcases HD.out with ⟨h, _⟩ | ⟨_, h⟩
          · cases h
          · exact h
        | true =>
          by_cases hle : ps.length ≤ 256
          · have g3 : ¬ (256 : Int) < (ps.length : Int) := by omega
            have hn : decX ps[i] = some n := by
              rcases HD.out with ⟨_, h⟩ | ⟨h, _⟩
              · exact h
              · cases h
            have HT := Lib.hid (hrd.on hlt hn)
            have ho2 := own_below ho hb2
            have hsz := hW2.size
            have hsb := hb2.size
            clear hn HD hcell hrd hw ho h64
            go_wp2_with (at_builtin; go_must (refine wpList_append_own_at _ rfl (.tmp 31) (.tmp 33) 30 rfl w.heap.size 24 i0 (.float .f32 0) 1 4 Tryz.underlying30 hi0 hz0 hz1 hz2 rfl (by decide) _ done.length (fls done) rfl (ho2.alloc _) ⟨w2.heap.size, 0, none⟩ 1 1 [.float .f32 n] rfl rfl (new_one _ _ _) (fl_one _) (by unfold maxLen; omega) (by omega) (by simp; omega) ?_); intro v' w3 hown3 hgr3 _ hblk3)
            have hb3 := step_below hW2 ho2 hgr3
            have hrow3 := hrow.append hb2 hgr3 hlf
            have hlf3 := hlf.next hblk3 (fun a ha => by obtain rfl := Option.some.inj ha; simp; omega)
            go_roundw
            case rel => exact ⟨i + 1, _, rfl, HT.out, fun _ => hle, by rw [List.length_append, fls_snoc]; exact hown3, hb3, hlf3, hrow3⟩
            case measure => simp [Go.RowKit.intOf]; omega
          · have g3 : (256 : Int) < (ps.length : Int) := by omega
            go_wp2_with fail
            go_ret2
            exact retNs_no HN.out (.inl (by rw [HP.out]; exact hle)) hW2
      · have g2 : ¬ (i : Int) < (ps.length : Int) := by omega
        have hpos : 0 < ps.length := by
          rw [← HP.out]
          exact List.length_pos_iff.2 (cuts_ne l)
        have hle := h64 (by omega)
        go_wp2_with fail
        go_ret2
        exact retNs_yes HN.out (by rw [HP.out]; exact hle) (by rw [HP.out]; exact hrd) (by rw [HP.out]; exact hlt) ho hw
end Go.Proofs.YtdbcajiagjeplaaGreatDoor
set_option linter.unusedVariables false
set_option linter.unusedSimpArgs false
namespace Go.Proofs.YtdbcajiagjeplaaGreatDoor
open Go.RowKit Go.Lib
end Go.Proofs.YtdbcajiagjeplaaGreatDoor
