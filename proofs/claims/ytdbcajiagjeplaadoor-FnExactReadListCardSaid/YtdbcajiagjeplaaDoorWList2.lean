/- ReadList of the program. -/
import Derived.Test.YtdbcajiagjeplaaDoorWList
set_option linter.unusedVariables false
set_option linter.unusedSimpArgs false
namespace Go.Proofs.YtdbcajiagjeplaaDoor
open Go.RowKit Go.Lib

/-- What the library's functions ask of the world. -/
structure LibW (w : World) : Prop where
  p10 : Pow10 w
  errs : Errs w
  mlen : ∃ m, w.cell? ⟨Tryd.laysM146_ren.g 1, 0, none⟩ = some (.int .i64 m)
theorem LibW.below {w w' : World} (h : LibW w) (hb : Below w.heap.size w w') : LibW w' := by
  obtain ⟨m, hm⟩ := h.mlen
  exact ⟨h.p10.below (Nat.le_refl _) hb, h.errs.below (Nat.le_refl _) hb, m, (hb.cell (p := ⟨Tryd.laysM146_ren.g 1, 0, none⟩) (World.block_lt_of_cell? w _ hm)).trans hm⟩
theorem own_alloc (w : World) (e : TypeId) (xs : List Value) (h : xs.length ≤ maxLen) : (w.alloc (.cells xs.toArray e)).ownsRow w.heap.size e 1 (.slice (some ⟨w.heap.size, 0, none⟩) xs.length xs.length) xs.length xs :=
  ⟨by simp, .inr ⟨w.heap.size, xs.length, xs.toArray, rfl, Nat.le_refl _, heap_alloc_new w _, Nat.le_refl _, h, by simp, by simp⟩⟩
theorem split_sv (s : ByteArray) : (splitB ⟨#[44]⟩ 0 (countB s ⟨#[44]⟩) s).map Value.string = (cuts s.data.toList).map sv := by
  rw [← splitB_cuts, List.map_map]
  rfl
theorem strSplit_any (s : ByteArray) (hs : s.size ≤ 1048576) (w : World) (hm : ∃ m, w.cell? ⟨Tryd.laysM146_ren.g 1, 0, none⟩ = some (.int .i64 m)) :
    Calls Tryd.prog 74 #[.string s, .string ⟨#[44]⟩] w fun e w' => RetCut s.data.toList w e w' := by
  obtain ⟨m, hm⟩ := hm
  have hcl := cuts_len s.data.toList
  have hsl : s.data.toList.length = s.size := by rw [Array.length_toList]; rfl
  refine (Any.strings_Split { Tryd.laysM146 with } Tryd.laysM146.i9 s ⟨#[44]⟩ m w (by omega) hm (by decide)).mono ?_
  rintro e w' ⟨rfl, rfl⟩
  have ho := own_alloc w 9 ((cuts s.data.toList).map sv) (by rw [List.length_map]; unfold maxLen; omega)
  rw [List.length_map, ← split_sv, ← countB_cuts] at ho
  refine ⟨_, rfl, ?_, (Below.refl _ w).alloc (Nat.le_refl _) _⟩
  rw [← countB_cuts, ← split_sv]
  exact ho
theorem parts_any (s : ByteArray) (hs : s.size ≤ 1048576) (hn : ¬ s.data.toList = [110, 111, 110, 101]) (w : World) (hm : ∃ m, w.cell? ⟨Tryd.laysM146_ren.g 1, 0, none⟩ = some (.int .i64 m)) :
    Calls Tryd.prog 52 #[.string s] w fun e w' => RetCut s.data.toList w e w' := by
  have g0 := none_ne hn
  have HS := Lib.hid (strSplit_any s hs w hm)
  clear hn hm
  go_enter Tryd.func52, Tryd.ntmps52
  go_wp2_with fail
  refine HS.out.mono ?_
  rintro e w' ⟨v, rfl, ho, hb⟩
  go_wp2_with fail
  go_ret
  exact ⟨_, rfl, ho, hb⟩
theorem parts_none (s : ByteArray) (hn : s.data.toList = [110, 111, 110, 101]) (w : World) :
    Calls Tryd.prog 52 #[.string s] w fun e w' => e = .returned (.slice none 0 0) ∧ w = w' := by
  obtain rfl := none_eq hn
  clear hn
  go_enter Tryd.func52, Tryd.ntmps52
  go_wp2_with fail
  go_ret
  exact ⟨rfl, rfl⟩
set_option maxRecDepth 20000 in
set_option maxHeartbeats 800000 in
theorem implReadList_any (s : ByteArray) (hs : s.size ≤ 1048576) (w : World) (hK : LibW w) : Calls Tryd.prog 26 #[.string s] w fun e w' => RetLs s.data.toList w e w' := by
  obtain ⟨i0, hi0, hz0, hz1, hz2⟩ := info_parts info_i64
  by_cases hn : s.data.toList = [110, 111, 110, 101]
  · have HN := Lib.hid hn
    clear hn
    go_enter Tryd.func26, Tryd.ntmps26
    go_wp2_with fail
    refine (parts_none s HN.out _).mono ?_
    rintro e w' ⟨rfl, rfl⟩
    go_wp2_with fail
    refine wp_loop_rounds 1 ?_
    rw [rounds_succ]
    go_wp2_with fail
    go_ret2
    exact retLs_none HN.out (own_empty _ _) ((Below.refl _ _).alloc (Nat.le_refl _) _)
  · have hcl := cuts_len s.data.toList
    have hsl : s.data.toList.length = s.size := by rw [Array.length_toList]; rfl
    have hpl : ∀ p ∈ cuts s.data.toList, p.length ≤ 1048576 := fun p hp => by have := cuts_piece _ p hp; omega
    have hcut := fun w h => parts_any s hs hn w h
    generalize s.data.toList = l at *
    have HN := Lib.hid hn
    have HC := Lib.hid hcut
    clear hn hcut
    go_enter Tryd.func26, Tryd.ntmps26
    go_wp2_with fail
    refine (HC.out _ hK.mlen).mono ?_
    rintro e w1 ⟨v, rfl, hown, hb⟩
    obtain ⟨A1, c1, rfl, hr1⟩ := own_row hown
    have hR : Row w1 w1.heap.size A1 (cuts l).length (fun j => ((cuts l).map sv).getD j undef) := hr1
    have hA : ∀ a, A1 = some a → a.block < w1.heap.size := fun a ha => by subst ha; exact (hown.lt a.block rfl).2
    clear hr1 hown
    have HP0 := Lib.hid hpl
    generalize hps : cuts l = ps at *
    have HP := Lib.hid hps
    clear hps hpl
    go_wp2_with fail
    go_loopw [5, 15] (fun ov iv wr => ∃ (i : Nat) (done : List Int), iv = .int .i64 (i : Int) ∧ ReadTo ps i done ∧ (0 < i → ps.length ≤ 64) ∧ wr.ownsRow w.heap.size 2 1 ov done.length (ints done) ∧ Below w.heap.size w wr ∧ Aloof A1 ov ∧ Row wr wr.heap.size A1 ps.length (fun j => (ps.map sv).getD j undef)) (fun _ iv _ => ps.length - (Go.RowKit.intOf iv).toNat)
    case atStart =>
      refine ⟨0, [], rfl, ReadTo.start _, fun h => by omega, own_base (own_empty w1 2) hb.size, hb.alloc hb.size _, fun k a hk ha => ?_, (hR.below ((Below.refl _ _).alloc (Nat.le_refl _) _)).mono (by simp)⟩
      have h1 := hA a ha
      have h2 := Option.some.inj hk
      simp at h1 h2
      omega
    case round =>
      obtain ⟨i, done, rfl, hrd, h64, ho, hw, hlf, hrow⟩ := hrel
      have hil := hrd.1
      have hdl := hrd.len
      by_cases hlt : i < ps.length
      · have g2 : (i : Int) < (ps.length : Int) := by omega
        obtain ⟨b, off, rfl, hbB, hc⟩ := hrow (by omega)
        have hcell : wr.cell? ⟨b, off + i, none⟩ = some (.string ⟨ps[i].toArray⟩) := (hc i hlt).trans (congrArg some (sv_getD ps i hlt))
        have hpz : (⟨ps[i].toArray⟩ : ByteArray).size ≤ 1048576 := by
          have := HP0.out ps[i] (List.getElem_mem hlt)
          simpa [ByteArray.size] using this
        have hKr := hK.below hw
        clear hc
        go_wp2_with fail
        refine (implRead_any _ hpz _ hKr.p10 hKr.errs).mono ?_
        rintro e w2 ⟨n, ok, rfl, hd, hb2⟩
        have HD := Lib.hid (isDec_of hd)
        clear hd
        have hW2 := hw.trans (hb2.mono hw.size)
        cases ok with
        | false =>
          go_wp2_with fail
          go_ret2
          refine retLs_no HN.out (.inr ?_) hW2
          rw [HP.out]
          refine hrd.no hlt ?_
          rcases HD.out with ⟨h, _⟩ | ⟨_, h⟩
          · cases h
          · exact h
        | true =>
          by_cases hle : ps.length ≤ 64
          · have g3 : ¬ (64 : Int) < (ps.length : Int) := by omega
            have hn : decOf ps[i] = some n := by
              rcases HD.out with ⟨_, h⟩ | ⟨h, _⟩
              · exact h
              · cases h
            have HT := Lib.hid (hrd.on hlt hn)
            have ho2 := own_below ho hb2
            have hsz := hW2.size
            have hsb := hb2.size
            clear hn HD hcell hrd hw ho h64
            go_wp2_with (at_builtin; go_must (refine wpList_append_own_at _ rfl (.tmp 31) (.tmp 33) 25 rfl w.heap.size 2 i0 (.int .i64 0) 1 8 Tryd.underlying25 hi0 hz0 hz1 hz2 rfl (by decide) _ done.length (ints done) rfl (ho2.alloc _) ⟨w2.heap.size, 0, none⟩ 1 1 [.int .i64 n] rfl rfl (new_one _ _ _) (int_one _) (by unfold maxLen; omega) (by omega) (by simp; omega) ?_); intro v' w3 hown3 hgr3 _ hblk3)
            have hb3 := step_below hW2 ho2 hgr3
            have hrow3 := hrow.append hb2 hgr3 hlf
            have hlf3 := hlf.next hblk3 (fun a ha => by obtain rfl := Option.some.inj ha; simp; omega)
            go_roundw
            case rel => exact ⟨i + 1, _, rfl, HT.out, fun _ => hle, by rw [List.length_append, ints_snoc]; exact hown3, hb3, hlf3, hrow3⟩
            case measure => simp [Go.RowKit.intOf]; omega
          · have g3 : (64 : Int) < (ps.length : Int) := by omega
            go_wp2_with fail
            go_ret2
            exact retLs_no HN.out (.inl (by rw [HP.out]; exact hle)) hW2
      · have g2 : ¬ (i : Int) < (ps.length : Int) := by omega
        have hpos : 0 < ps.length := by
          rw [← HP.out]
          exact List.length_pos_iff.2 (cuts_ne l)
        have hle := h64 (by omega)
        go_wp2_with fail
        go_ret2
        exact retLs_yes HN.out (by rw [HP.out]; exact hle) (by rw [HP.out]; exact hrd) (by rw [HP.out]; exact hlt) ho hw
end Go.Proofs.YtdbcajiagjeplaaDoor
