/- ReadList: both sides. -/
import Derived.Test.YtdbcajiagjeplaaDoorWCut
import Derived.Test.YtdbcajiagjeplaaDoorWRead2
set_option linter.unusedVariables false
set_option linter.unusedSimpArgs false
namespace Go.Proofs.YtdbcajiagjeplaaDoor
open Go.RowKit Go.Lib

/-- The number of a text, if it is one's. -/
def decOf (l : List UInt8) : Option Int := if (-1000000000000000 ≤ readZ l ∧ readZ l ≤ 1000000000000000) ∧ l = itoa (readZ l) then some (readZ l) else none
theorem isDec_of {s : ByteArray} {n : Int} {ok : Bool} (h : IsDec s n ok) : (ok = true ∧ decOf s.data.toList = some n) ∨ (ok = false ∧ decOf s.data.toList = none) := by
  rcases h with ⟨rfl, h1, h2⟩ | ⟨rfl, rfl, h2⟩
  · left
    refine ⟨rfl, ?_⟩
    unfold decOf
    rw [h2, readZ_itoa, if_pos ⟨h1, rfl⟩]
  · right
    refine ⟨rfl, ?_⟩
    unfold decOf
    rw [if_neg]
    rintro ⟨h3, h4⟩
    exact h2 _ h3.1 h3.2 h4
/-- The numbers of a list with a text. -/
def listOf (l : List UInt8) : Option (List Int) :=
  if l = [110, 111, 110, 101] then some [] else if (cuts l).length ≤ 64 ∧ (cuts l).all (fun p => (decOf p).isSome) = true then some ((cuts l).map fun p => (decOf p).getD 0) else none
/-- The numbers up to i have been read. -/
def ReadTo (ps : List (List UInt8)) (i : Nat) (done : List Int) : Prop := i ≤ ps.length ∧ (ps.take i).map decOf = done.map some
theorem ReadTo.start (ps : List (List UInt8)) : ReadTo ps 0 [] := ⟨by omega, by simp⟩
theorem ReadTo.len {ps : List (List UInt8)} {i : Nat} {done : List Int} (h : ReadTo ps i done) : done.length = i := by
  have h1 := congrArg List.length h.2
  have h2 := h.1
  simp at h1
  omega
theorem ReadTo.on {ps : List (List UInt8)} {i : Nat} {done : List Int} (h : ReadTo ps i done) (hi : i < ps.length) {n : Int} (hn : decOf ps[i] = some n) : ReadTo ps (i + 1) (done ++ [n]) := by
  refine ⟨by omega, ?_⟩
  rw [List.take_add_one, List.map_append, h.2, List.getElem?_eq_getElem hi, List.map_append]
  simp [hn]
theorem ReadTo.no {ps : List (List UInt8)} {i : Nat} {done : List Int} (_h : ReadTo ps i done) (hi : i < ps.length) (hn : decOf ps[i] = none) : ps.all (fun p => (decOf p).isSome) = false := by
  rw [List.all_eq_false]
  exact ⟨ps[i], List.getElem_mem hi, by rw [hn]; simp⟩
theorem ReadTo.fin {ps : List (List UInt8)} {i : Nat} {done : List Int} (h : ReadTo ps i done) (hi : ¬ i < ps.length) : ps.all (fun p => (decOf p).isSome) = true ∧ (ps.map fun p => (decOf p).getD 0) = done := by
  have h1 := h.2
  rw [List.take_of_length_le (by omega)] at h1
  constructor
  · rw [List.all_eq_true]
    intro p hp
    have : decOf p ∈ done.map some := by rw [← h1]; exact List.mem_map_of_mem hp
    obtain ⟨a, _, ha⟩ := List.mem_map.1 this
    rw [← ha]; rfl
  · have h2 := congrArg (List.map fun o : Option Int => o.getD 0) h1
    rw [List.map_map, List.map_map] at h2
    have h3 : ((fun o : Option Int => o.getD 0) ∘ some) = id := rfl
    rw [h3, List.map_id] at h2
    exact h2

/-- What ReadList answers. -/
def RetLs (l : List UInt8) (w : World) (e : Ending) (w' : World) : Prop := GivesL 2 (ints ((listOf l).getD [])) (listOf l).isSome w e w'
theorem retLs_none {l : List UInt8} (h : l = [110, 111, 110, 101]) {w w' : World} {v : Value} (ho : w'.ownsRow w.heap.size 2 1 v 0 []) (hb : Below w.heap.size w w') : RetLs l w (.returned (.tuple #[v, .bool true])) w' := by
  unfold RetLs listOf; rw [if_pos h]; exact ⟨v, rfl, ho, hb⟩
theorem retLs_no {l : List UInt8} (h : ¬ l = [110, 111, 110, 101]) (h2 : ¬ (cuts l).length ≤ 64 ∨ (cuts l).all (fun p => (decOf p).isSome) = false) {w w' : World} (hb : Below w.heap.size w w') : RetLs l w (.returned (.tuple #[.slice none 0 0, .bool false])) w' := by
  unfold RetLs listOf; rw [if_neg h, if_neg (by rintro ⟨h3, h4⟩; rcases h2 with h2 | h2; exact h2 h3; rw [h2] at h4; cases h4)]
  exact ⟨_, rfl, World.ownsRow_nil _ _ _ _, hb⟩
theorem retLs_yes {l : List UInt8} (h : ¬ l = [110, 111, 110, 101]) (h1 : (cuts l).length ≤ 64) {i : Nat} {done : List Int} (hr : ReadTo (cuts l) i done) (hi : ¬ i < (cuts l).length) {w w' : World} {v : Value} (ho : w'.ownsRow w.heap.size 2 1 v done.length (ints done)) (hb : Below w.heap.size w w') : RetLs l w (.returned (.tuple #[v, .bool true])) w' := by
  obtain ⟨h3, h4⟩ := hr.fin hi
  unfold RetLs listOf; rw [if_neg h, if_pos ⟨h1, h3⟩, h4]
  exact ⟨v, rfl, by rw [ints_len]; exact ho, hb⟩
theorem none_ne {s : ByteArray} (h : ¬ s.data.toList = [110, 111, 110, 101]) : (s.toList == [110, 111, 110, 101]) = false := by
  rw [ByteArray.toList_eq]; simpa using h
theorem none_eq {s : ByteArray} (h : s.data.toList = [110, 111, 110, 101]) : s = ⟨#[110, 111, 110, 101]⟩ := ((bytes_eq s [110, 111, 110, 101]).2 h).symm
/-- The block of v is not the one at A. -/
def Aloof (A : Option Addr) (v : Value) : Prop := ∀ k a, v.ownBlock = some k → A = some a → k ≠ a.block
theorem Aloof.next {A : Option Addr} {v v' : Value} {m : Nat} (h : Aloof A v) (hb : v'.ownBlock = v.ownBlock ∨ v'.ownBlock = some m) (hm : ∀ a, A = some a → a.block < m) : Aloof A v' := by
  intro k a hk ha
  rcases hb with hb | hb
  · exact h k a (hb ▸ hk) ha
  · rw [hb] at hk
    have := Option.some.inj hk
    have := hm a ha
    omega
theorem Row.grown {w w' : World} {B n : Nat} {A : Option Addr} {f : Nat → Value} {v : Value} (h : Row w B A n f) (hB : B ≤ w.heap.size) (hg : w.grownBy w' v.ownBlock) (hk : Aloof A v) : Row w' B A n f := fun hn => by
  obtain ⟨b, off, rfl, hlt, hc⟩ := h hn
  refine ⟨b, off, rfl, hlt, fun j hj => ?_⟩
  rw [← hc j hj]
  have hblk := hg.block b (by omega) (fun e => hk b _ e.symm rfl rfl)
  unfold World.cell?
  rw [hblk]
theorem Row.append {w wr w1 : World} {n : Nat} {A : Option Addr} {f : Nat → Value} {v : Value} {o : Obj} (h : Row w w.heap.size A n f) (hb : Below w.heap.size w wr) (hg : (wr.alloc o).grownBy w1 v.ownBlock) (hk : Aloof A v) : Row w1 w1.heap.size A n f := by
  have h1 : Row (wr.alloc o) w.heap.size A n f := (h.below hb).below ((Below.refl _ _).alloc hb.size o)
  have hs := hb.size
  have h2 := h1.grown (by simp; omega) hg hk
  have h3 := hg.size
  simp at h3
  exact h2.mono (by omega)
theorem own_addr {w : World} {base e n c : Nat} {A : Option Addr} {xs : List Value} (h : w.ownsRow base e 1 (.slice A n c) n xs) : ∀ a, A = some a → base ≤ a.block := fun a ha => by
  subst ha
  exact (h.lt a.block rfl).1
theorem info_i64 : (Tryd.prog.info? 2).map (fun i => (i.zero, i.size, i.bytes)) = some (some (.int .i64 0), 1, 8) := by kernel_rfl
theorem sv_getD (ps : List (List UInt8)) (i : Nat) (h : i < ps.length) : (ps.map sv).getD i undef = .string ⟨ps[i].toArray⟩ := by
  simp [sv, List.getD_eq_getElem?_getD, List.getElem?_eq_getElem h]
set_option maxRecDepth 20000 in
set_option maxHeartbeats 800000 in
theorem specNumbers_any (s : ByteArray) (hs : s.size ≤ 1048576) (w : World) : Calls Tryd.prog 51 #[.string s] w fun e w' => RetLs s.data.toList w e w' := by
  obtain ⟨i0, hi0, hz0, hz1, hz2⟩ := info_parts info_i64
  by_cases hn : s.data.toList = [110, 111, 110, 101]
  · obtain rfl := none_eq hn
    clear hn
    go_enter Tryd.func51, Tryd.ntmps51
    go_wp2_with fail
    go_ret2
    exact retLs_none rfl (own_empty _ _) ((Below.refl _ _).alloc (Nat.le_refl _) _)
  · have g0 := none_ne hn
    have hcl := cuts_len s.data.toList
    have hsl : s.data.toList.length = s.size := by rw [Array.length_toList]; rfl
    have hcut := specCut_any s hs
    generalize s.data.toList = l at *
    have HN := Lib.hid hn
    have HC := Lib.hid hcut
    clear hn hcut
    go_enter Tryd.func51, Tryd.ntmps51
    go_wp2_with fail
    refine (HC.out _).mono ?_
    rintro e w1 ⟨v, rfl, hown, hb⟩
    obtain ⟨A1, c1, rfl, hr1⟩ := own_row hown
    have ho1 := own_below (own_empty w 2) hb
    have hW1 : Below w.heap.size w w1 := ((Below.refl _ w).alloc (Nat.le_refl _) (.cells #[] 2)).trans (hb.mono (by simp))
    have hR : Row w1 w1.heap.size A1 (cuts l).length (fun j => ((cuts l).map sv).getD j undef) := hr1
    have hal : Aloof A1 (.slice (some ⟨w.heap.size, 0, none⟩) 0 0) := fun k a hk ha => by
      have h1 := own_addr hown a ha
      have h2 := Option.some.inj hk
      simp at h1 h2
      omega
    clear hr1 hown hb
    generalize hps : cuts l = ps at *
    by_cases h64 : ps.length ≤ 64
    · have g1 : ¬ (64 : Int) < (ps.length : Int) := by omega
      have HP := Lib.hid hps
      clear hps
      go_wp2_with fail
      go_loopw [4, 6] (fun ov iv wr => ∃ (i : Nat) (done : List Int), iv = .int .i64 (i : Int) ∧ ReadTo ps i done ∧ wr.ownsRow w.heap.size 2 1 ov done.length (ints done) ∧ Below w.heap.size w wr ∧ Aloof A1 ov ∧ Row wr wr.heap.size A1 ps.length (fun j => (ps.map sv).getD j undef)) (fun _ iv _ => ps.length - (Go.RowKit.intOf iv).toNat)
      case atStart => exact ⟨0, [], rfl, ReadTo.start _, ho1, hW1, hal, hR⟩
      case round =>
        obtain ⟨i, done, rfl, hrd, ho, hw, hlf, hrow⟩ := hrel
        have hil := hrd.1
        have hdl := hrd.len
        by_cases hlt : i < ps.length
        · have g2 : (i : Int) < (ps.length : Int) := by omega
          obtain ⟨b, off, rfl, hbB, hc⟩ := hrow (by omega)
          have hcell : wr.cell? ⟨b, off + i, none⟩ = some (.string ⟨ps[i].toArray⟩) := (hc i hlt).trans (congrArg some (sv_getD ps i hlt))
          clear hc
          go_wp2_with fail
          refine (specValue_any _ _).mono ?_
          rintro e w2 ⟨n, ok, rfl, hd, hb2⟩
          have HD := Lib.hid (isDec_of hd)
          clear hd
          have hW2 := hw.trans (hb2.mono hw.size)
          cases ok with
          | false =>
            go_wp2_with fail
            go_ret2
            refine retLs_no HN.out (.inr ?_) hW2
            rw [HP.out]
            refine hrd.no hlt ?_
            rcases HD.out with ⟨h, _⟩ | ⟨_, h⟩
            · cases h
            · exact h
          | true =>
            have hn : decOf ps[i] = some n := by
              rcases HD.out with ⟨_, h⟩ | ⟨h, _⟩
              · exact h
              · cases h
            have HT := Lib.hid (hrd.on hlt hn)
            have ho2 := own_below ho hb2
            have hsz := hW2.size
            have hsb := hb2.size
            clear hn HD hcell hrd hw ho
            go_wp2_with (at_builtin; go_must (refine wpList_append_own_at _ rfl (.tmp 34) (.tmp 36) 25 rfl w.heap.size 2 i0 (.int .i64 0) 1 8 Tryd.underlying25 hi0 hz0 hz1 hz2 rfl (by decide) _ done.length (ints done) rfl (ho2.alloc _) ⟨w2.heap.size, 0, none⟩ 1 1 [.int .i64 n] rfl rfl (new_one _ _ _) (int_one _) (by unfold maxLen; omega) (by omega) (by simp; omega) ?_); intro v' w3 hown3 hgr3 _ hblk3)
            have hb3 := step_below hW2 ho2 hgr3
            have hrow3 := hrow.append hb2 hgr3 hlf
            have hlf3 := hlf.next hblk3 (fun a ha => by obtain rfl := Option.some.inj ha; simp; omega)
            go_roundw
            case rel => exact ⟨i + 1, _, rfl, HT.out, by rw [List.length_append, ints_snoc]; exact hown3, hb3, hlf3, hrow3⟩
            case measure => simp [Go.RowKit.intOf]; omega
        · have g2 : ¬ (i : Int) < (ps.length : Int) := by omega
          go_wp2_with fail
          go_ret2
          exact retLs_yes HN.out (by rw [HP.out]; exact h64) (by rw [HP.out]; exact hrd) (by rw [HP.out]; exact hlt) ho hw
    · have g1 : (64 : Int) < (ps.length : Int) := by omega
      go_wp2_with fail
      go_ret2
      refine retLs_no HN.out (.inl ?_) hW1
      rw [hps]; exact h64
theorem specReadList_any (s : ByteArray) (hs : s.size ≤ 1048576) (w : World) : Calls Tryd.prog 25 #[.string s] w fun e w' => RetLs s.data.toList w e w' := by
  go_enter Tryd.func25, Tryd.ntmps25
  go_wp2_with fail
  refine (specNumbers_any s hs _).mono ?_
  rintro e w' ⟨v, rfl, ho, hb⟩
  go_wp2_with fail
  go_ret2
  exact ⟨_, rfl, ho, hb⟩
end Go.Proofs.YtdbcajiagjeplaaDoor
