/- readHex of the program. -/
import Derived.Test.YtdbcajiagjeplaaGreatDoorZWPU
import Derived.Test.YtdbcajiagjeplaaGreatDoorZWHex2
import Derived.Test.YtdbcajiagjeplaaGreatDoorZFCut
import Derived.Test.YtdbcajiagjeplaaGreatDoorZWCut2
import Derived.Test.YtdbcajiagjeplaaGreatDoorZWRoot
import Derived.Test.YtdbcajiagjeplaaGreatDoorZWSrc3
import Derived.Deep.DeepMust
set_option linter.unusedVariables false
set_option linter.unusedSimpArgs false
namespace Go.Proofs.YtdbcajiagjeplaaGreatDoor
open Go.RowKit

/-- The word of a text: canonical, of 8 digits. -/
def decX (l : List UInt8) : Option Nat := if l = hexN 8 (hval l) ∧ hval l < 4294967296 ∧ bitsN (val .f32 (hval l)) = hval l then some (hval l) else none
theorem decX_some {l : List UInt8} {N : Nat} (h1 : l = hexN 8 N) (h2 : N < 4294967296) (h3 : bitsN (val .f32 N) = N) : decX l = some N := by
  have := hval_hex8 N h2
  unfold decX
  rw [h1, this, if_pos ⟨rfl, h2, h3⟩]
theorem decX_none {l : List UInt8} (h : ∀ N, N < 4294967296 → bitsN (val .f32 N) = N → l ≠ hexN 8 N) : decX l = none := by
  unfold decX
  rw [if_neg]
  rintro ⟨h1, h2, h3⟩
  exact h _ h2 h3 h1
theorem decX_is {l : List UInt8} {N : Nat} (h : decX l = some N) : l = hexN 8 N ∧ N < 4294967296 ∧ bitsN (val .f32 N) = N := by
  unfold decX at h
  split at h
  · rename_i hc
    obtain rfl := Option.some.inj h
    exact hc
  · cases h
theorem canon (N : Nat) : bitsN (val .f32 (bitsN (val .f32 N))) = bitsN (val .f32 N) := by
  cases h : val .f32 N with
  | none =>
    show bitsN (val .f32 2143289344) = 2143289344
    decide
  | some b =>
    obtain ⟨rfl, _⟩ := val_eq_some h
    show bitsN (val .f32 b) = b
    rw [h]; rfl
theorem hexN_ne {l : List UInt8} (h : l = []) (N : Nat) : l ≠ hexN 8 N := by
  intro e
  have := hexN_len 8 N
  rw [← e, h] at this
  cases this
theorem puS_hex8 {N : Nat} (h : N < 4294967296) : puS (hexN 8 N) = (N, 0) := by
  unfold puS
  rw [if_neg (fun e => hexN_ne e N rfl), pu_hex8 N h]
/-- What readHex answers. -/
def RetRX (l : List UInt8) (w : World) (e : Ending) (w' : World) : Prop := ∃ x ok, e = .returned (.tuple #[.float .f32 x, .bool ok]) ∧ (ok = true ∧ decX l = some x ∨ ok = false ∧ decX l = none) ∧ Below w.heap.size w w'
theorem str_eq_list (s : ByteArray) (l : List UInt8) : (l == s.toList) = decide (s.data.toList = l) := by
  rw [ByteArray.toList_eq]
  by_cases h : s.data.toList = l
  · rw [h]; simp
  · rw [decide_eq_false h]
    simpa using fun e => h e.symm
theorem implReadHex_any (s : ByteArray) (hs : s.size ≤ 1048576) (w : World) (he : Errs w) (ht : Tz w) : Calls Tryz.prog 52 #[.string s] w fun e w' => RetRX s.data.toList w e w' := by
  have hpu := strPU_any s hs w he
  have hle := (puS_le s.data.toList).1
  have hstr := str_eq_list s
  have hyes : ∀ N, N < 4294967296 → s.data.toList = hexN 8 N → puS s.data.toList = (N, 0) := fun N h e => by rw [e]; exact puS_hex8 h
  generalize s.data.toList = l at *
  obtain ⟨n, hn⟩ : ∃ n, n = (puS l).1 := ⟨_, rfl⟩
  have HN := Lib.hid hn
  have hn32 : n < 4294967296 := by omega
  have HP := Lib.hid hpu
  have HY := Lib.hid (And.intro hyes hstr)
  clear hn hle hpu hyes hstr
  go_enter Tryz.func52, Tryz.ntmps52
  go_wp2_with fail
  refine HP.out.mono ?_
  rintro e w1 ⟨v, rfl, hv, hb⟩
  rw [← HN.out]
  rcases hv with ⟨hk, rfl⟩ | ⟨hk, T, N, rfl⟩
  · have HK := Lib.hid hk
    clear hk
    have hno : (∀ N, N < 4294967296 → bitsN (val .f32 N) = N → l = hexN 8 N → n = N) := fun N h1 _ h3 => by
      rw [HN.out, HY.out.1 N h1 h3]
    have HQ := Lib.hid hno
    clear hno
    by_cases heq : l = hexN 8 (bitsN (val .f32 n))
    · have g := HY.out.2 (hexN 8 (bitsN (val .f32 n)))
      rw [decide_eq_true heq] at g
      have hd : decX l = some n := by
        have h1 := HQ.out _ (bitsN_lt hn32) (canon n) heq
        rw [← h1] at heq
        exact decX_some heq hn32 h1.symm
      have HD := Lib.hid hd
      clear heq hd
      go_wp2_with fail
      refine (implHex_any n hn32 _ (ht.below (Nat.le_refl _) hb)).mono ?_
      rintro e w2 ⟨rfl, hb2⟩
      go_wp2_with fail
      go_ret2
      exact ⟨_, _, rfl, .inl ⟨rfl, HD.out⟩, hb.trans (hb2.mono hb.size)⟩
    · have g := HY.out.2 (hexN 8 (bitsN (val .f32 n)))
      rw [decide_eq_false heq] at g
      have hd : decX l = none := decX_none fun N h1 h2 h3 => by
        have h4 := HQ.out N h1 h2 h3
        rw [h4, h2] at heq
        exact heq h3
      have HD := Lib.hid hd
      clear heq hd
      go_wp2_with fail
      refine (implHex_any n hn32 _ (ht.below (Nat.le_refl _) hb)).mono ?_
      rintro e w2 ⟨rfl, hb2⟩
      go_wp2_with fail
      go_ret2
      exact ⟨_, _, rfl, .inr ⟨rfl, HD.out⟩, hb.trans (hb2.mono hb.size)⟩
  · have hd : decX l = none := decX_none fun N h1 h2 h3 => hk (by rw [HY.out.1 N h1 h3])
    have HD := Lib.hid hd
    clear hk hd
    go_wp2_with fail
    go_ret2
    exact ⟨_, _, rfl, .inr ⟨rfl, HD.out⟩, hb⟩
end Go.Proofs.YtdbcajiagjeplaaGreatDoor
set_option linter.unusedVariables false
set_option linter.unusedSimpArgs false
namespace Go.Proofs.YtdbcajiagjeplaaGreatDoor

/-- The list of a text, by what a piece is. -/
def listG {α : Type} (dec : List UInt8 → Option α) (most : Nat) (l : List UInt8) : Option (List α) :=
  if l = [110, 111, 110, 101] then some [] else if (cuts l).length ≤ most ∧ (cuts l).all (fun p => (dec p).isSome) = true then some ((cuts l).filterMap dec) else none
/-- The pieces up to i have been read. -/
def RdTo {α : Type} (dec : List UInt8 → Option α) (ps : List (List UInt8)) (i : Nat) (done : List α) : Prop := i ≤ ps.length ∧ (ps.take i).map dec = done.map some
section
variable {α : Type} {dec : List UInt8 → Option α} {ps : List (List UInt8)} {i : Nat} {done : List α}
theorem RdTo.start : RdTo dec ps 0 [] := ⟨by omega, by simp⟩
theorem RdTo.len (h : RdTo dec ps i done) : done.length = i := by
  have h1 := congrArg List.length h.2
  have h2 := h.1
  simp at h1
  omega
theorem RdTo.on (h : RdTo dec ps i done) (hi : i < ps.length) {n : α} (hn : dec ps[i] = some n) : RdTo dec ps (i + 1) (done ++ [n]) := by
  refine ⟨by omega, ?_⟩
  rw [List.take_add_one, List.map_append, h.2, List.getElem?_eq_getElem hi, List.map_append]
  simp [hn]
theorem all_no (hi : i < ps.length) (hn : dec ps[i] = none) : ps.all (fun p => (dec p).isSome) = false := by
  rw [List.all_eq_false]
  exact ⟨ps[i], List.getElem_mem hi, by rw [hn]; simp⟩
theorem filterMap_of : ∀ {ps : List (List UInt8)} {done : List α}, ps.map dec = done.map some → ps.filterMap dec = done
  | [], [], _ => rfl
  | [], a :: d, h => by simp at h
  | p :: ps, [], h => by simp at h
  | p :: ps, a :: d, h => by
    simp only [List.map_cons, List.cons.injEq] at h
    rw [List.filterMap_cons, h.1, filterMap_of h.2]
theorem RdTo.fin (h : RdTo dec ps i done) (hi : ¬ i < ps.length) : ps.all (fun p => (dec p).isSome) = true ∧ ps.filterMap dec = done := by
  have h1 := h.2
  rw [List.take_of_length_le (by omega)] at h1
  refine ⟨?_, filterMap_of h1⟩
  rw [List.all_eq_true]
  intro p hp
  have : dec p ∈ done.map some := by rw [← h1]; exact List.mem_map_of_mem hp
  obtain ⟨a, _, ha⟩ := List.mem_map.1 this
  rw [← ha]; rfl
theorem listG_none {most : Nat} {l : List UInt8} (h : l = [110, 111, 110, 101]) : listG dec most l = some [] := by unfold listG; rw [if_pos h]
theorem listG_no {most : Nat} {l : List UInt8} (h : ¬ l = [110, 111, 110, 101]) (h2 : ¬ (cuts l).length ≤ most ∨ (cuts l).all (fun p => (dec p).isSome) = false) : listG dec most l = none := by
  unfold listG; rw [if_neg h, if_neg (by rintro ⟨h3, h4⟩; rcases h2 with h2 | h2; exact h2 h3; rw [h2] at h4; cases h4)]
theorem listG_yes {most : Nat} {l : List UInt8} (h : ¬ l = [110, 111, 110, 101]) (h1 : (cuts l).length ≤ most) (hr : RdTo dec (cuts l) i done) (hi : ¬ i < (cuts l).length) : listG dec most l = some done := by
  obtain ⟨h3, h4⟩ := hr.fin hi
  unfold listG; rw [if_neg h, if_pos ⟨h1, h3⟩, h4]
theorem listG_len {most : Nat} (l : List UInt8) : ((listG dec most l).getD []).length ≤ most := by
  unfold listG
  split
  · simp
  · split
    · rename_i h
      have := List.length_filterMap_le dec (cuts l)
      simp
      omega
    · simp
end
end Go.Proofs.YtdbcajiagjeplaaGreatDoor
set_option linter.unusedVariables false
set_option linter.unusedSimpArgs false
namespace Go.Proofs.YtdbcajiagjeplaaGreatDoor
open Go.RowKit Go.Lib

def flv (n : Nat) : Value := .float .f32 n
def fls (l : List Nat) : List Value := l.map flv
theorem fls_len (l : List Nat) : (fls l).length = l.length := by simp [fls]
theorem fls_getD (l : List Nat) (j : Nat) (h : j < l.length) : (fls l).getD j undef = .float .f32 (l.getD j 0) := by
  simp [fls, flv, List.getD_eq_getElem?_getD, List.getElem?_eq_getElem h]
theorem fls_snoc (l : List Nat) (x : Nat) : fls (l ++ [x]) = fls l ++ [.float .f32 x] := by simp [fls, flv]
theorem fl_one (x : Nat) : ∀ u ∈ [Value.float .f32 x], u.oneCell' = true := by intro u hu; simp only [List.mem_singleton] at hu; subst hu; rfl
def numsOf (l : List UInt8) : Option (List Nat) := listG decX 256 l
/-- What ReadNumbers answers. -/
def RetNs (l : List UInt8) (w : World) (e : Ending) (w' : World) : Prop := GivesL 24 (fls ((numsOf l).getD [])) (numsOf l).isSome w e w'
theorem retNs_none {l : List UInt8} (h : l = [110, 111, 110, 101]) {w w' : World} {v : Value} (ho : w'.ownsRow w.heap.size 24 1 v 0 []) (hb : Below w.heap.size w w') : RetNs l w (.returned (.tuple #[v, .bool true])) w' := by
  unfold RetNs numsOf; rw [listG_none h]; exact ⟨v, rfl, ho, hb⟩
theorem retNs_no {l : List UInt8} (h : ¬ l = [110, 111, 110, 101]) (h2 : ¬ (cuts l).length ≤ 256 ∨ (cuts l).all (fun p => (decX p).isSome) = false) {w w' : World} (hb : Below w.heap.size w w') : RetNs l w (.returned (.tuple #[.slice none 0 0, .bool false])) w' := by
  unfold RetNs numsOf; rw [listG_no h h2]
  exact ⟨_, rfl, World.ownsRow_nil _ _ _ _, hb⟩
theorem retNs_yes {l : List UInt8} (h : ¬ l = [110, 111, 110, 101]) (h1 : (cuts l).length ≤ 256) {i : Nat} {done : List Nat} (hr : RdTo decX (cuts l) i done) (hi : ¬ i < (cuts l).length) {w w' : World} {v : Value} (ho : w'.ownsRow w.heap.size 24 1 v done.length (fls done)) (hb : Below w.heap.size w w') : RetNs l w (.returned (.tuple #[v, .bool true])) w' := by
  unfold RetNs numsOf; rw [listG_yes h h1 hr hi]
  exact ⟨v, rfl, by rw [fls_len]; exact ho, hb⟩
theorem HexTo.lt {l : List UInt8} {k v : Nat} (h : HexTo l k v) (hk : k ≤ 8) : v < 4294967296 := by
  have h1 := h.2.1
  have h2 : 16 ^ k ≤ 16 ^ 8 := Nat.pow_le_pow_right (by decide) hk
  omega
theorem HexTo.lt7 {l : List UInt8} {k v : Nat} (h : HexTo l k v) (hk : k < 8) : v < 268435456 := by
  have h1 := h.2.1
  have h2 : 16 ^ k ≤ 16 ^ 7 := Nat.pow_le_pow_right (by decide) (by omega)
  omega
theorem HexTo.end8 {l : List UInt8} {v : Nat} (h : HexTo l 8 v) (hl : l.length = 8) : l = hexN 8 v := by
  have h1 := h.2.2
  rw [List.take_of_length_le (by omega)] at h1
  exact h1
theorem decX_len {l : List UInt8} (h : l.length ≠ 8) : decX l = none := decX_none fun N _ _ e => h (by rw [e, hexN_len])
set_option maxRecDepth 20000 in
set_option maxHeartbeats 800000 in
theorem implReadNumbers_any (s : ByteArray) (hs : s.size ≤ 1048576) (w : World) (he : Errs w) (ht : Tz w) (hm : ∃ m, w.cell? ⟨Tryz.laysM146_ren.g 1, 0, none⟩ = some (.int .i64 m)) : Calls Tryz.prog 14 #[.string s] w fun e w' => RetNs s.data.toList w e w' := by
  obtain ⟨i0, hi0, hz0, hz1, hz2⟩ := info_parts info_f32
  by_cases hn : s.data.toList = [110, 111, 110, 101]
  · have HN := Lib.hid hn
    clear hn
    go_enter Tryz.func14, Tryz.ntmps14
    go_wp2_with fail
    refine (parts_none s HN.out _).mono ?_
    rintro e w' ⟨rfl, rfl⟩
    go_wp2_with fail
    refine wp_loop_rounds 1 ?_
    rw [rounds_succ]
    go_wp2_with fail
    go_ret2
    exact retNs_none HN.out (own_empty _ _) ((Below.refl _ _).alloc (Nat.le_refl _) _)
  · have hcl := cuts_len s.data.toList
    have hsl : s.data.toList.length = s.size := by rw [Array.length_toList]; rfl
    have hpl : ∀ p ∈ cuts s.data.toList, p.length ≤ 1048576 := fun p hp => by have := cuts_piece _ p hp; omega
    have hcut := parts_any s hs hn w hm
    generalize s.data.toList = l at *
    have HN := Lib.hid hn
    have HC := Lib.hid hcut
    clear hn hcut hm
    go_enter Tryz.func14, Tryz.ntmps14
    go_wp2_with fail
    refine HC.out.mono ?_
    rintro e w1 ⟨v, rfl, hown, hb⟩
    obtain ⟨A1, c1, rfl, hr1⟩ := own_row hown
    have hR : Row w1 w1.heap.size A1 (cuts l).length (fun j => ((cuts l).map sv).getD j undef) := hr1
    have hA : ∀ a, A1 = some a → a.block < w1.heap.size := fun a ha => by subst ha; exact (hown.lt a.block rfl).2
    clear hr1 hown
    have HP0 := Lib.hid hpl
    generalize hps : cuts l = ps at *
    have HP := Lib.hid hps
    clear hps hpl
    go_wp2_with fail
    go_loopw [5, 15] (fun ov iv wr => ∃ (i : Nat) (done : List Nat), iv = .int .i64 (i : Int) ∧ RdTo decX ps i done ∧ (0 < i → ps.length ≤ 256) ∧ wr.ownsRow w.heap.size 24 1 ov done.length (fls done) ∧ Below w.heap.size w wr ∧ Aloof A1 ov ∧ Row wr wr.heap.size A1 ps.length (fun j => (ps.map sv).getD j undef)) (fun _ iv _ => ps.length - (Go.RowKit.intOf iv).toNat)
    case atStart =>
      refine ⟨0, [], rfl, RdTo.start, fun h => by omega, own_base (own_empty w1 24) hb.size, hb.alloc hb.size _, fun k a hk ha => ?_, (hR.below ((Below.refl _ _).alloc (Nat.le_refl _) _)).mono (by simp)⟩
      have h1 := hA a ha
      have h2 := Option.some.inj hk
      simp at h1 h2
      omega
    case round =>
      obtain ⟨i, done, rfl, hrd, h64, ho, hw, hlf, hrow⟩ := hrel
      have hil := hrd.1
      have hdl := hrd.len
      by_cases hlt : i < ps.length
      · have g2 : (i : Int) < (ps.length : Int) := by omega
        obtain ⟨b, off, rfl, hbB, hc⟩ := hrow (by omega)
        have hcell : wr.cell? ⟨b, off + i, none⟩ = some (.string ⟨ps[i].toArray⟩) := (hc i hlt).trans (congrArg some (sv_getD ps i hlt))
        have hpz : (⟨ps[i].toArray⟩ : ByteArray).size ≤ 1048576 := by
          have := HP0.out ps[i] (List.getElem_mem hlt)
          simpa [ByteArray.size] using this
        clear hc
        go_wp2_with fail
        refine (implReadHex_any _ hpz _ (he.below (Nat.le_refl _) hw) (ht.below (Nat.le_refl _) hw)).mono ?_
        rintro e w2 ⟨n, ok, rfl, hd, hb2⟩
        have HD := Lib.hid (show ok = true ∧ decX ps[i] = some n ∨ ok = false ∧ decX ps[i] = none from hd)
        clear hd
        have hW2 := hw.trans (hb2.mono hw.size)
        cases ok with
        | false =>
          go_wp2_with fail
          go_ret2
          refine retNs_no HN.out (.inr ?_) hW2
          rw [HP.out]
          refine all_no hlt ?_
          rcases HD.out with ⟨h, _⟩ | ⟨_, h⟩
          · cases h
          · exact h
        | true =>
          by_cases hle : ps.length ≤ 256
          · have g3 : ¬ (256 : Int) < (ps.length : Int) := by omega
            have hn : decX ps[i] = some n := by
              rcases HD.out with ⟨_, h⟩ | ⟨h, _⟩
              · exact h
              · cases h
            have HT := Lib.hid (hrd.on hlt hn)
            have ho2 := own_below ho hb2
            have hsz := hW2.size
            have hsb := hb2.size
            clear hn HD hcell hrd hw ho h64
            go_wp2_with (at_builtin; go_must (refine wpList_append_own_at _ rfl (.tmp 31) (.tmp 33) 30 rfl w.heap.size 24 i0 (.float .f32 0) 1 4 Tryz.underlying30 hi0 hz0 hz1 hz2 rfl (by decide) _ done.length (fls done) rfl (ho2.alloc _) ⟨w2.heap.size, 0, none⟩ 1 1 [.float .f32 n] rfl rfl (new_one _ _ _) (fl_one _) (by unfold maxLen; omega) (by omega) (by simp; omega) ?_); intro v' w3 hown3 hgr3 _ hblk3)
            have hb3 := step_below hW2 ho2 hgr3
            have hrow3 := hrow.append hb2 hgr3 hlf
            have hlf3 := hlf.next hblk3 (fun a ha => by obtain rfl := Option.some.inj ha; simp; omega)
            go_roundw
            case rel => exact ⟨i + 1, _, rfl, HT.out, fun _ => hle, by rw [List.length_append, fls_snoc]; exact hown3, hb3, hlf3, hrow3⟩
            case measure => simp [Go.RowKit.intOf]; omega
          · have g3 : (256 : Int) < (ps.length : Int) := by omega
            go_wp2_with fail
            go_ret2
            exact retNs_no HN.out (.inl (by rw [HP.out]; exact hle)) hW2
      · have g2 : ¬ (i : Int) < (ps.length : Int) := by omega
        have hpos : 0 < ps.length := by
          rw [← HP.out]
          exact List.length_pos_iff.2 (cuts_ne l)
        have hle := h64 (by omega)
        go_wp2_with fail
        go_ret2
        exact retNs_yes HN.out (by rw [HP.out]; exact hle) (by rw [HP.out]; exact hrd) (by rw [HP.out]; exact hlt) ho hw
end Go.Proofs.YtdbcajiagjeplaaGreatDoor
set_option linter.unusedVariables false
set_option linter.unusedSimpArgs false
namespace Go.Proofs.YtdbcajiagjeplaaGreatDoor
open Go.RowKit

theorem own_ne {w : World} {base e n b : Nat} {v : Value} {xs : List Value} (h : w.ownsRow base e 1 v n xs) (hb : b < base) : v.ownBlock ≠ some b := fun hk => by
  have := (h.lt b hk).1
  omega
/-- A list of floats is drawn into a new row; nothing that was there has turned, but the source. -/
def RetDL (N B : Nat) (w : World) (e : Ending) (w' : World) : Prop := ∃ (v : Value) (l : List Nat), e = .returned v ∧ l.length = N ∧ (∀ x ∈ l, x < 4294967296) ∧ w'.ownsRow w.heap.size 24 1 v N (fls l) ∧ Below B w w'
set_option maxRecDepth 20000 in
set_option maxHeartbeats 1600000 in
theorem floats_any (b : Nat) (A : Option Addr) (n c m B N : Nat) (f : Nat → Int) (w : World) (hN : N ≤ 1000) (hs : Src w b A n c m) (hm : m ≤ 100000) (hr : Bytes w B A n f) (hB : B ≤ b) :
    Calls Tryz.prog 47 #[.pointer (some ⟨b, 0, none⟩), .int .i64 (N : Int)] w fun e w' => RetDL N B w e w' := by
  obtain ⟨i0, hi0, hz0, hz1, hz2⟩ := info_parts info_f32
  have hblk := hs.block
  go_enter Tryz.func47, Tryz.ntmps47
  go_wp2_with fail
  have hb0 : Below w.heap.size w (w.alloc (.cells #[] 24)) := (Below.refl _ _).alloc (Nat.le_refl _) _
  have hs0 := hs.below hb0 hblk
  have hr0 := hr.below (hb0.mono (by omega))
  refine (one_any b A n c m B 4 f _ (by omega) (by omega) hs0 (by omega) hr0 hB).mono ?_
  rintro e w1 ⟨o, rfl, hs1, hg1⟩
  have ho1 := own_src (own_empty w 24) hg1 (own_ne (own_empty w 24) hblk)
  have hb1 : Below B w w1 := (hb0.mono (by omega)).trans (below_src hg1 (by simp; omega) hB)
  have hz1' := hg1.size
  simp at hz1'
  clear hs0 hr0 hg1 hs hb0
  go_wp2_with fail
  go_loopw [1, 5] (fun nv ov wr => ∃ (j : Nat) (l : List Nat), nv = .int .i64 ((N : Int) - (j : Int)) ∧ j ≤ N ∧ l.length = j ∧ (∀ x ∈ l, x < 4294967296) ∧ wr.ownsRow w.heap.size 24 1 ov j (fls l) ∧ Below B w wr ∧ w.heap.size ≤ wr.heap.size ∧ Src wr b A n c (m + 2 + 12 * j)) (fun nv _ _ => (Go.RowKit.intOf nv).toNat)
  case atStart => exact ⟨0, [], by simp, by omega, rfl, by simp, ho1, hb1, by omega, hs1⟩
  case round =>
    obtain ⟨j, l, rfl, hj, hl, hall, ho, hb, hz, hsr⟩ := hrel
    by_cases hlt : j < N
    · have g1 : (0 : Int) < (N : Int) - (j : Int) := by omega
      have hrr := hr.below hb
      cases o with
      | true =>
        go_wp2_with fail
        refine (float_any b A n c (m + 2 + 12 * j) B f _ hsr (by omega) hrr hB).mono ?_
        rintro e w2 ⟨r, rfl, hr32, hs2, hg2⟩
        have ho2 := own_src ho hg2 (own_ne ho hblk)
        have hb2 : Below B w w2 := hb.trans (below_src hg2 (by omega) hB)
        have hsz2 := hg2.size
        have hblk2 := hs2.block
        clear ho hb hg2 hsr hrr
        go_wp2_with (at_builtin; go_must (refine wpList_append_own_at _ rfl (.tmp 15) (.tmp 18) 30 rfl w.heap.size 24 i0 (.float .f32 0) 1 4 Tryz.underlying30 hi0 hz0 hz1 hz2 rfl (by decide) _ j (fls l) rfl (ho2.alloc _) ⟨w2.heap.size, 0, none⟩ 1 1 [.float .f32 r] rfl rfl (new_one _ _ _) (fl_one _) (by unfold maxLen; omega) (by omega) (by simp; omega) ?_); intro v' w3 hown3 hgr3 _ hblk3)
        have hal : Below w2.heap.size w2 (w2.alloc (.cells #[.float .f32 r] 24)) := (Below.refl _ _).alloc (Nat.le_refl _) _
        have hb3 : Below B w w3 := (hb2.trans (hal.mono (by omega))).grown hgr3 (by simp; omega) (fun k hk => by have := (ho2.lt k hk).1; omega)
        have hs3 : Src w3 b A n c (m + 2 + 12 * (j + 1)) := ((hs2.below hal hblk2).grown hgr3 (own_ne ho2 hblk)).mono (by omega)
        have hsz3 := hgr3.size
        simp at hsz3
        go_roundw
        case rel => exact ⟨j + 1, l ++ [r], by rw [show (((j + 1 : Nat)) : Int) = (j : Int) + 1 from rfl]; congr 1; omega, by omega, by simp [hl], by simp; intro x hx; rcases hx with hx | rfl; exact hall x hx; exact hr32, by rw [fls_snoc]; exact hown3, hb3, by omega, hs3⟩
        case measure => simp [Go.RowKit.intOf]; omega
      | false =>
        go_wp2_with fail
        refine (plain_any b A n c (m + 2 + 12 * j) B f _ hsr (by omega) hrr hB).mono ?_
        rintro e w2 ⟨r, rfl, hr32, hs2, hg2⟩
        have ho2 := own_src ho hg2 (own_ne ho hblk)
        have hb2 : Below B w w2 := hb.trans (below_src hg2 (by omega) hB)
        have hsz2 := hg2.size
        have hblk2 := hs2.block
        clear ho hb hg2 hsr hrr
        go_wp2_with (at_builtin; go_must (refine wpList_append_own_at _ rfl (.tmp 20) (.tmp 23) 30 rfl w.heap.size 24 i0 (.float .f32 0) 1 4 Tryz.underlying30 hi0 hz0 hz1 hz2 rfl (by decide) _ j (fls l) rfl (ho2.alloc _) ⟨w2.heap.size, 0, none⟩ 1 1 [.float .f32 r] rfl rfl (new_one _ _ _) (fl_one _) (by unfold maxLen; omega) (by omega) (by simp; omega) ?_); intro v' w3 hown3 hgr3 _ hblk3)
        have hal : Below w2.heap.size w2 (w2.alloc (.cells #[.float .f32 r] 24)) := (Below.refl _ _).alloc (Nat.le_refl _) _
        have hb3 : Below B w w3 := (hb2.trans (hal.mono (by omega))).grown hgr3 (by simp; omega) (fun k hk => by have := (ho2.lt k hk).1; omega)
        have hs3 : Src w3 b A n c (m + 2 + 12 * (j + 1)) := ((hs2.below hal hblk2).grown hgr3 (own_ne ho2 hblk)).mono (by omega)
        have hsz3 := hgr3.size
        simp at hsz3
        go_roundw
        case rel => exact ⟨j + 1, l ++ [r], by rw [show (((j + 1 : Nat)) : Int) = (j : Int) + 1 from rfl]; congr 1; omega, by omega, by simp [hl], by simp; intro x hx; rcases hx with hx | rfl; exact hall x hx; exact hr32, by rw [fls_snoc]; exact hown3, hb3, by omega, hs3⟩
        case measure => simp [Go.RowKit.intOf]; omega
    · obtain rfl : j = N := by omega
      go_wp2_with fail
      go_ret
      exact ⟨_, l, rfl, hl, hall, ho, hb⟩
theorem b10Numbers_any (A : Option Addr) (n c N : Nat) (f : Nat → Int) (w : World) (hN : N ≤ 1000) (hr : Bytes w w.heap.size A n f) : Calls Tryz.prog 10 #[.slice A n c, .int .i64 (N : Int)] w fun e w' => ∃ (v : Value) (l : List Nat), e = .returned v ∧ l.length = N ∧ (∀ x ∈ l, x < 4294967296) ∧ w'.ownsRow w.heap.size 24 1 v N (fls l) ∧ Below w.heap.size w w' := by
  go_enter Tryz.func10, Tryz.ntmps10
  go_wp2_with fail
  refine (from_any A n c _).mono ?_
  rintro e w1 ⟨rfl, hs1, hb1, hz1⟩
  have hr1 := hr.below hb1
  go_wp2_with fail
  refine (floats_any w.heap.size A n c 0 w.heap.size N f _ hN hs1 (by omega) hr1 (Nat.le_refl _)).mono ?_
  rintro e w2 ⟨v, l, rfl, hl, hall, ho, hb2⟩
  go_wp2_with fail
  go_ret
  exact ⟨_, l, rfl, hl, hall, own_base ho (by omega), hb1.trans hb2⟩
end Go.Proofs.YtdbcajiagjeplaaGreatDoor
