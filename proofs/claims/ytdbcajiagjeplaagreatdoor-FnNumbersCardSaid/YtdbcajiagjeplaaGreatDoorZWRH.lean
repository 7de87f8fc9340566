/- readHex of the program. -/
import Derived.Test.YtdbcajiagjeplaaGreatDoorZWPU
import Derived.Test.YtdbcajiagjeplaaGreatDoorZWHex2
set_option linter.unusedVariables false
set_option linter.unusedSimpArgs false
namespace Go.Proofs.YtdbcajiagjeplaaGreatDoor
open Go.RowKit

/-- The word of a text: canonical, of 8 digits. -/
def decX (l : List UInt8) : Option Nat := if l = hexN 8 (hval l) ∧ hval l < 4294967296 ∧ bitsN (val .f32 (hval l)) = hval l then some (hval l) else none
theorem decX_some {l : List UInt8} {N : Nat} (h1 : l = hexN 8 N) (h2 : N < 4294967296) (h3 : bitsN (val .f32 N) = N) : decX l = some N := by
  have := hval_hex8 N h2
  unfold decX
  rw [h1, this, if_pos ⟨rfl, h2, h3⟩]
theorem decX_none {l : List UInt8} (h : ∀ N, N < 4294967296 → bitsN (val .f32 N) = N → l ≠ hexN 8 N) : decX l = none := by
  unfold decX
  rw [if_neg]
  rintro ⟨h1, h2, h3⟩
  exact h _ h2 h3 h1
theorem decX_is {l : List UInt8} {N : Nat} (h : decX l = some N) : l = hexN 8 N ∧ N < 4294967296 ∧ bitsN (val .f32 N) = N := by
  unfold decX at h
  split at h
  · rename_i hc
    obtain rfl := Option.some.inj h
    exact hc
  · cases h
theorem canon (N : Nat) : bitsN (val .f32 (bitsN (val .f32 N))) = bitsN (val .f32 N) := by
  cases h : val .f32 N with
  | none =>
    show bitsN (val .f32 2143289344) = 2143289344
    decide
  | some b =>
    obtain ⟨rfl, _⟩ := val_eq_some h
    show bitsN (val .f32 b) = b
    rw [h]; rfl
theorem hexN_ne {l : List UInt8} (h : l = []) (N : Nat) : l ≠ hexN 8 N := by
  intro e
  have := hexN_len 8 N
  rw [← e, h] at this
  cases this
theorem puS_hex8 {N : Nat} (h : N < 4294967296) : puS (hexN 8 N) = (N, 0) := by
  unfold puS
  rw [if_neg (fun e => hexN_ne e N rfl), pu_hex8 N h]
/-- What readHex answers. -/
def RetRX (l : List UInt8) (w : World) (e : Ending) (w' : World) : Prop := ∃ x ok, e = .returned (.tuple #[.float .f32 x, .bool ok]) ∧ (ok = true ∧ decX l = some x ∨ ok = false ∧ decX l = none) ∧ Below w.heap.size w w'
theorem str_eq_list (s : ByteArray) (l : List UInt8) : (l == s.toList) = decide (s.data.toList = l) := by
  rw [ByteArray.toList_eq]
  by_cases h : s.data.toList = l
  · rw [h]; simp
  · rw [decide_eq_false h]
    simpa using fun e => h e.symm
theorem implReadHex_any (s : ByteArray) (hs : s.size ≤ 1048576) (w : World) (he : Errs w) (ht : Tz w) : Calls Tryz.prog 52 #[.string s] w fun e w' => RetRX s.data.toList w e w' := by
  have hpu := strPU_any s hs w he
  have hle := (puS_le s.data.toList).1
  have hstr := str_eq_list s
  have hyes : ∀ N, N < 4294967296 → s.data.toList = hexN 8 N → puS s.data.toList = (N, 0) := fun N h e => by rw [e]; exact puS_hex8 h
  generalize s.data.toList = l at *
  obtain ⟨n, hn⟩ : ∃ n, n = (puS l).1 := ⟨_, rfl⟩
  have HN := Lib.hid hn
  have hn32 : n < 4294967296 := by omega
  have HP := Lib.hid hpu
  have HY := Lib.hid (And.intro hyes hstr)
  clear hn hle hpu hyes hstr
  go_enter Tryz.func52, Tryz.ntmps52
  go_wp2_with fail
  refine HP.out.mono ?_
  rintro e w1 ⟨v, rfl, hv, hb⟩
  rw [← HN.out]
  rcases hv with ⟨hk, rfl⟩ | ⟨hk, T, N, rfl⟩
  · have HK := Lib.hid hk
    clear hk
    have hno : (∀ N, N < 4294967296 → bitsN (val .f32 N) = N → l = hexN 8 N → n = N) := fun N h1 _ h3 => by
      rw [HN.out, HY.out.1 N h1 h3]
    have HQ := Lib.hid hno
    clear hno
    by_cases heq : l = hexN 8 (bitsN (val .f32 n))
    · have g := HY.out.2 (hexN 8 (bitsN (val .f32 n)))
      rw [decide_eq_true heq] at g
      have hd : decX l = some n := by
        have h1 := HQ.out _ (bitsN_lt hn32) (canon n) heq
        rw [← h1] at heq
        exact decX_some heq hn32 h1.symm
      have HD := Lib.hid hd
      clear heq hd
      go_wp2_with fail
      refine (implHex_any n hn32 _ (ht.below (Nat.le_refl _) hb)).mono ?_
      rintro e w2 ⟨rfl, hb2⟩
      go_wp2_with fail
      go_ret2
      exact ⟨_, _, rfl, .inl ⟨rfl, HD.out⟩, hb.trans (hb2.mono hb.size)⟩
    · have g := HY.out.2 (hexN 8 (bitsN (val .f32 n)))
      rw [decide_eq_false heq] at g
      have hd : decX l = none := decX_none fun N h1 h2 h3 => by
        have h4 := HQ.out N h1 h2 h3
        rw [h4, h2] at heq
        exact heq h3
      have HD := Lib.hid hd
      clear heq hd
      go_wp2_with fail
      refine (implHex_any n hn32 _ (ht.below (Nat.le_refl _) hb)).mono ?_
      rintro e w2 ⟨rfl, hb2⟩
      go_wp2_with fail
      go_ret2
      exact ⟨_, _, rfl, .inr ⟨rfl, HD.out⟩, hb.trans (hb2.mono hb.size)⟩
  · have hd : decX l = none := decX_none fun N h1 h2 h3 => hk (by rw [HY.out.1 N h1 h3])
    have HD := Lib.hid hd
    clear hk hd
    go_wp2_with fail
    go_ret2
    exact ⟨_, _, rfl, .inr ⟨rfl, HD.out⟩, hb⟩
end Go.Proofs.YtdbcajiagjeplaaGreatDoor
