/- ListText of the reference. -/
import Derived.Test.YtdbcajiagjeplaaDoorWDec3
import Derived.Test.YtdbcajiagjeplaaDoorFItoa
import Derived.Test.YtdbcajiagjeplaaDoorWIn
set_option linter.unusedVariables false
set_option linter.unusedSimpArgs false
namespace Go.Proofs.YtdbcajiagjeplaaDoor
open Go.RowKit Go.Lib

abbrev I64R (w : World) (B : Nat) (A : Option Addr) (n : Nat) (f : Nat → Int) : Prop := Row w B A n (fun j => .int .i64 (f j))
def valB (n : Int) : Bool := inB n (-1000000000000000) 1000000000000000
/-- May the list be written? -/
def okL (f : Nat → Int) (n : Nat) : Bool := decide (n ≤ 64) && (List.range n).all fun j => valB (f j)
/-- The text of the first k + 1 numbers. -/
def txt (f : Nat → Int) : Nat → List UInt8
  | 0 => itoa (f 0)
  | k + 1 => txt f k ++ 44 :: itoa (f (k + 1))
def txtL (f : Nat → Int) (n : Nat) : List UInt8 := match n with | 0 => [110, 111, 110, 101] | k + 1 => txt f k

theorem okL_false {f : Nat → Int} {n j : Nat} (hj : j < n) (h : valB (f j) = false) : okL f n = false := by
  unfold okL
  rw [Bool.and_eq_false_iff]
  right
  rw [List.all_eq_false]
  exact ⟨j, List.mem_range.2 hj, by rw [h]; simp⟩
theorem okL_true {f : Nat → Int} {n : Nat} (h : ∀ j, j < n → valB (f j) = true) : okL f n = decide (n ≤ 64) := by
  unfold okL
  rw [List.all_eq_true.2 (fun j hj => h j (List.mem_range.1 hj)), Bool.and_true]
theorem valB_iff {n : Int} : valB n = true ↔ -1000000000000000 ≤ n ∧ n ≤ 1000000000000000 := by simp [valB, inB]
theorem txt_len {f : Nat → Int} : ∀ {k : Nat}, (∀ j, j ≤ k → valB (f j) = true) → (txt f k).length ≤ 18 * (k + 1)
  | 0, h => by
    have h0 := valB_iff.1 (h 0 (Nat.le_refl _))
    have := itoa_len (f 0) h0.1 h0.2
    show (itoa (f 0)).length ≤ _
    omega
  | k + 1, h => by
    have ih := txt_len (k := k) (fun j hj => h j (by omega))
    have h0 := valB_iff.1 (h (k + 1) (Nat.le_refl _))
    have := itoa_len (f (k + 1)) h0.1 h0.2
    show (txt f k ++ 44 :: itoa (f (k + 1))).length ≤ _
    rw [List.length_append, List.length_cons]
    omega

theorem glue (a b : List UInt8) : (⟨a.toArray⟩ ++ (⟨#[44]⟩ ++ ⟨b.toArray⟩) : ByteArray) = ⟨(a ++ 44 :: b).toArray⟩ := by
  apply ByteArray.ext
  simp [ByteArray.data_append]
theorem specList_any (A : Option Addr) (n c : Nat) (f : Nat → Int) (hn : n ≤ 2097152) (w : World) (B : Nat) (h : I64R w B A n f) :
    Calls Tryd.prog 41 #[.slice A n c] w fun e w' => e = .returned (.bool (okL f n)) ∧ w = w' := by
  go_enter Tryd.func41, Tryd.ntmps41
  go_wp2_with fail
  go_loopw [3] (fun iv wr => ∃ i : Nat, i ≤ n ∧ iv = .int .i64 (i : Int) ∧ (∀ j, j < i → valB (f j) = true) ∧ wr = w) (fun iv _ => n - (Go.RowKit.intOf iv).toNat)
  case atStart => exact ⟨0, by omega, rfl, fun j hj => by omega, rfl⟩
  case round =>
    obtain ⟨i, hi, rfl, hall, rfl⟩ := hrel
    by_cases hlt : i < n
    · obtain ⟨b, off, rfl, hb, hc⟩ := h (by omega)
      have hcell : wr.cell? ⟨b, off + i, none⟩ = some (.int .i64 (f i)) := hc i hlt
      have g3 : (i : Int) < (n : Int) := by omega
      clear hc
      go_wp2_with fail
      refine (l00In_any _ _ _ _).mono ?_
      rintro e w' ⟨rfl, rfl⟩
      cases hv : inB (f i) (-1000000000000000) 1000000000000000 with
      | true =>
        go_wp2_with fail
        go_roundw
        case rel => exact ⟨i + 1, by omega, rfl, fun j hj => by
          rcases Nat.lt_or_ge j i with h1 | h1
          · exact hall j h1
          · obtain rfl : j = i := by omega
            exact hv, trivial⟩
        case measure => simp [Go.RowKit.intOf]; omega
      | false =>
        go_wp2_with fail
        go_ret
        exact ⟨by rw [okL_false hlt hv]; rfl, rfl⟩
    · obtain rfl : i = n := by omega
      have hk := okL_true hall
      by_cases h64 : i ≤ 64
      · have g4 : (i : Int) ≤ 64 := by omega
        go_wp2_with fail
        go_ret
        exact ⟨by first | rfl | (rw [hk, decide_eq_true h64]; rfl), rfl⟩
      · have g4 : ¬ (i : Int) ≤ 64 := by omega
        go_wp2_with fail
        go_ret
        exact ⟨by first | rfl | (rw [hk, decide_eq_false h64]; rfl), rfl⟩
theorem specText_any (A : Option Addr) (n c : Nat) (f : Nat → Int) (hn : n ≤ 64) (hv : ∀ j, j < n → valB (f j) = true) (w : World) (h : I64R w w.heap.size A n f) :
    Calls Tryd.prog 42 #[.slice A n c] w fun e w' => e = .returned (.string ⟨(txtL f n).toArray⟩) ∧ Below w.heap.size w w' := by
  match n, hn, hv, h with
  | 0, hn, hv, h =>
    go_enter Tryd.func42, Tryd.ntmps42
    go_wp2_with fail
    go_ret
    exact ⟨rfl, Below.refl _ _⟩
  | k + 1, hn, hv, h =>
    obtain ⟨b, off, rfl, hb, hc⟩ := h (by omega)
    have hc0 : w.cell? ⟨b, off + 0, none⟩ = some (.int .i64 (f 0)) := hc 0 (by omega)
    rw [Nat.add_zero] at hc0
    have h0 := valB_iff.1 (hv 0 (by omega))
    have g1 : ¬ ((k : Int) + 1 = 0) := by omega
    have g2 : (0 : Int) < (k : Int) + 1 := by omega
    go_enter Tryd.func42, Tryd.ntmps42
    go_wp2_with fail
    refine (specDec_any (f 0) (by omega) (by omega) w).mono ?_
    rintro e w1 ⟨rfl, hb1⟩
    go_wp2_with fail
    go_loopw [3, 4] (fun ov iv wr => ∃ i : Nat, i ≤ k ∧ iv = .int .i64 ((i : Int) + 1) ∧ ov = .string ⟨(txt f i).toArray⟩ ∧ Below w.heap.size w wr) (fun _ iv _ => k + 1 - (Go.RowKit.intOf iv).toNat)
    case atStart => exact ⟨0, by omega, rfl, rfl, hb1⟩
    case round =>
      obtain ⟨i, hi, rfl, rfl, hw⟩ := hrel
      by_cases hlt : i < k
      · have hcell : wr.cell? ⟨b, off + (i + 1), none⟩ = some (.int .i64 (f (i + 1))) := (hw.cell (p := ⟨b, off + (i + 1), none⟩) hb).trans (hc (i + 1) (by omega))
        have h1 := valB_iff.1 (hv (i + 1) (by omega))
        have g3 : (i : Int) + 1 < (k : Int) + 1 := by omega
        have hl1 := txt_len (f := f) (k := i) (fun j hj => hv j (by omega))
        have hl2 := itoa_len (f (i + 1)) h1.1 h1.2
        go_wp2_with fail
        refine (specDec_any (f (i + 1)) (by omega) (by omega) wr).mono ?_
        rintro e w2 ⟨rfl, hb2⟩
        go_wp2_with fail
        go_roundw
        case rel => exact ⟨i + 1, by omega, by go_num, by rw [glue]; rfl, hw.trans (hb2.mono hw.size)⟩
        case measure => simp [Go.RowKit.intOf]; omega
      · obtain rfl : i = k := by omega
        go_wp2_with fail
        go_ret
        exact ⟨rfl, hw⟩
end Go.Proofs.YtdbcajiagjeplaaDoor
