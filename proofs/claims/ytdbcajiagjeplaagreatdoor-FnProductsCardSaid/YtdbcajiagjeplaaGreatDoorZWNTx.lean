/- NumbersText: both sides. -/
import Derived.Test.YtdbcajiagjeplaaGreatDoorZWHex2
import Derived.Test.YtdbcajiagjeplaaGreatDoorZWCut2
import Derived.Test.YtdbcajiagjeplaaGreatDoorZFTxt
import Derived.Test.YtdbcajiagjeplaaGreatDoorZWSrc3
import Derived.Test.YtdbcajiagjeplaaGreatDoorZShelfJ
set_option linter.unusedVariables false
set_option linter.unusedSimpArgs false
namespace Go.Proofs.YtdbcajiagjeplaaGreatDoor
open Go.RowKit Go.Lib

/-- The hexadecimal text of the number j. -/
def hxF (f : Nat → Nat) (j : Nat) : List UInt8 := hexN 8 (bitsN (val .f32 (f j)))
theorem hxF_len (f : Nat → Nat) (j : Nat) : (hxF f j).length = 8 := hexN_len _ _
theorem glue3 (a b : List UInt8) : (⟨a.toArray⟩ ++ (⟨#[44]⟩ ++ ⟨b.toArray⟩) : ByteArray) = ⟨(a ++ 44 :: b).toArray⟩ := by
  apply ByteArray.ext
  simp [ByteArray.data_append]
def svG (g : Nat → List UInt8) (i : Nat) : List Value := (List.range i).map fun j => sv (g j)
theorem svG_succ (g : Nat → List UInt8) (i : Nat) : svG g (i + 1) = svG g i ++ [sv (g i)] := by simp [svG, List.range_succ]
theorem listOrNone_gen (v : Value) (g : Nat → List UInt8) (n : Nat) (hn : n ≤ 256) (hg : ∀ j, j < n → (g j).length ≤ 40) (w : World) (B : Nat) (hB : B ≤ w.heap.size) (h : w.ownsRow B 9 1 v n (svG g n)) :
    Calls Tryz.prog 50 #[v] w fun e w' => e = .returned (.string ⟨(txGL g n).toArray⟩) ∧ Below w.heap.size w w' := by
  obtain ⟨A, c, rfl, hr⟩ := own_row h
  have hnc := own_cap h
  match n, hn, hg, hr, h, hnc with
  | 0, hn, hg, hr, h, hnc =>
    go_enter Tryz.func50, Tryz.ntmps50
    go_wp2_with fail
    go_ret
    exact ⟨rfl, Below.refl _ _⟩
  | k + 1, hn, hg, hr, h, hnc =>
    obtain ⟨b, off, rfl, hb, hc⟩ := hr (by omega)
    have hmap : ((List.range (k + 1)).map fun j => (⟨(g j).toArray⟩ : ByteArray)).map (·.data.toList) = (List.range (k + 1)).map g := by
      rw [List.map_map]; apply List.map_congr_left; intro j _; simp
    have hj := Tryz.strings_Join b off c ((List.range (k + 1)).map fun j => (⟨(g j).toArray⟩ : ByteArray)) ⟨#[44]⟩ w (fun j x hx => by
      obtain ⟨hl, rfl⟩ := List.getElem?_eq_some_iff.1 hx
      simp only [List.length_map, List.length_range] at hl
      rw [hc j hl]
      simp [svG, sv, List.getD_eq_getElem?_getD, hl]) hb (by simp; omega) (by simpa using hnc) (by
      rw [hmap, show (⟨#[44]⟩ : ByteArray).data.toList = [44] from rfl, join_txG]
      have := txG_len (g := g) (m := 40) (k := k) (fun j hj => hg j (by omega))
      omega)
    rw [hmap, show (⟨#[44]⟩ : ByteArray).data.toList = [44] from rfl, join_txG] at hj
    simp only [List.length_map, List.length_range] at hj
    have g1 : ((k : Int) + 1 == 0) = false := by simp; omega
    go_enter Tryz.func50, Tryz.ntmps50
    go_wp2_with fail
    refine hj.mono ?_
    rintro e w' ⟨rfl, hb2⟩
    go_wp2_with fail
    go_ret
    exact ⟨rfl, hb2⟩
/-- What NumbersText answers. -/
def RetNT (f : Nat → Nat) (n : Nat) (w : World) (e : Ending) (w' : World) : Prop :=
  e = .returned (.tuple #[.string (if n ≤ 256 then ⟨(txGL (hxF f) n).toArray⟩ else ⟨#[]⟩), .bool (decide (n ≤ 256))]) ∧ Below w.heap.size w w'
theorem RetNT.yes {f : Nat → Nat} {n : Nat} (h : n ≤ 256) {w w' : World} (hb : Below w.heap.size w w') : RetNT f n w (.returned (.tuple #[.string ⟨(txGL (hxF f) n).toArray⟩, .bool true])) w' :=
  ⟨by rw [if_pos h, decide_eq_true h], hb⟩
theorem RetNT.no {f : Nat → Nat} {n : Nat} (h : ¬ n ≤ 256) {w w' : World} (hb : Below w.heap.size w w') : RetNT f n w (.returned (.tuple #[.string ⟨#[]⟩, .bool false])) w' :=
  ⟨by rw [if_neg h, decide_eq_false h], hb⟩
set_option maxRecDepth 20000 in
set_option maxHeartbeats 800000 in
theorem implNumbersText_any (A : Option Addr) (n c : Nat) (f : Nat → Nat) (hf : ∀ j, j < n → f j < 4294967296) (w : World) (h : Row w w.heap.size A n (fun j => .float .f32 (f j))) (ht : Tz w) :
    Calls Tryz.prog 13 #[.slice A n c] w fun e w' => RetNT f n w e w' := by
  obtain ⟨i0, hi0, hz0, hz1, hz2⟩ := info_parts info_s
  by_cases hn : n ≤ 256
  · have g0 : ¬ (256 : Int) < (n : Int) := by omega
    go_enter Tryz.func13, Tryz.ntmps13
    go_wp2_with fail
    go_loopw [4, 13] (fun wv iv wr => ∃ i : Nat, i ≤ n ∧ iv = .int .i64 (i : Int) ∧ wr.ownsRow w.heap.size 9 1 wv i (svG (hxF f) i) ∧ Below w.heap.size w wr) (fun _ iv _ => n - (Go.RowKit.intOf iv).toNat)
    case atStart => exact ⟨0, by omega, rfl, own_empty _ _, (Below.refl _ _).alloc (Nat.le_refl _) _⟩
    case round =>
      obtain ⟨i, hi, rfl, ho, hw⟩ := hrel
      by_cases hlt : i < n
      · obtain ⟨b, off, rfl, hb, hc⟩ := h (by omega)
        have hcell : wr.cell? ⟨b, off + i, none⟩ = some (.float .f32 (f i)) := (hw.cell (p := ⟨b, off + i, none⟩) hb).trans (hc i hlt)
        have g3 : (i : Int) < (n : Int) := by omega
        have hfi := hf i hlt
        clear hc
        go_wp2_with fail
        refine (implHex_any (f i) hfi _ (ht.below (Nat.le_refl _) hw)).mono ?_
        rintro e w2 ⟨rfl, hb2⟩
        have ho2 := own_below ho hb2
        have hw2 := hw.trans (hb2.mono hw.size)
        have HS := hw2.size
        go_wp2_with (at_builtin; go_must (refine wpList_append_own_at _ rfl (.tmp 17) (.tmp 20) 73 rfl w.heap.size 9 i0 (.string ⟨#[]⟩) 1 16 Tryz.underlying73 hi0 hz0 hz1 hz2 rfl (by decide) _ i (svG (hxF f) i) rfl (ho2.alloc _) ⟨w2.heap.size, 0, none⟩ 1 1 [.string ⟨(hxF f i).toArray⟩] rfl rfl (new_one _ _ _) (sv_one _) (by unfold maxLen; omega) (by omega) (by simp; omega) ?_); intro v' w3 hown3 hgr3 _ hblk3)
        have hb3 := step_below hw2 ho2 hgr3
        go_roundw
        case rel => exact ⟨i + 1, by omega, rfl, by rw [svG_succ]; exact hown3, hb3⟩
        case measure => simp [Go.RowKit.intOf]; omega
      · obtain rfl : i = n := by omega
        go_wp2_with fail
        refine (listOrNone_gen _ (hxF f) i hn (fun j _ => by rw [hxF_len]; omega) _ w.heap.size hw.size ho).mono ?_
        rintro e w2 ⟨rfl, hb2⟩
        go_wp2_with fail
        go_ret2
        exact RetNT.yes hn (hw.trans (hb2.mono hw.size))
  · have g0 : (256 : Int) < (n : Int) := by omega
    go_enter Tryz.func13, Tryz.ntmps13
    go_wp2_with fail
    go_ret2
    exact RetNT.no hn (Below.refl _ _)
end Go.Proofs.YtdbcajiagjeplaaGreatDoor
