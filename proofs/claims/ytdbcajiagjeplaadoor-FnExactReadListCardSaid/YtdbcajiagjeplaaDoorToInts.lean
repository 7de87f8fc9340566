/- toInt64S copies a list into a new row. -/
import Derived.Test.YtdbcajiagjeplaaDoorInts
import Derived.Test.YtdbcajiagjeplaaDoorApp
set_option linter.unusedVariables false
set_option linter.unusedSimpArgs false
namespace Go.Proofs.YtdbcajiagjeplaaDoor
open Go.RowKit
theorem info_int : (Tryd.prog.info? 2).map (fun i => (i.zero, i.size, i.bytes)) = some (some (.int .i64 0), 1, 8) := by kernel_rfl
theorem below_drewN {B : Nat} {a w : World} (h : Below B a w) (n : Nat) : Below B a (w.drewN n) := ⟨h.os, h.tape, h.output, h.size, h.block⟩

/-- The first k elements have been copied. -/
def Copied (ys : List Value) (f : Nat → Value) (k : Nat) : Prop := ∀ j, j < k → ys[j]? = some (f j)
theorem Copied.set {ys : List Value} {f : Nat → Value} {k : Nat} (h : Copied ys f k) (hk : k < ys.length) : Copied (ys.set k (f k)) f (k + 1) := by
  intro j hj
  by_cases e : j = k
  · subst e; simp [hk]
  · rw [List.getElem?_set_ne (by omega)]; exact h j (by omega)

set_option maxHeartbeats 800000 in
theorem toInts_any (A : Option Addr) (n c B : Nat) (f : Nat → Int) (w : World) (hn : n ≤ 1048576) (hB : B ≤ w.heap.size) (h : Row w B A n (fun j => .int .i64 (f j))) :
    Calls Tryd.prog 16 #[.slice A n c] w fun e w' => ∃ v, e = .returned v ∧ Below w.heap.size w w' ∧ ∃ ys, w'.ownsRow w.heap.size 2 1 v n ys ∧ Copied ys (fun j => .int .i64 (f j)) n := by
  obtain ⟨i0, hi, hz0, hz1, hz2⟩ := info_parts info_int
  go_enter Tryd.func16, Tryd.ntmps16
  go_wp2_with (at_make; refine wpList_make_full _ rfl _ _ 25 rfl w.heap.size 2 i0 (.int .i64 0) 1 Tryd.underlying25 hi hz0 hz1 _ _ _ _ n rfl rfl rfl rfl (by rw [hz2]; omega) (by unfold maxLen; omega) (Nat.le_refl _) ?_; intro w1 hown hgrow)
  go_loopw [4] (fun i wr => ∃ k : Nat, k ≤ n ∧ i = .int .i64 k ∧ Below w.heap.size w wr ∧ ∃ ys, wr.ownsRow w.heap.size 2 1 (.slice (some ⟨w.heap.size, 0, none⟩) n n) n ys ∧ Copied ys (fun j => .int .i64 (f j)) k) (fun i _ => n - (intOf i).toNat)
  case atStart => exact ⟨0, Nat.zero_le _, rfl, (Below.refl _ w).grown hgrow (Nat.le_refl _) (fun k hk => by cases hk), _, hown, fun j hj => absurd hj (by omega)⟩
  case round =>
    obtain ⟨k, hk, rfl, hb, ys, hys, hm⟩ := hrel
    by_cases hlt : k < n
    · obtain ⟨b, off, rfl, hbB, hc⟩ := h (by omega)
      have hc1 : wr.cell? ⟨b, off + k, none⟩ = some (.int .i64 (f k)) := (hb.cell (p := ⟨b, off + k, none⟩) (by simp; omega)).trans (hc k hlt)
      have hlen := own_len hys
      have hc0 := hys.cellAt k (by omega)
      have hf0 := hys.frozenAt k
      obtain ⟨u, hu⟩ : ∃ u, ys[k]? = some u := ⟨_, List.getElem?_eq_getElem (by omega)⟩
      rw [hu] at hc0
      have HH := Lib.hid (And.intro (hys.stored k (.int .i64 (f k))) (hm.set (by omega)))
      have hbs : Below w.heap.size w (wr.setCell ⟨w.heap.size, k, none⟩ (.int .i64 (f k))) := hb.setCell (Nat.le_refl _) _
      clear hm hys hlen hu hc h hown hgrow
      go_wp2
      go_roundw
      case rel => exact ⟨k + 1, by omega, by go_num, hbs, _, HH.out.1.1, HH.out.2⟩
      case measure => simp [intOf]; omega
    · have hke : k = n := by omega
      subst hke
      clear hlt
      go_wp2
      go_ret
      exact ⟨_, rfl, hb, _, hys, hm⟩
end Go.Proofs.YtdbcajiagjeplaaDoor
