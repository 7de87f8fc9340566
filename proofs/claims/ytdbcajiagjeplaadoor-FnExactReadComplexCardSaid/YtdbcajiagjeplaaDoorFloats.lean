/- Contracts of the laws' own helpers on []float32: eqFloat32S at equal slices, toFloat32S. -/
import Derived.Test.YtdbcajiagjeplaaDoorSameF
import Derived.Test.YtdbcajiagjeplaaDoorRow
import Derived.Deep.RegionWith
import Derived.Laws.Entries
set_option linter.unusedVariables false
set_option linter.unusedSimpArgs false
namespace Go.Proofs.YtdbcajiagjeplaaDoor
open Go.RowKit

/-- The word that a NaN gets, widened in the world w. -/
def nanWide (w : World) (b : Nat) : Nat := (Question.nanConv .f64 b).cut (w.tape w.drawn (.nanConv .f64 b))
theorem nanWide_is (w : World) (b : Nat) : FIs .f64 (nanWide w b) none := FIs.mk (val_nanConvCut .f64 b _) (nanConvCut_lt .f64 b _)

theorem run_wide_nan {b : Nat} (hn : (FloatKind.f32.decode b).isNaN = true) (w : World) : (convert 55 58 (.float .f32 b)).run Tryd.prog w = .ok (.float .f64 (nanWide w b)) w.drew := by
  have hd' : ∃ s f, FloatKind.f32.decode b = .nan s f := by
    revert hn; cases FloatKind.f32.decode b <;> simp [Ieee.Datum.isNaN]
  obtain ⟨s, f, hd'⟩ := hd'
  simp [convert, run_underlying Tryd.underlying55, run_underlying Tryd.underlying58, Conv.floatToFloat, hd', Question.forced]
  rfl
theorem run_wide_num {b : Nat} (hn : (FloatKind.f32.decode b).isNaN = false) (w : World) : (convert 55 58 (.float .f32 b)).run Tryd.prog w = .ok (.float .f64 (FloatKind.f64.encode (FloatKind.f32.decode b))) w :=
  run_convert_float_float w _ _ .f32 .f64 b _ (by rw [Tryd.underlying55]; rfl) Tryd.underlying58 (wide_bits hn)
theorem wide_is {b : Nat} (hn : (FloatKind.f32.decode b).isNaN = false) : FIs .f64 (FloatKind.f64.encode (FloatKind.f32.decode b)) (fwide (val .f32 b)) := by
  rw [val_some hn]; exact FIs.mk (val_some (write_not_nan .f64 _ hn)) (Ieee.Format.write_lt _ _)

theorem quietB {P : Program} {f : FuncId} {args : Array Value} {w : World} {n : Nat} {v : Value} (h : Calls P f args (w.drewN n) fun e w' => e = .returned v ∧ ∃ q, w' = (w.drewN n).drewN q) :
    Calls P f args (w.drewN n) fun e w'' => e = .returned v ∧ ∃ m, w'' = w.drewN m := h.mono fun _ _ ⟨he, q, hq⟩ => ⟨he, n + q, by rw [hq, World.drewN_drewN]⟩
theorem quietC {P : Program} {f : FuncId} {args : Array Value} {w : World} {a n : Nat} {v : Value} (h : Calls P f args (w.drewN (a + n)) fun e w' => e = .returned v ∧ ∃ q, w' = (w.drewN (a + n)).drewN q) :
    Calls P f args (w.drewN (a + n)) fun e w'' => e = .returned v ∧ ∃ m, w'' = w.drewN (a + m) := h.mono fun _ _ ⟨he, q, hq⟩ => ⟨he, n + q, by rw [hq, World.drewN_drewN, Nat.add_assoc]⟩

set_option maxHeartbeats 1600000 in
theorem eqFloats_same (A A' : Option Addr) (n c c' : Nat) (f : Nat → Nat) (B B' : Nat) (w : World) (hn : n ≤ 4611686018427387904) (h : Row w B A n (fun j => .float .f32 (f j))) (h' : Row w B' A' n (fun j => .float .f32 (f j))) :
    Calls Tryd.prog 22 #[.slice A n c, .slice A' n c'] w fun e w' => e = .returned (.bool true) ∧ ∃ q, w' = w.drewN q := by
  have hne : ((n : Int) != n) = false := by simp
  go_enter Tryd.func22, Tryd.ntmps22
  go_wp2
  go_loopw [5] (fun i wr => ∃ k : Nat, k ≤ n ∧ i = .int .i64 k ∧ ∃ q, wr = w.drewN q) (fun i _ => n - (intOf i).toNat)
  case atStart => exact ⟨0, Nat.zero_le _, rfl, 0, rfl⟩
  case round =>
    obtain ⟨k, hk, rfl, q, rfl⟩ := hrel
    by_cases hlt : k < n
    · obtain ⟨b, off, rfl, _, hc⟩ := h (by omega)
      obtain ⟨b', off', rfl, _, hc'⟩ := h' (by omega)
      have h1 : w.cell? ⟨b, off + k, none⟩ = some (.float .f32 (f k)) := hc k hlt
      have h2 : w.cell? ⟨b', off' + k, none⟩ = some (.float .f32 (f k)) := hc' k hlt
      clear hc hc' h h'
      generalize f k = x at *
      cases hx : (FloatKind.f32.decode x).isNaN with
      | false =>
        have hcv := run_wide_num hx
        have HW := Lib.hid (wide_is hx)
        generalize FloatKind.f64.encode (FloatKind.f32.decode x) = y at *
        clear hx
        go_wp2_with fail
        go_quiet ((go_at_call 48; first | exact quietC (sameFloat_same _ _ _ HW.out HW.out _) | exact quietB (sameFloat_same _ _ _ HW.out HW.out _)))
        go_wp2
        go_roundw
        case rel => exact ⟨k + 1, by omega, by go_num, _, rfl⟩
        case measure => simp [intOf]; omega
      | true =>
        have hcv := run_wide_nan hx
        clear hx
        go_wp2_with fail
        go_region_with (go_at_call 48; refine (sameFloat_same _ _ none (nanWide_is _ _) (nanWide_is _ _) _).mono ?_; rintro e w' ⟨rfl, qq, rfl⟩)
        all_goals go_wp2
        all_goals go_roundw
        all_goals first | exact ⟨k + 1, by omega, by go_num, _, rfl⟩ | (simp [intOf]; omega)
    · go_wp2
      go_ret
      exact ⟨rfl, _, rfl⟩

theorem info_f32 : (Tryd.prog.info? 55).map (fun i => (i.zero, i.size, i.bytes)) = some (some (.float .f32 0), 1, 4) := by kernel_rfl
theorem below_drewN {B : Nat} {a w : World} (h : Below B a w) (n : Nat) : Below B a (w.drewN n) := ⟨h.os, h.tape, h.output, h.size, h.block⟩

/-- The first k elements have been copied. -/
def Copied (ys : List Value) (f : Nat → Value) (k : Nat) : Prop := ∀ j, j < k → ys[j]? = some (f j)
theorem Copied.set {ys : List Value} {f : Nat → Value} {k : Nat} (h : Copied ys f k) (hk : k < ys.length) : Copied (ys.set k (f k)) f (k + 1) := by
  intro j hj
  by_cases e : j = k
  · subst e; simp [hk]
  · rw [List.getElem?_set_ne (by omega)]; exact h j (by omega)
theorem Copied.row {w : World} {B n : Nat} {A : Option Addr} {ys : List Value} {f : Nat → Value} (h : Row w B A n (fun j => ys.getD j undef)) (hc : Copied ys f n) : Row w B A n f :=
  h.congr fun j hj => by rw [List.getD_eq_getElem?_getD, hc j hj]; rfl

@[go_sem] theorem run_store_f (P : Program) (w : World) (a : Addr) (m : Mode) (k : FloatKind) (b : Nat) : (store a (.float k b) m).run P w = stored P w a (.float k b) m := run_store P w a _ m rfl

set_option maxHeartbeats 800000 in
theorem toFloats_any (A : Option Addr) (n c B : Nat) (f : Nat → Nat) (w : World) (hn : n ≤ 1048576) (hB : B ≤ w.heap.size) (h : Row w B A n (fun j => .float .f32 (f j))) :
    Calls Tryd.prog 20 #[.slice A n c] w fun e w' => ∃ v, e = .returned v ∧ Below w.heap.size w w' ∧ ∃ ys, w'.ownsRow w.heap.size 55 1 v n ys ∧ Copied ys (fun j => .float .f32 (f j)) n := by
  obtain ⟨i0, hi, hz0, hz1, hz2⟩ := info_parts info_f32
  go_enter Tryd.func20, Tryd.ntmps20
  go_wp2_with (at_make; refine wpList_make_full _ rfl _ _ 31 rfl w.heap.size 55 i0 (.float .f32 0) 1 Tryd.underlying31 hi hz0 hz1 _ _ _ _ n rfl rfl rfl rfl (by rw [hz2]; omega) (by unfold maxLen; omega) (Nat.le_refl _) ?_; intro w1 hown hgrow)
  go_loopw [4] (fun i wr => ∃ k : Nat, k ≤ n ∧ i = .int .i64 k ∧ Below w.heap.size w wr ∧ ∃ ys, wr.ownsRow w.heap.size 55 1 (.slice (some ⟨w.heap.size, 0, none⟩) n n) n ys ∧ Copied ys (fun j => .float .f32 (f j)) k) (fun i _ => n - (intOf i).toNat)
  case atStart => exact ⟨0, Nat.zero_le _, rfl, (Below.refl _ w).grown hgrow (Nat.le_refl _) (fun k hk => by cases hk), _, hown, fun j hj => absurd hj (by omega)⟩
  case round =>
    obtain ⟨k, hk, rfl, hb, ys, hys, hm⟩ := hrel
    by_cases hlt : k < n
    · obtain ⟨b, off, rfl, hbB, hc⟩ := h (by omega)
      have hc1 : wr.cell? ⟨b, off + k, none⟩ = some (.float .f32 (f k)) := (hb.cell (p := ⟨b, off + k, none⟩) (by simp; omega)).trans (hc k hlt)
      have hlen := own_len hys
      have hc0 := hys.cellAt k (by omega)
      have hf0 := hys.frozenAt k
      obtain ⟨u, hu⟩ : ∃ u, ys[k]? = some u := ⟨_, List.getElem?_eq_getElem (by omega)⟩
      rw [hu] at hc0
      have HH := Lib.hid (And.intro (hys.stored k (.float .f32 (f k))) (hm.set (by omega)))
      have hbs : Below w.heap.size w (wr.setCell ⟨w.heap.size, k, none⟩ (.float .f32 (f k))) := hb.setCell (Nat.le_refl _) _
      clear hm hys hlen hu hc h hown hgrow
      go_wp2
      go_roundw
      case rel => exact ⟨k + 1, by omega, by go_num, hbs, _, HH.out.1.1, HH.out.2⟩
      case measure => simp [intOf]; omega
    · have hke : k = n := by omega
      subst hke
      clear hlt
      go_wp2
      go_ret
      exact ⟨_, rfl, hb, _, hys, hm⟩
end Go.Proofs.YtdbcajiagjeplaaDoor
