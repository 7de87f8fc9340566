/- Contracts of the laws' own helpers on []float32: eqFloat32S at equal slices, toFloat32S. -/
import Derived.Test.YtdbcajiagjeplaaGreatDoorZWNum
import Derived.Test.YtdbcajiagjeplaaGreatDoorZRow
import Derived.Deep.RegionWith
import Derived.Laws.Entries
import Derived.Test.YtdbcajiagjeplaaGreatDoorZWFrom
import Derived.Test.YtdbcajiagjeplaaGreatDoorZWSrc2
set_option linter.unusedVariables false
set_option linter.unusedSimpArgs false
namespace Go.Proofs.YtdbcajiagjeplaaGreatDoor
open Go.RowKit

/-- The word that a NaN gets, widened in the world w. -/
def nanWide (w : World) (b : Nat) : Nat := (Question.nanConv .f64 b).cut (w.tape w.drawn (.nanConv .f64 b))
theorem nanWide_is (w : World) (b : Nat) : FIs .f64 (nanWide w b) none := FIs.mk (val_nanConvCut .f64 b _) (nanConvCut_lt .f64 b _)

theorem run_wide_nan {b : Nat} (hn : (FloatKind.f32.decode b).isNaN = true) (w : World) : (convert 24 44 (.float .f32 b)).run Tryz.prog w = .ok (.float .f64 (nanWide w b)) w.drew := by
  have hd' : ∃ s f, FloatKind.f32.decode b = .nan s f := by
    revert hn; cases FloatKind.f32.decode b <;> simp [Ieee.Datum.isNaN]
  obtain ⟨s, f, hd'⟩ := hd'
  simp [convert, run_underlying Tryz.underlying24, run_underlying Tryz.underlying44, Conv.floatToFloat, hd', Question.forced]
  rfl
theorem run_wide_num {b : Nat} (hn : (FloatKind.f32.decode b).isNaN = false) (w : World) : (convert 24 44 (.float .f32 b)).run Tryz.prog w = .ok (.float .f64 (FloatKind.f64.encode (FloatKind.f32.decode b))) w :=
  run_convert_float_float w _ _ .f32 .f64 b _ (by rw [Tryz.underlying24]; rfl) Tryz.underlying44 (wide_bits hn)
theorem wide_is {b : Nat} (hn : (FloatKind.f32.decode b).isNaN = false) : FIs .f64 (FloatKind.f64.encode (FloatKind.f32.decode b)) (fwide (val .f32 b)) := by
  rw [val_some hn]; exact FIs.mk (val_some (write_not_nan .f64 _ hn)) (Ieee.Format.write_lt _ _)

theorem quietB {P : Program} {f : FuncId} {args : Array Value} {w : World} {n : Nat} {v : Value} (h : Calls P f args (w.drewN n) fun e w' => e = .returned v ∧ ∃ q, w' = (w.drewN n).drewN q) :
    Calls P f args (w.drewN n) fun e w'' => e = .returned v ∧ ∃ m, w'' = w.drewN m := h.mono fun _ _ ⟨he, q, hq⟩ => ⟨he, n + q, by rw [hq, World.drewN_drewN]⟩
theorem quietC {P : Program} {f : FuncId} {args : Array Value} {w : World} {a n : Nat} {v : Value} (h : Calls P f args (w.drewN (a + n)) fun e w' => e = .returned v ∧ ∃ q, w' = (w.drewN (a + n)).drewN q) :
    Calls P f args (w.drewN (a + n)) fun e w'' => e = .returned v ∧ ∃ m, w'' = w.drewN (a + m) := h.mono fun _ _ ⟨he, q, hq⟩ => ⟨he, n + q, by rw [hq, World.drewN_drewN, Nat.add_assoc]⟩


theorem info_f32 : (Tryz.prog.info? 24).map (fun i => (i.zero, i.size, i.bytes)) = some (some (.float .f32 0), 1, 4) := by kernel_rfl
theorem below_drewN {B : Nat} {a w : World} (h : Below B a w) (n : Nat) : Below B a (w.drewN n) := ⟨h.os, h.tape, h.output, h.size, h.block⟩

/-- The first k elements have been copied. -/
def Copied (ys : List Value) (f : Nat → Value) (k : Nat) : Prop := ∀ j, j < k → ys[j]? = some (f j)
theorem Copied.set {ys : List Value} {f : Nat → Value} {k : Nat} (h : Copied ys f k) (hk : k < ys.length) : Copied (ys.set k (f k)) f (k + 1) := by
  intro j hj
  by_cases e : j = k
  · subst e; simp [hk]
  · rw [List.getElem?_set_ne (by omega)]; exact h j (by omega)
theorem Copied.row {w : World} {B n : Nat} {A : Option Addr} {ys : List Value} {f : Nat → Value} (h : Row w B A n (fun j => ys.getD j undef)) (hc : Copied ys f n) : Row w B A n f :=
  h.congr fun j hj => by rw [List.getD_eq_getElem?_getD, hc j hj]; rfl

@[go_sem] theorem run_store_f (P : Program) (w : World) (a : Addr) (m : Mode) (k : FloatKind) (b : Nat) : (store a (.float k b) m).run P w = stored P w a (.float k b) m := run_store P w a _ m rfl

end Go.Proofs.YtdbcajiagjeplaaGreatDoor
set_option linter.unusedVariables false
set_option linter.unusedSimpArgs false
namespace Go.Proofs.YtdbcajiagjeplaaGreatDoor
open Go.RowKit

/-- Sums and sums of products, from left to right. -/
def sumV (f : Nat → Nat) : Nat → Option Nat
  | 0 => some 0
  | k + 1 => fop .add .f32 (sumV f k) (val .f32 (f k))
def dotV (f g : Nat → Nat) : Nat → Option Nat
  | 0 => some 0
  | k + 1 => fop .add .f32 (dotV f g k) (fop .mul .f32 (val .f32 (f k)) (val .f32 (g k)))

theorem sumV_step {f : Nat → Nat} {k r r2 : Nat} (h : FIs .f32 r (sumV f k)) (h2 : FIs .f32 r2 (fop .add .f32 (val .f32 r) (val .f32 (f k)))) : FIs .f32 r2 (sumV f (k + 1)) := by
  rw [h.out] at h2; exact h2

set_option maxHeartbeats 800000 in
theorem implSum_any (A : Option Addr) (n c B : Nat) (f : Nat → Nat) (w : World) (hn : n ≤ 1048576) (h : Row w B A n (fun j => .float .f32 (f j))) :
    Calls Tryz.prog 48 #[.slice A n c] w fun e w' => RetF .f32 (sumV f n) w e w' := by
  go_enter Tryz.func48, Tryz.ntmps48
  go_wp2
  go_loopw [3, 5, 8] (fun s _ i wr => ∃ k : Nat, k ≤ n ∧ i = .int .i64 k ∧ ∃ r q, s = .float .f32 r ∧ FIs .f32 r (sumV f k) ∧ wr = w.drewN q) (fun _ _ i _ => n - (intOf i).toNat)
  case atStart => exact ⟨0, Nat.zero_le _, rfl, _, 0, rfl, fis_zero, rfl⟩
  case round =>
    obtain ⟨k, hk, rfl, r, q, rfl, hr, rfl⟩ := hrel
    by_cases hlt : k < n
    · obtain ⟨b, off, rfl, _, hc⟩ := h (by omega)
      have h1 : w.cell? ⟨b, off + k, none⟩ = some (.float .f32 (f k)) := hc k hlt
      clear hc h
      go_wp2_with (refine wpList_fop rfl _ _ _ _ _ rfl rfl _ _ _ rfl rfl ?_; intro r2 n2 hr2)
      go_roundw
      case rel => exact ⟨k + 1, by omega, by go_num, _, _, rfl, sumV_step hr hr2, rfl⟩
      case measure => simp [intOf]; omega
    · have hke : k = n := by omega
      subst hke
      clear hlt
      go_wp2
      go_ret
      exact ⟨_, _, rfl, hr, rfl⟩
theorem implSum_yes (A : Option Addr) (n c B : Nat) (f : Nat → Nat) (w : World) (hn : n ≤ 256) (h : Row w B A n (fun j => .float .f32 (f j))) :
    Calls Tryz.prog 12 #[.slice A n c] w fun e w' => RetFB (sumV f n) true w e w' := by
  go_enter Tryz.func12, Tryz.ntmps12
  go_wp2_with (go_at_call 48; refine (implSum_any A n c B f _ (by omega) h).mono ?_; rintro e w' ⟨r, q, rfl, hr, rfl⟩)
  go_ret2
  exact ⟨_, _, rfl, hr, rfl⟩
theorem implSum_no (A : Option Addr) (n c : Nat) (w : World) (hn : 256 < n) : Calls Tryz.prog 12 #[.slice A n c] w fun e w' => RetFB (some 0) false w e w' := by
  go_enter Tryz.func12, Tryz.ntmps12
  go_wp2_with fail
  go_ret2
  exact ⟨_, 0, rfl, fis_zero, rfl⟩
end Go.Proofs.YtdbcajiagjeplaaGreatDoor
set_option linter.unusedVariables false
set_option linter.unusedSimpArgs false
namespace Go.Proofs.YtdbcajiagjeplaaGreatDoor
open Go.RowKit

/-- A float is drawn; only the source has turned. -/
def DrawnF (w : World) (b : Nat) (A : Option Addr) (n c m : Nat) (e : Ending) (w' : World) : Prop := ∃ r : Nat, e = .returned (.float .f32 r) ∧ r < 4294967296 ∧ Src w' b A n c m ∧ w.grownBy w' (some b)
theorem fis_lt {r : Nat} {v : Option Nat} (h : FIs .f32 r v) : r < 4294967296 := h.2
theorem Src.drewN {w : World} {b : Nat} {A : Option Addr} {n c m : Nat} (h : Src w b A n c m) (q : Nat) : Src (w.drewN q) b A n c m := h.same (fun _ => rfl) (fun _ => rfl)
theorem plain_any (b : Nat) (A : Option Addr) (n c m B : Nat) (f : Nat → Int) (w : World) (hs : Src w b A n c m) (hm : m ≤ 800000) (hr : Bytes w B A n f) (hB : B ≤ b) :
    Calls Tryz.prog 71 #[.pointer (some ⟨b, 0, none⟩)] w fun e w' => DrawnF w b A n c (m + 4) e w' := by
  have hblk := hs.block
  go_enter Tryz.func71, Tryz.ntmps71
  go_wp2_with fail
  refine (pick_any b A n c m B 129 f _ (by omega) (by omega) hs (by omega) hr hB).mono ?_
  rintro e w1 ⟨x, rfl, hx, hs1, hg1⟩
  have hr1 := hr.src hg1 (by omega) hB
  have hx1 : (x : Int) < 129 := by omega
  go_wp2_with fail
  refine (one_any b A n c (m + 2) B 4 f _ (by omega) (by omega) hs1 (by omega) hr1 hB).mono ?_
  rintro e w2 ⟨o, rfl, hs2, hg2⟩
  have H2 := Lib.hid (And.intro hs2 (grown_trans hg1 hg2))
  clear hs1 hg1 hs2 hg2 hr1
  cases o
  all_goals
    go_wp2_with (refine wpList_fop rfl _ _ _ _ _ rfl rfl _ _ _ rfl rfl ?_; intro r q hq)
    go_ret
    exact ⟨_, rfl, fis_lt hq, H2.out.1.drewN _, grown_drewN H2.out.2 _⟩
theorem rowOf (w : World) (e : TypeId) (G : List Nat) : ∀ j, j < G.length → (w.alloc (.cells (G.map fun (x : Nat) => Value.int .i64 (x : Int)).toArray e)).cell? ⟨w.heap.size, j, none⟩ = some (.int .i64 ((G.getD j 0 : Nat) : Int)) := fun j hj => by
  rw [World.cell?_alloc_at _ _ _ _ rfl]
  simp [List.getD_eq_getElem?_getD, List.getElem?_eq_getElem hj]
def G10 : List Nat := [0, 2147483648, 2139095040, 4286578688, 2143289344, 1, 2139095039, 8388608, 8388607, 2147483649]
def G4 : List Nat := [8388608, 2130706432, 1610612736, 536870912]
theorem g10_lt : ∀ j, j < 10 → G10.getD j 0 < 4294967296 := by decide
theorem g4_lt : ∀ j, j < 4 → G4.getD j 0 < 4294967296 := by decide
set_option maxHeartbeats 1600000 in
theorem float_any (b : Nat) (A : Option Addr) (n c m B : Nat) (f : Nat → Int) (w : World) (hs : Src w b A n c m) (hm : m ≤ 700000) (hr : Bytes w B A n f) (hB : B ≤ b) :
    Calls Tryz.prog 42 #[.pointer (some ⟨b, 0, none⟩)] w fun e w' => DrawnF w b A n c (m + 12) e w' := by
  have hblk := hs.block
  have H10 := fun W => rowOf W 2 G10
  have H4 := fun W => rowOf W 2 G4
  have HG := Lib.hid (And.intro H10 H4)
  clear H10 H4
  go_enter Tryz.func42, Tryz.ntmps42
  go_wp2_with fail
  refine (one_any b A n c m B 12 f _ (by omega) (by omega) hs (by omega) hr hB).mono ?_
  rintro e w1 ⟨o, rfl, hs1, hg1⟩
  have hr1 := hr.src hg1 (by omega) hB
  have hz1 := hg1.size
  cases o with
  | false =>
    go_wp2_with fail
    refine (plain_any b A n c (m + 2) B f _ hs1 (by omega) hr1 hB).mono ?_
    rintro e w2 ⟨r, rfl, hr32, hs2, hg2⟩
    go_wp2_with fail
    go_ret
    exact ⟨_, rfl, hr32, hs2.mono (by omega), grown_trans hg1 hg2⟩
  | true =>
    go_wp2_with fail
    refine (pick_any b A n c (m + 2) B 4 f _ (by omega) (by omega) hs1 (by omega) hr1 hB).mono ?_
    rintro e w2 ⟨x, rfl, hx, hs2, hg2⟩
    have hg12 := grown_trans hg1 hg2
    have hr2 := hr.src hg12 (by omega) hB
    have hz2 := hg12.size
    clear hs1 hg1 hg2 hr1 hr
    rcases (by omega : x = 0 ∨ x = 1 ∨ x = 2 ∨ x = 3) with rfl | rfl | rfl | rfl
    · go_wp2_with fail
      refine (among_any b A n c (m + 4) B f (w2.alloc _) w2.heap.size 10 _ (fun j => ((G10.getD j 0 : Nat) : Int)) (by omega) (by simp) (HG.out.1 w2) (by omega) (by omega) (hs2.below ((Below.refl _ _).alloc (Nat.le_refl _) _) (by omega)) (by omega) (hr2.below ((Below.refl _ _).alloc (by omega) _)) hB).mono ?_
      rintro e w3 ⟨j, hj, rfl, hs3, hg3⟩
      go_wp2_with fail
      refine (l01From_any _ (g10_lt j hj) _).mono ?_
      rintro e w' ⟨rfl, rfl⟩
      go_wp2_with fail
      go_ret
      exact ⟨_, rfl, g10_lt j hj, hs3.mono (by omega), grown_trans hg12 (grown_trans (World.grownBy_alloc _ _ _) hg3)⟩
    · go_wp2_with fail
      refine (pick_any b A n c (m + 4) B 65536 f _ (by omega) (by omega) hs2 (by omega) hr2 hB).mono ?_
      rintro e w3 ⟨y, rfl, hy, hs3, hg3⟩
      have hr3 := hr2.src hg3 (by omega) hB
      have hy1 : (y : Int) < 65536 := by omega
      go_wp2_with fail
      refine (pick_any b A n c (m + 6) B 65536 f _ (by omega) (by omega) hs3 (by omega) hr3 hB).mono ?_
      rintro e w4 ⟨z, rfl, hz, hs4, hg4⟩
      have hz1 : (z : Int) < 65536 := by omega
      have hl := l01From_any (y * 65536 + z) (by omega)
      go_wp2_with fail
      refine (hl _).mono ?_
      rintro e w' ⟨rfl, rfl⟩
      go_wp2_with fail
      go_ret
      exact ⟨_, rfl, by omega, hs4.mono (by omega), grown_trans hg12 (grown_trans hg3 hg4)⟩
    · go_wp2_with fail
      refine (pick_any b A n c (m + 4) B 65536 f _ (by omega) (by omega) hs2 (by omega) hr2 hB).mono ?_
      rintro e w3 ⟨y, rfl, hy, hs3, hg3⟩
      have hy1 : (y : Int) < 65536 := by omega
      have hl := l01From_any (y * 65536) (by omega)
      go_wp2_with fail
      refine (hl _).mono ?_
      rintro e w' ⟨rfl, rfl⟩
      go_wp2_with fail
      go_ret
      exact ⟨_, rfl, by omega, hs3.mono (by omega), grown_trans hg12 hg3⟩
    · go_wp2_with fail
      refine (plain_any b A n c (m + 4) B f _ hs2 (by omega) hr2 hB).mono ?_
      rintro e w3 ⟨r, rfl, hr32, hs3, hg3⟩
      have hg13 := grown_trans hg12 hg3
      have hr3 := hr2.src hg3 (by omega) hB
      have hz3 := hg13.size
      go_wp2_with fail
      refine (among_any b A n c (m + 8) B f (w3.alloc _) w3.heap.size 4 _ (fun j => ((G4.getD j 0 : Nat) : Int)) (by omega) (by simp) (HG.out.2 w3) (by omega) (by omega) (hs3.below ((Below.refl _ _).alloc (Nat.le_refl _) _) (by omega)) (by omega) (hr3.below ((Below.refl _ _).alloc (by omega) _)) hB).mono ?_
      rintro e w4 ⟨j, hj, rfl, hs4, hg4⟩
      go_wp2_with fail
      refine (l01From_any _ (g4_lt j hj) _).mono ?_
      rintro e w' ⟨rfl, rfl⟩
      have HS := Lib.hid (And.intro hs4 (grown_trans hg13 (grown_trans (World.grownBy_alloc _ _ _) hg4)))
      clear hs4 hg4 hg13 hg3 hs3 hg12 hs2
      go_wp2_with (refine wpList_fop rfl _ _ _ _ _ rfl rfl _ _ _ rfl rfl ?_; intro r2 q hq)
      go_ret
      exact ⟨_, rfl, fis_lt hq, (HS.out.1.drewN _).mono (by omega), grown_drewN HS.out.2 _⟩
/-- A float is drawn; nothing that was there has turned. -/
def RetDF (w : World) (e : Ending) (w' : World) : Prop := ∃ r : Nat, e = .returned (.float .f32 r) ∧ r < 4294967296 ∧ Below w.heap.size w w'
theorem b10Number_any (A : Option Addr) (n c : Nat) (f : Nat → Int) (w : World) (hr : Bytes w w.heap.size A n f) : Calls Tryz.prog 6 #[.slice A n c] w fun e w' => RetDF w e w' := by
  go_enter Tryz.func6, Tryz.ntmps6
  go_wp2_with fail
  refine (from_any A n c _).mono ?_
  rintro e w1 ⟨rfl, hs1, hb1, hz1⟩
  have hr1 := hr.below hb1
  go_wp2_with fail
  refine (one_any w.heap.size A n c 0 w.heap.size 2 f _ (by omega) (by omega) hs1 (by omega) hr1 (Nat.le_refl _)).mono ?_
  rintro e w2 ⟨o, rfl, hs2, hg2⟩
  have hb2 := hb1.trans (below_src hg2 (by omega) (Nat.le_refl _))
  have hr2 := hr.below hb2
  have hz2 := hg2.size
  cases o with
  | true =>
    go_wp2_with fail
    refine (pick_any w.heap.size A n c 2 w.heap.size 65536 f _ (by omega) (by omega) hs2 (by omega) hr2 (Nat.le_refl _)).mono ?_
    rintro e w3 ⟨y, rfl, hy, hs3, hg3⟩
    have hb3 := hb2.trans (below_src hg3 (by omega) (Nat.le_refl _))
    have hr3 := hr.below hb3
    have hz3 := hg3.size
    have hy1 : (y : Int) < 65536 := by omega
    go_wp2_with fail
    refine (pick_any w.heap.size A n c 4 w.heap.size 65536 f _ (by omega) (by omega) hs3 (by omega) hr3 (Nat.le_refl _)).mono ?_
    rintro e w4 ⟨z, rfl, hz, hs4, hg4⟩
    have hb4 := hb3.trans (below_src hg4 (by omega) (Nat.le_refl _))
    have hz1 : (z : Int) < 65536 := by omega
    have hl := l01From_any (y * 65536 + z) (by omega)
    go_wp2_with fail
    refine (hl _).mono ?_
    rintro e w' ⟨rfl, rfl⟩
    go_wp2_with fail
    go_ret
    exact ⟨_, rfl, by omega, hb4⟩
  | false =>
    go_wp2_with fail
    refine (float_any w.heap.size A n c 2 w.heap.size f _ hs2 (by omega) hr2 (Nat.le_refl _)).mono ?_
    rintro e w3 ⟨r, rfl, hr32, hs3, hg3⟩
    go_wp2_with fail
    go_ret
    exact ⟨_, rfl, hr32, hb2.trans (below_src hg3 (by omega) (Nat.le_refl _))⟩
end Go.Proofs.YtdbcajiagjeplaaGreatDoor
