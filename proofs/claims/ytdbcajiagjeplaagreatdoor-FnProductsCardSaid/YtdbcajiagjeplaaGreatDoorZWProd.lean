/- Small facts for FnProducts: bytes, quiet calls, rows of two. -/
import Derived.Test.YtdbcajiagjeplaaGreatDoorZWSrc4
import Derived.Test.YtdbcajiagjeplaaGreatDoorZWNTx
import Derived.Test.YtdbcajiagjeplaaGreatDoorZWNRd3
import Derived.Test.YtdbcajiagjeplaaGreatDoorZOpenE
import Derived.Laws.Cover3
import Derived.Deep.QuietTactic
import Derived.BigQuiet
import Derived.Test.YtdbcajiagjeplaaGreatDoorZWCRd
import Derived.Test.YtdbcajiagjeplaaGreatDoorZWRoot
import Derived.Test.YtdbcajiagjeplaaGreatDoorZWNum
import Derived.Test.YtdbcajiagjeplaaGreatDoorZWCsrc2
import Derived.Laws.ComplexArith
set_option linter.unusedVariables false
set_option linter.unusedSimpArgs false
namespace Go.Proofs.YtdbcajiagjeplaaGreatDoor
open Ieee Go.RowKit near
theorem val_bits (v : Option Nat) (x : Nat) (h : val .f32 x = v) : val .f32 (bitsN v) = v := by
  cases v with
  | none => show val .f32 2143289344 = none; decide
  | some b => obtain ⟨rfl, _⟩ := val_eq_some h; exact h
theorem hexN_comma (k n : Nat) : ∀ c ∈ hexN k n, c ≠ 44 := fun c hc => by
  obtain ⟨d, hd, rfl⟩ := hexN_mem k n c hc
  have key : ∀ d : Fin 16, hdig d.val ≠ 44 := by decide
  exact key ⟨d, hd⟩
theorem bytes_of {w : World} {B n : Nat} {A : Option Addr} {f : Nat → Int} (hr : Row w B A n (fun j => .int .u8 (f j))) (hw : ∀ j, j < n → (Lit.int .u8 (f j)).wf = true) (hn : n ≤ 1048576) : Bytes w B A n f := by
  refine ⟨hr, fun j hj => ?_, hn⟩
  have h1 : IntKind.u8.min ≤ f j ∧ f j ≤ IntKind.u8.max := by simpa [Lit.wf] using hw j hj
  have h2 : IntKind.u8.min = 0 := by decide
  have h3 : IntKind.u8.max = 255 := by decide
  omega
theorem same_yes {x y : Nat} {v : Option Nat} (hx : FIs .f32 x v) (hy : FIs .f32 y v) (w : World) : Calls Tryz.prog 15 #[.float .f32 x, .float .f32 y] w fun e w' => e = .returned (.bool true) ∧ w = w' := by
  refine (specSameNumber_any x y hx.lt32 hy.lt32 w).mono ?_
  rintro e w' ⟨rfl, rfl⟩
  rw [hx.out, hy.out]
  exact ⟨by simp, rfl⟩
theorem quietE {P : Program} {f : FuncId} {args : Array Value} {w : World} {n : Nat} {v : Value} (h : Calls P f args (w.drewN n) fun e w' => e = .returned v ∧ w.drewN n = w') :
    Calls P f args (w.drewN n) fun e w'' => e = .returned v ∧ ∃ m, w'' = w.drewN m := h.mono fun _ _ ⟨he, hq⟩ => ⟨he, n, hq.symm⟩
theorem quietF {P : Program} {f : FuncId} {args : Array Value} {w : World} {a n : Nat} {v : Value} (h : Calls P f args (w.drewN (a + n)) fun e w' => e = .returned v ∧ w.drewN (a + n) = w') :
    Calls P f args (w.drewN (a + n)) fun e w'' => e = .returned v ∧ ∃ m, w'' = w.drewN (a + m) := h.mono fun _ _ ⟨he, hq⟩ => ⟨he, n, hq.symm⟩
theorem below_any {w w' : World} (h : Below w.heap.size w w') (n : Nat) : Below w.heap.size w (w'.drewN n) := ⟨h.os, h.tape, h.output, h.size, h.block⟩
theorem row_two (w : World) (x y : Nat) (e : TypeId) : Row (w.alloc (.cells #[.float .f32 x, .float .f32 y] e)) (w.heap.size + 1) (some ⟨w.heap.size, 0, none⟩) 2 (fun j => .float .f32 ((fun j => if j = 0 then x else y) j)) := by
  intro _
  refine ⟨w.heap.size, 0, rfl, by omega, fun j hj => ?_⟩
  rw [World.cell?_alloc_at _ _ _ _ rfl]
  rcases (show j = 0 ∨ j = 1 by omega) with rfl | rfl <;> rfl
theorem anyB_two (p : Nat → Bool) (x y : Nat) : anyB p (fun j => if j = 0 then x else y) 2 = (p x || p y) := by simp [anyB, List.range_succ]
end Go.Proofs.YtdbcajiagjeplaaGreatDoor
set_option linter.unusedVariables false
set_option linter.unusedSimpArgs false
namespace Go.Proofs.YtdbcajiagjeplaaGreatDoor
open Ieee Go.RowKit Go.Lib near

/-- The text of a complex number. -/
def hxC (f : Nat → Nat × Nat) (j : Nat) : List UInt8 := hexN 8 (bitsN (val .f32 (f j).1)) ++ hexN 8 (bitsN (val .f32 (f j).2))
theorem hxC_len (f : Nat → Nat × Nat) (j : Nat) : (hxC f j).length = 16 := by unfold hxC; rw [List.length_append, hexN_len, hexN_len]
theorem glueC (a b : List UInt8) : (⟨a.toArray⟩ ++ ⟨b.toArray⟩ : ByteArray) = ⟨(a ++ b).toArray⟩ := by
  apply ByteArray.ext
  simp [ByteArray.data_append]
set_option maxRecDepth 20000 in
set_option maxHeartbeats 1600000 in
theorem implComplexText_any (A : Option Addr) (n c : Nat) (f : Nat → Nat × Nat) (hn : n ≤ 256) (hf : ∀ j, j < n → (f j).1 < 4294967296 ∧ (f j).2 < 4294967296) (w : World) (h : Row w w.heap.size A n (fun j => cxv (f j))) (ht : Tz w) :
    Calls Tryz.prog 30 #[.slice A n c] w fun e w' => e = .returned (.tuple #[.string ⟨(txGL (hxC f) n).toArray⟩, .bool true]) ∧ Below w.heap.size w w' := by
  obtain ⟨i0, hi0, hz0, hz1, hz2⟩ := info_parts info_s
  have g0 : ¬ (256 : Int) < (n : Int) := by omega
  go_enter Tryz.func30, Tryz.ntmps30
  go_wp2_with fail
  go_loopw [4, 13] (fun wv iv wr => ∃ i : Nat, i ≤ n ∧ iv = .int .i64 (i : Int) ∧ wr.ownsRow w.heap.size 9 1 wv i (svG (hxC f) i) ∧ Below w.heap.size w wr) (fun _ iv _ => n - (Go.RowKit.intOf iv).toNat)
  case atStart => exact ⟨0, by omega, rfl, own_empty _ _, (Below.refl _ _).alloc (Nat.le_refl _) _⟩
  case round =>
    obtain ⟨i, hi, rfl, ho, hw⟩ := hrel
    by_cases hlt : i < n
    · obtain ⟨b, off, rfl, hb, hc⟩ := h (by omega)
      have hcell : wr.cell? ⟨b, off + i, none⟩ = some (.complex .f32 (f i).1 (f i).2) := (hw.cell (p := ⟨b, off + i, none⟩) hb).trans (hc i hlt)
      have g3 : (i : Int) < (n : Int) := by omega
      obtain ⟨hf1, hf2⟩ := hf i hlt
      have hHF := Lib.hid (show hxC f i = hexN 8 (bitsN (val .f32 (f i).1)) ++ hexN 8 (bitsN (val .f32 (f i).2)) from rfl)
      have l1 := hexN_len 8 (bitsN (val .f32 (f i).1))
      have l2 := hexN_len 8 (bitsN (val .f32 (f i).2))
      have hx1 := fun W hT => implHex_any (f i).1 hf1 W hT
      have hx2 := fun W hT => implHex_any (f i).2 hf2 W hT
      have HX := Lib.hid (And.intro hx1 hx2)
      clear hc hx1 hx2
      generalize (f i).1 = x1 at *
      generalize (f i).2 = x2 at *
      generalize hexN 8 (bitsN (val .f32 x1)) = t1 at *
      generalize hexN 8 (bitsN (val .f32 x2)) = t2 at *
      go_wp2_with fail
      refine (HX.out.1 _ (ht.below (Nat.le_refl _) hw)).mono ?_
      rintro e w1 ⟨rfl, hb1⟩
      have ho1 := own_below ho hb1
      have hw1 := hw.trans (hb1.mono hw.size)
      go_wp2_with fail
      refine (HX.out.2 _ (ht.below (Nat.le_refl _) hw1)).mono ?_
      rintro e w2 ⟨rfl, hb2⟩
      have ho2 := own_below ho1 hb2
      have hw2 := hw1.trans (hb2.mono hw1.size)
      have HS := hw2.size
      have hgl := glueC t1 t2
      rw [← hHF.out] at hgl
      go_wp2_with (at_builtin; go_must (refine wpList_append_own_at _ rfl (.tmp 17) (.tmp 25) 73 rfl w.heap.size 9 i0 (.string ⟨#[]⟩) 1 16 Tryz.underlying73 hi0 hz0 hz1 hz2 rfl (by decide) _ i (svG (hxC f) i) rfl (ho2.alloc _) ⟨w2.heap.size, 0, none⟩ 1 1 [.string ⟨(hxC f i).toArray⟩] rfl rfl (new_one _ _ _) (sv_one _) (by unfold maxLen; omega) (by omega) (by simp; omega) ?_); intro v' w3 hown3 hgr3 _ hblk3)
      have hb3 := step_below hw2 ho2 hgr3
      go_roundw
      case rel => exact ⟨i + 1, by omega, rfl, by rw [svG_succ]; exact hown3, hb3⟩
      case measure => simp [Go.RowKit.intOf]; omega
    · obtain rfl : i = n := by omega
      go_wp2_with fail
      refine (listOrNone_gen _ (hxC f) i hn (fun j _ => by rw [hxC_len]; omega) _ w.heap.size hw.size ho).mono ?_
      rintro e w2 ⟨rfl, hb2⟩
      go_wp2_with fail
      go_ret2
      exact ⟨rfl, hw.trans (hb2.mono hw.size)⟩
/-- The complex numbers' text is read back. -/
theorem hxC_comma (f : Nat → Nat × Nat) (j : Nat) : ∀ c ∈ hxC f j, c ≠ 44 := fun c hc => by
  rcases List.mem_append.1 hc with h | h
  · exact hexN_comma _ _ c h
  · exact hexN_comma _ _ c h
theorem cread_back (f : Nat → Nat × Nat) (n : Nat) (hn : n ≤ 256) (hf : ∀ j, j < n → (f j).1 < 4294967296 ∧ (f j).2 < 4294967296) : cplxOf (txGL (hxC f) n) = some ((List.range n).map fun j => (bitsN (val .f32 (f j).1), bitsN (val .f32 (f j).2))) := by
  match n, hn, hf with
  | 0, _, _ => exact listG_none rfl
  | k + 1, hn, hf =>
    have hne : ¬ txGL (hxC f) (k + 1) = [110, 111, 110, 101] := by
      intro e
      have h1 := congrArg cuts e
      rw [show txGL (hxC f) (k + 1) = txG (hxC f) k from rfl, cuts_txG (hxC f) (fun j => hxC_comma _ _)] at h1
      have h2 := congrArg (fun l => l.head?) h1
      rw [List.range_succ_eq_map] at h2
      simp only [List.map_cons, List.head?_cons] at h2
      have h3 := Option.some.inj (h2.trans (show (cuts [110, 111, 110, 101]).head? = some [110, 111, 110, 101] by decide))
      have h4 := congrArg List.length h3
      rw [hxC_len] at h4
      simp at h4
    have hc : cuts (txGL (hxC f) (k + 1)) = (List.range (k + 1)).map (hxC f) := cuts_txG (hxC f) (fun j => hxC_comma _ _) k
    have hl : (cuts (txGL (hxC f) (k + 1))).length = k + 1 := by rw [hc]; simp
    have hd : ∀ j, j < k + 1 → decC (hxC f j) = some (bitsN (val .f32 (f j).1), bitsN (val .f32 (f j).2)) := fun j hj => by
      refine decC_yes (hxC_len f j) (decX_some ?_ (bitsN_lt (hf j hj).1) (canon (f j).1)) (decX_some ?_ (bitsN_lt (hf j hj).2) (canon (f j).2))
      · unfold hxC; rw [List.take_append_of_le_length (by rw [hexN_len]; omega), List.take_of_length_le (by rw [hexN_len]; omega)]
      · unfold hxC; rw [List.drop_append_of_le_length (by rw [hexN_len]; omega), List.drop_of_length_le (by rw [hexN_len]; omega), List.nil_append]
    refine listG_yes (i := k + 1) hne (by omega) ⟨by omega, ?_⟩ (by omega)
    rw [List.take_of_length_le (by omega), hc, List.map_map, List.map_map]
    exact List.map_congr_left fun j hj => hd j (List.mem_range.1 hj)
theorem cxText_size (f : Nat → Nat × Nat) (n : Nat) (hn : n ≤ 256) : (⟨(txGL (hxC f) n).toArray⟩ : ByteArray).size ≤ 1048576 := by
  show (txGL (hxC f) n).toArray.size ≤ _
  rw [List.size_toArray]
  match n, hn with
  | 0, _ =>
    show ([110, 111, 110, 101] : List UInt8).length ≤ _
    decide
  | k + 1, hn =>
    have := txG_len (g := hxC f) (m := 16) (k := k) (fun j _ => by rw [hxC_len]; omega)
    show (txG _ k).length ≤ _
    omega
end Go.Proofs.YtdbcajiagjeplaaGreatDoor
set_option linter.unusedVariables false
set_option linter.unusedSimpArgs false
namespace Go.Proofs.YtdbcajiagjeplaaGreatDoor
open Ieee Go.RowKit near
theorem creal_run (ts : Array TypeId) (t : TypeId) (a b : Nat) (W : World) : (Builtin.real_ ts t #[.complex .f32 a b]).run Tryz.prog W = .ok (.float .f32 a) W := rfl
theorem cimag_run (ts : Array TypeId) (t : TypeId) (a b : Nat) (W : World) : (Builtin.imag_ ts t #[.complex .f32 a b]).run Tryz.prog W = .ok (.float .f32 b) W := rfl
theorem bits_yes {x y : Nat} {v : Option Nat} (hx : FIs .f32 x v) (hy : FIs .f32 y v) : (bitsZ (val .f32 x) == bitsZ (val .f32 y)) = true := by rw [hx.out, hy.out]; simp
theorem l01Same_yes {x y : Nat} {v : Option Nat} (hx : FIs .f32 x v) (hy : FIs .f32 y v) (w : World) : Calls Tryz.prog 53 #[.float .f32 x, .float .f32 y] w fun e w' => e = .returned (.bool true) ∧ w = w' := by
  refine (specSame_any x y hx.lt32 hy.lt32 w).mono ?_
  rintro e w' ⟨rfl, rfl⟩
  rw [bits_yes hx hy]
  exact ⟨rfl, rfl⟩
theorem specCSame_yes {x y x' y' : Nat} {u v : Option Nat} (hx : FIs .f32 x u) (hy : FIs .f32 y v) (hx' : FIs .f32 x' u) (hy' : FIs .f32 y' v) (w : World) : Calls Tryz.prog 67 #[.complex .f32 x y, .complex .f32 x' y'] w fun e w' => e = .returned (.bool true) ∧ w = w' := by
  have H1 := Lib.hid (fun W => l01Same_yes hx hx' W)
  have H2 := Lib.hid (fun W => l01Same_yes hy hy' W)
  have HC : ∀ W, Calls Tryz.prog 86 #[.complex .f32 x y, .complex .f32 x' y'] W fun e w' => e = .returned (.bool true) ∧ W = w' := fun W => by
    clear hx hy hx' hy'
    have hre := creal_run
    have him := cimag_run
    go_enter Tryz.func86, Tryz.ntmps86
    go_wp2_with fail
    refine (H1.out _).mono ?_
    rintro e w' ⟨rfl, rfl⟩
    go_wp2_with fail
    refine (H2.out _).mono ?_
    rintro e w' ⟨rfl, rfl⟩
    go_wp2_with fail
    go_ret
    exact ⟨rfl, rfl⟩
  have H := Lib.hid HC
  clear hx hy hx' hy' H1 H2 HC
  go_enter Tryz.func67, Tryz.ntmps67
  go_wp2_with fail
  refine (H.out _).mono ?_
  rintro e w' ⟨rfl, rfl⟩
  go_wp2_with fail
  go_ret
  exact ⟨rfl, rfl⟩
theorem implSameNo_yes {x y : Nat} {v : Option Nat} (hx : FIs .f32 x v) (hy : FIs .f32 y v) (w : World) : Calls Tryz.prog 68 #[.float .f32 x, .float .f32 y] w fun e w' => e = .returned (.bool true) ∧ ∃ n, w' = w.drewN n := by
  refine (implSame_any x y hx.lt32 hy.lt32 w).mono ?_
  rintro e w' ⟨rfl, n, rfl⟩
  rw [bits_yes hx hy]
  exact ⟨rfl, n, rfl⟩
theorem implCSame_yes {x y x' y' : Nat} {u v : Option Nat} (hx : FIs .f32 x u) (hy : FIs .f32 y v) (hx' : FIs .f32 x' u) (hy' : FIs .f32 y' v) (w : World) : Calls Tryz.prog 34 #[.complex .f32 x y, .complex .f32 x' y'] w fun e w' => e = .returned (.bool true) ∧ ∃ n, w' = w.drewN n := by
  have H1 := Lib.hid (fun W => implSameNo_yes hx hx' W)
  have H2 := Lib.hid (fun W => implSameNo_yes hy hy' W)
  clear hx hy hx' hy'
  have hre := creal_run
  have him := cimag_run
  go_enter Tryz.func34, Tryz.ntmps34
  go_wp2_with fail
  refine (H1.out _).mono ?_
  rintro e w' ⟨rfl, n1, rfl⟩
  go_wp2_with fail
  refine (H2.out _).mono ?_
  rintro e w' ⟨rfl, n2, rfl⟩
  go_wp2_with fail
  go_ret
  exact ⟨rfl, _, rfl⟩
theorem implCNarrow_any (x y : Nat) (h1 : fitsNarrow (val .f64 x)) (h2 : fitsNarrow (val .f64 y)) (w : World) : Calls Tryz.prog 35 #[.complex .f64 x y] w fun e w' => ∃ r s, e = .returned (.complex .f32 r s) ∧ FIs .f32 r (fnarrow (val .f64 x)) ∧ FIs .f32 s (fnarrow (val .f64 y)) ∧ ∃ n, w' = w.drewN n := by
  have H1 := Lib.hid h1
  have H2 := Lib.hid h2
  clear h1 h2
  have hre := real_run
  have him := imag_run
  go_enter Tryz.func35, Tryz.ntmps35
  go_wp2_with (first | (refine wpList_narrow rfl _ _ _ rfl (by kernel_rfl) (by kernel_rfl) _ rfl H1.out ?_; intro r n hr) | (refine wpList_narrow rfl _ _ _ rfl (by kernel_rfl) (by kernel_rfl) _ rfl H2.out ?_; intro s m hs))
  go_ret
  exact ⟨_, _, rfl, hr, hs, _, rfl⟩
theorem implCFin_any (x y : Nat) (w : World) : Calls Tryz.prog 36 #[.complex .f32 x y] w fun e w' => e = .returned (.bool (finB (val .f32 x) && finB (val .f32 y))) ∧ Below w.heap.size w w' := by
  have HB := Lib.hid (show (!anyB notFin (fun j => if j = 0 then x else y) 2) = (finB (val .f32 x) && finB (val .f32 y)) by rw [anyB_two]; unfold notFin; simp)
  have hre := creal_run
  have him := cimag_run
  go_enter Tryz.func36, Tryz.ntmps36
  go_wp2_with fail
  refine (all_areFinite _ 2 _ _ (fun j => if j = 0 then x else y) _ (by omega) (row_two w x y _)).mono ?_
  rw [HB.out]
  rintro e w' ⟨rfl, q, rfl⟩
  go_wp2_with fail
  go_ret
  exact ⟨rfl, below_drewN ((Below.refl _ _).alloc (Nat.le_refl _) _) _⟩
end Go.Proofs.YtdbcajiagjeplaaGreatDoor
set_option linter.unusedVariables false
set_option linter.unusedSimpArgs false
namespace Go.Proofs.YtdbcajiagjeplaaGreatDoor
open Ieee Go.RowKit near

theorem sgn_ofInt {n : Int} (h : 0 ≤ n) (hb : n.natAbs < 2 * FloatKind.f32.format.binade) : sgn FloatKind.f32.format (FloatKind.f32.nearest n) = false := by
  by_cases h0 : n = 0
  · subst h0; decide +kernel
  · obtain ⟨m, a, -, -, -, h4⟩ := (isI_of .f32 n hb).parts
    cases hs : sgn FloatKind.f32.format (FloatKind.f32.nearest n) with
    | false => rfl
    | true => rw [hs, if_pos rfl] at h4; omega
theorem zero_i : IsI .f32 0 0 := by
  have h := isI_of .f32 0 (by rw [b32]; omega)
  rwa [show FloatKind.f32.nearest 0 = 0 by decide +kernel] at h
theorem eq_of {x y : Nat} {m n : Int} (h1 : IsI .f32 x m) (h2 : IsI .f32 y n) (h : m = n) : (FloatKind.f32.format.order x y == some .eq) = true := by rw [h1.order h2, decide_eq_true h]
def I32 (n : Int) : Prop := n.natAbs ≤ 200
/-- What is answered at the words of a + bi and c + di. -/
structure Prods (a b c d : Int) (xr xi yr yi X Y P p q p2 q2 pw m n r s r' s' : Nat) : Prop where
  mul : ∀ w : World, Calls Tryz.prog 22 #[.complex .f32 xr xi, .complex .f32 yr yi] w fun e w' => e = .returned (.complex .f32 p q) ∧ w = w'
  mul2 : ∀ w : World, Calls Tryz.prog 22 #[.complex .f32 yr yi, .complex .f32 xr xi] w fun e w' => e = .returned (.complex .f32 p2 q2) ∧ w = w'
  pow : ∀ w : World, Calls Tryz.prog 23 #[.complex .f32 xr xi] w fun e w' => e = .returned (.float .f32 pw) ∧ w = w'
  conj : ∀ w : World, Calls Tryz.prog 24 #[.complex .f32 xr xi] w fun e w' => e = .returned (.complex .f32 xr (Op.negFloat .f32 xi)) ∧ w = w'
  mulc : ∀ w : World, Calls Tryz.prog 22 #[.complex .f32 xr xi, .complex .f32 xr (Op.negFloat .f32 xi)] w fun e w' => e = .returned (.complex .f32 m n) ∧ w = w'
  long : ∀ w : World, Calls Tryz.prog 25 #[.complex .f32 xr xi] w fun e w' => RetF .f32 (fnarrow (fsqrt (fwide (val .f32 P)))) w e w'
  root : ∀ w : World, Calls Tryz.prog 26 #[.float .f32 P] w fun e w' => RetF .f32 (fnarrow (fsqrt (fwide (val .f32 P)))) w e w'
  scale : ∀ w : World, Calls Tryz.prog 28 #[.complex .f32 xr xi, .float .f32 1073741824] w fun e w' => e = .returned (.complex .f32 r s) ∧ w = w'
  twice : ∀ W : World, (binOp .add 42 (.complex .f32 xr xi) (.complex .f32 xr xi)).run Tryz.prog W = .ok (.complex .f32 r' s') W
  e1 : (FloatKind.f32.format.order p X == some .eq) = true
  e2 : (FloatKind.f32.format.order q Y == some .eq) = true
  e3 : (FloatKind.f32.format.order p2 p == some .eq) = true
  e4 : (FloatKind.f32.format.order q2 q == some .eq) = true
  e5 : (FloatKind.f32.format.order pw P == some .eq) = true
  e6 : (FloatKind.f32.format.order m P == some .eq) = true
  e7 : (FloatKind.f32.format.order n 0 == some .eq) = true
  e8 : (FloatKind.f32.format.order r r' == some .eq) = true
  e9 : (FloatKind.f32.format.order s s' == some .eq) = true
  quot : ¬ (c = 0 ∧ d = 0) → ∃ t u, (∀ w : World, Calls Tryz.prog 27 #[.complex .f32 p q, .complex .f32 yr yi] w fun e w' => e = .returned (.complex .f32 t u) ∧ w = w') ∧ (FloatKind.f32.format.order t xr == some .eq) = true ∧ (FloatKind.f32.format.order u xi == some .eq) = true
theorem prods_ex (a b c d : Int) (ha : a.natAbs ≤ 200) (hb : b.natAbs ≤ 200) (hc : c.natAbs ≤ 200) (hd : d.natAbs ≤ 200) :
    ∃ p q p2 q2 pw m n r s r' s', Prods a b c d (FloatKind.f32.nearest a) (FloatKind.f32.nearest b) (FloatKind.f32.nearest c) (FloatKind.f32.nearest d) (FloatKind.f32.nearest (a * c - b * d)) (FloatKind.f32.nearest (a * d + b * c)) (FloatKind.f32.nearest (a * a + b * b)) p q p2 q2 pw m n r s r' s' := by
  have h1 := isI_of .f32 a (by rw [b32]; omega)
  have h2 := isI_of .f32 b (by rw [b32]; omega)
  have h3 := isI_of .f32 c (by rw [b32]; omega)
  have h4 := isI_of .f32 d (by rw [b32]; omega)
  have m1 := abs_mul_le ha hc
  have m2 := abs_mul_le hb hd
  have m3 := abs_mul_le ha hd
  have m4 := abs_mul_le hb hc
  have m5 := abs_mul_le ha ha
  have m6 := abs_mul_le hb hb
  have hX := isI_of .f32 (a * c - b * d) (by rw [b32]; omega)
  have hY := isI_of .f32 (a * d + b * c) (by rw [b32]; omega)
  have hP := isI_of .f32 (a * a + b * b) (by rw [b32]; omega)
  have n1 : 0 ≤ a * a := by
    rcases Int.le_total 0 a with h | h
    · exact Int.mul_nonneg h h
    · exact Int.mul_nonneg_of_nonpos_of_nonpos h h
  have n2 : 0 ≤ b * b := by
    rcases Int.le_total 0 b with h | h
    · exact Int.mul_nonneg h h
    · exact Int.mul_nonneg_of_nonpos_of_nonpos h h
  have hs := sgn_ofInt (n := a * a + b * b) (by omega) (by rw [b32]; omega)
  obtain ⟨p, q, ip, iq, k1⟩ := mul_int h1 h2 h3 h4 ha hb hc hd
  obtain ⟨p2, q2, ip2, iq2, k2⟩ := mul_int h3 h4 h1 h2 hc hd ha hb
  obtain ⟨pw, ipw, k3⟩ := powerOf_int h1 h2 ha hb
  obtain ⟨m, n, im, in_, k4⟩ := mul_int h1 h2 h1 h2.neg ha hb ha (by omega)
  obtain ⟨r, s, ir, is, k5⟩ := scale_int h1 h2 ha hb
  obtain ⟨r', s', ir', is', f1, f2⟩ := twice_int h1 h2 ha hb
  refine ⟨p, q, p2, q2, pw, m, n, r, s, r', s', k1, k2, k3, conj_any _ _, k4, long_int h1 h2 ha hb hP hs, specRoot_any _, k5, fun W => ?_, eq_of ip hX rfl, eq_of iq hY rfl, eq_of ip2 ip (by grind), eq_of iq2 iq (by grind), eq_of ipw hP rfl, eq_of im hP (by grind), eq_of in_ zero_i (by grind), eq_of ir ir' (by omega), eq_of is is' (by omega), fun h0 => ?_⟩
  · exact run_complex_sum (P := Tryz.prog) W .add (.inl rfl) 42 .f32 _ _ _ _ r' s' (by unfold cSumBits; rw [f1, f2]; rfl)
  · obtain ⟨t, u, it, iu, k6⟩ := quot_int ip iq h3 h4 ha hb hc hd h0
    exact ⟨t, u, k6, eq_of it h1 rfl, eq_of iu h2 rfl⟩
/-- The words of integers as integers again. -/
theorem toI (a : Int) (ha : a.natAbs ≤ 200) (W : World) : (convert 24 2 (.float .f32 (FloatKind.f32.nearest a))).run Tryz.prog W = .ok (.int .i64 a) W :=
  run_convert_float_int (P := Tryz.prog) W 24 2 .f32 .i64 _ a (by kernel_rfl) (by kernel_rfl) ((isI_of .f32 a (by rw [b32]; omega)).toInt (by omega) (by omega))
/-- Is it zero? -/
theorem zero_test (c d : Int) (hc : c.natAbs ≤ 200) (hd : d.natAbs ≤ 200) : (!((FloatKind.f32.format.order (FloatKind.f32.nearest c) 0 == some .eq) && (FloatKind.f32.format.order (FloatKind.f32.nearest d) 0 == some .eq))) = !(decide (c = 0) && decide (d = 0)) := by
  rw [(isI_of .f32 c (by rw [b32]; omega)).order zero_i, (isI_of .f32 d (by rw [b32]; omega)).order zero_i]
set_option maxHeartbeats 1600000 in
theorem b10Same_yes (A A' : Option Addr) (n c c' : Nat) (f : Nat → Nat × Nat) (B B' : Nat) (w : World) (hn : n ≤ 256) (hf : ∀ j, j < n → (f j).1 < 4294967296 ∧ (f j).2 < 4294967296)
    (h : Row w B A n (fun j => cxv (bitsN (val .f32 (f j).1), bitsN (val .f32 (f j).2)))) (h' : Row w B' A' n (fun j => cxv (f j))) :
    Calls Tryz.prog 33 #[.slice A n c, .slice A' n c'] w fun e w' => e = .returned (.bool true) ∧ ∃ q, w' = w.drewN q := by
  have hne : ((n : Int) != n) = false := by simp
  go_enter Tryz.func33, Tryz.ntmps33
  go_wp2_with fail
  go_loopw [5, 13] (fun _ i wr => ∃ k : Nat, k ≤ n ∧ i = .int .i64 k ∧ ∃ q, wr = w.drewN q) (fun _ i _ => n - (intOf i).toNat)
  case atStart => exact ⟨0, Nat.zero_le _, rfl, 0, rfl⟩
  case round =>
    obtain ⟨k, hk, rfl, q, rfl⟩ := hrel
    by_cases hlt : k < n
    · obtain ⟨b, off, rfl, _, hc⟩ := h (by omega)
      obtain ⟨b', off', rfl, _, hc'⟩ := h' (by omega)
      have h1 : w.cell? ⟨b, off + k, none⟩ = some (.complex .f32 (bitsN (val .f32 (f k).1)) (bitsN (val .f32 (f k).2))) := hc k hlt
      have h2 : w.cell? ⟨b', off' + k, none⟩ = some (.complex .f32 (f k).1 (f k).2) := hc' k hlt
      obtain ⟨f1, f2⟩ := hf k hlt
      have H1 := Lib.hid (show FIs .f32 (bitsN (val .f32 (f k).1)) (val .f32 (f k).1) from FIs.mk (val_bits _ _ rfl) (bitsN_lt f1))
      have H2 := Lib.hid (show FIs .f32 (bitsN (val .f32 (f k).2)) (val .f32 (f k).2) from FIs.mk (val_bits _ _ rfl) (bitsN_lt f2))
      have H3 := Lib.hid (show FIs .f32 (f k).1 (val .f32 (f k).1) from FIs.mk rfl f1)
      have H4 := Lib.hid (show FIs .f32 (f k).2 (val .f32 (f k).2) from FIs.mk rfl f2)
      clear hc hc' h h' f1 f2
      generalize bitsN (val .f32 (f k).1) = x1 at *
      generalize bitsN (val .f32 (f k).2) = x2 at *
      generalize (f k).1 = y1 at *
      generalize (f k).2 = y2 at *
      go_wp2_with fail
      go_quiet ((go_at_call 67; first | exact quietF (specCSame_yes H1.out H2.out H3.out H4.out _) | exact quietE (specCSame_yes H1.out H2.out H3.out H4.out _)))
      go_wp2
      go_roundw
      case rel => exact ⟨k + 1, by omega, by go_num, _, rfl⟩
      case measure => simp [intOf]; omega
    · obtain rfl : k = n := by omega
      go_wp2_with fail
      go_ret
      exact ⟨rfl, _, rfl⟩
end Go.Proofs.YtdbcajiagjeplaaGreatDoor
