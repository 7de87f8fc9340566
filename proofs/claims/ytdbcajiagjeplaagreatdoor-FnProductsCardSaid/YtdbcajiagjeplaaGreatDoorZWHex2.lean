/- The hexadecimal text of a number: the program's: strconv.FormatInt at base 16. -/
import Derived.Test.YtdbcajiagjeplaaGreatDoorZWHex
import Derived.Test.YtdbcajiagjeplaaGreatDoorZShelfR
import Derived.Lib.LaidTab
import Derived.Lib.SmallJoins
import Derived.Lib.TrailingZeros
set_option linter.unusedVariables false
set_option linter.unusedSimpArgs false
namespace Go.Proofs.YtdbcajiagjeplaaGreatDoor
open Go.RowKit

abbrev Tz (w : World) : Prop := Lib.TabIs Tryz.prog w "math/bits.deBruijn64tab" .u8 (Lib.deBruijn64tab.map Int.ofNat)
theorem tz_named : Tryz.prog.globalNamed "math/bits.deBruijn64tab" = some 6 := by kernel_rfl
theorem Tz.below {w w' : World} (h : Tz w) {B : Nat} (hB : w.heap.size ≤ B) (hb : Below B w w') : Tz w' := Go.Joins.tab_stays tz_named h hb hB
theorem Tz.at16 {w : World} (h : Tz w) : w.cell? ⟨6, 15, none⟩ = some (.int .u8 4) := by
  rw [h.cell tz_named 15 (by decide)]
  rfl
theorem isPow_16 (w : World) : Calls Tryz.prog 123 #[.int .i64 16] w fun e w' => e = .returned (.bool true) ∧ w = w' := by
  have h1 : bits .and .i64 16 15 = 0 := by decide
  go_enter Tryz.func123, Tryz.ntmps123
  go_wp2_with fail
  go_ret
  exact ⟨rfl, rfl⟩
theorem tz64_16 (w : World) (h : Tz w) : Calls Tryz.prog 135 #[.int .u64 16] w fun e w' => e = .returned (.int .i64 4) ∧ w = w' := by
  have hc := h.at16
  have key : IntKind.u64.wrap (bits BinOp.and IntKind.u64 16 (IntKind.u64.wrap (-16)) * 285870213051353865) / 288230376151711744 = 15 := by decide
  clear h
  go_enter Tryz.func135, Tryz.ntmps135
  go_wp2_with (simp only [key])
  go_ret
  exact ⟨rfl, rfl⟩
theorem tz_16 (w : World) (h : Tz w) : Calls Tryz.prog 124 #[.int .u64 16] w fun e w' => e = .returned (.int .i64 4) ∧ w = w' := by
  go_enter Tryz.func124, Tryz.ntmps124
  go_wp2_with fail
  refine (tz64_16 _ h).mono ?_
  rintro e w' ⟨rfl, rfl⟩
  go_wp2_with fail
  go_ret
  exact ⟨rfl, rfl⟩
theorem and15u (x : Nat) (h : x < 4294967296) : bits .and .u64 (x : Int) 15 = ((x % 16 : Nat) : Int) := by
  have h1 : (BitVec.ofInt 64 (x : Int)).toNat = x := by rw [BitVec.ofInt_natCast, BitVec.toNat_ofNat]; exact Nat.mod_eq_of_lt (by omega)
  have h2 : (BitVec.ofInt 64 (15 : Int)).toNat = 15 := by decide
  show IntKind.u64.wrap ((BitVec.ofInt 64 (x : Int) &&& BitVec.ofInt 64 15).toNat : Int) = _
  rw [BitVec.toNat_and, h1, h2, show (15 : Nat) = 2 ^ 4 - 1 from rfl, Nat.and_two_pow_sub_one_eq_mod, IntKind.wrap_u64]
  omega
abbrev digB : ByteArray := ⟨#[48, 49, 50, 51, 52, 53, 54, 55, 56, 57, 97, 98, 99, 100, 101, 102, 103, 104, 105, 106, 107, 108, 109, 110, 111, 112, 113, 114, 115, 116, 117, 118, 119, 120, 121, 122]⟩
theorem digB_at (d : Nat) (h16 : d < 16) (h : d < digB.size) : digB[d]'h = hdig d := by
  have key : ∀ d : Fin 16, digB[d.val]'(Nat.lt_of_lt_of_le d.isLt (by decide)) = hdig d.val := by decide
  exact key ⟨d, h16⟩
theorem zeros65 : Tryz.zeroCells141 = (List.replicate 65 (bv 0)).toArray := by kernel_rfl
/-- What the round keeps: the digits d are written, v is left. -/
def HexRel (u v : Nat) (d : List UInt8) (xs : List Value) : Prop := v ≤ u ∧ d.length ≤ 7 ∧ hexU v ++ d = hexU u ∧ xs.length = 65 ∧ xs.drop (65 - d.length) = d.map bv
theorem HexRel.start (u : Nat) : HexRel u u [] (List.replicate 65 (bv 0)) := ⟨Nat.le_refl _, by simp, by simp, by simp, by simp⟩
theorem HexRel.len {u v : Nat} {d : List UInt8} {xs : List Value} (h : HexRel u v d xs) (hu : u < 4294967296) : d.length ≤ 7 := h.2.1
theorem drop_set_one {xs : List Value} {k : Nat} (h : k < xs.length) (v : Value) : (xs.set k v).drop k = v :: xs.drop (k + 1) := by
  rw [List.drop_eq_getElem_cons (by simpa using h), List.getElem_set_self, List.drop_set_of_lt (by omega)]
theorem HexRel.step {u v : Nat} {d : List UInt8} {xs : List Value} (h : HexRel u v d xs) (hu : u < 4294967296) (hv : 16 ≤ v) : HexRel u (v / 16) (hdig (v % 16) :: d) (xs.set (64 - d.length) (.int .u8 (hdig (v % 16)).toNat)) := by
  obtain ⟨h1, h2, h3, h4, h5⟩ := h
  have h6 : hexU (v / 16) ++ hdig (v % 16) :: d = hexU u := by rw [← h3, hexU_big (n := v) (by omega), List.append_assoc]; rfl
  have h7 := (hexU_pad 7 u (by omega)).2.1
  have h8 := (hexU_pad 7 (v / 16) (by omega)).1
  have h9 := congrArg List.length h6
  simp at h9
  refine ⟨by omega, by simp; omega, h6, by simpa using h4, ?_⟩
  rw [List.length_cons, show 65 - (d.length + 1) = 64 - d.length by omega, drop_set_one (by omega), show 64 - d.length + 1 = 65 - d.length by omega, h5]
  rfl
theorem HexRel.last {u v : Nat} {d : List UInt8} {xs : List Value} (h : HexRel u v d xs) (hu : u < 4294967296) (hv : v < 16) : hexU u = hdig v :: d ∧ (xs.set (64 - d.length) (.int .u8 (hdig v).toNat)).drop (64 - d.length) = (hdig v :: d).map bv := by
  obtain ⟨h1, h2, h3, h4, h5⟩ := h
  refine ⟨by rw [← h3, hexU_small hv]; rfl, ?_⟩
  rw [drop_set_one (by omega), show 64 - d.length + 1 = 65 - d.length by omega, h5]
  rfl
theorem own_row65 (w : World) : (w.alloc (.cells Tryz.zeroCells141 141)).ownsRow w.heap.size 141 1 (.slice (some ⟨w.heap.size, 0, none⟩) 65 65) 65 (List.replicate 65 (bv 0)) := by
  rw [zeros65]
  exact ⟨by simp, .inr ⟨w.heap.size, 65, (List.replicate 65 (bv 0)).toArray, rfl, Nat.le_refl _, heap_alloc_new w _, Nat.le_refl _, by unfold maxLen; omega, by simp, by simp⟩⟩
set_option maxRecDepth 20000 in
set_option maxHeartbeats 800000 in
theorem formatBits_any (u : Nat) (hu : u < 4294967296) (w : World) (ht : Tz w) :
    Calls Tryz.prog 103 #[.slice none 0 0, .int .u64 u, .int .i64 16, .bool false, .bool false] w fun e w' => e = .returned (.tuple #[.slice none 0 0, .string ⟨(hexU u).toArray⟩]) ∧ Below w.heap.size w w' := by
  go_enter Tryz.func103, Tryz.ntmps103
  go_wp2_with fail
  refine (isPow_16 _).mono ?_
  rintro e w' ⟨rfl, rfl⟩
  go_wp2_with fail
  refine (tz_16 _ (ht.below (Nat.le_refl _) ((Below.refl _ w).alloc (Nat.le_refl _) _))).mono ?_
  rintro e w' ⟨rfl, rfl⟩
  clear ht
  go_wp2_with fail
  go_loopw [1, 13] (fun vv iv wr => ∃ (v : Nat) (d : List UInt8) (xs : List Value), vv = .int .u64 (v : Int) ∧ iv = .int .i64 (65 - (d.length : Int)) ∧ HexRel u v d xs ∧ wr.ownsRow w.heap.size 141 1 (.slice (some ⟨w.heap.size, 0, none⟩) 65 65) 65 xs ∧ Below w.heap.size w wr) (fun vv _ _ => (Go.RowKit.intOf vv).toNat)
  case atStart => exact ⟨u, [], _, rfl, rfl, HexRel.start u, own_row65 w, (Below.refl _ w).alloc (Nat.le_refl _) _⟩
  case round =>
    obtain ⟨v, d, xs, rfl, rfl, hr, ho, hw⟩ := hrel
    have hvu := hr.1
    have hd7 := hr.len hu
    have hv32 : v < 4294967296 := by omega
    have hxl := own_len ho
    have hcell := ho.cellAt (64 - d.length) (by omega)
    have hfr := ho.frozenAt (64 - d.length)
    obtain ⟨c0, hc0⟩ : ∃ c0, xs[64 - d.length]? = some c0 := ⟨_, List.getElem?_eq_getElem (by omega)⟩
    rw [hc0] at hcell
    have hix : (65 - (d.length : Int) - 1).toNat = 64 - d.length := by omega
    by_cases h16 : 16 ≤ v
    · have g1 : (16 : Int) ≤ (v : Int) := by omega
      obtain ⟨m, hm, hmv⟩ : ∃ m : Nat, bits .and .u64 (v : Int) 15 = (m : Int) ∧ m = v % 16 := ⟨_, and15u v hv32, rfl⟩
      have hm16 : m < 16 := by omega
      have hdg := digB_at m hm16
      have HS := Lib.hid (And.intro (ho.stored (64 - d.length) (.int .u8 (hdig m).toNat)) (by have := hr.step hu h16; rw [← hmv] at this; exact this))
      have HB := Lib.hid (show Below w.heap.size w (wr.setCell ⟨w.heap.size, 64 - d.length, none⟩ (.int .u8 (hdig m).toNat)) from hw.setCell (Nat.le_refl _) _)
      clear hmv hr hxl hc0
      go_wp2_with fail
      go_roundw
      case rel => exact ⟨v / 16, hdig m :: d, _, by rw [Int.natCast_ediv]; rfl, by rw [List.length_cons]; congr 1; omega, HS.out.2, HS.out.1.1, HB.out⟩
      case measure => simp [Go.RowKit.intOf]; omega
    · have g1 : ¬ (16 : Int) ≤ (v : Int) := by omega
      have hv16 : v < 16 := by omega
      have hdg := digB_at v hv16
      have HS := Lib.hid (And.intro (ho.stored (64 - d.length) (.int .u8 (hdig v).toNat)) (hr.last hu hv16))
      have HB := Lib.hid (show Below w.heap.size w (wr.setCell ⟨w.heap.size, 64 - d.length, none⟩ (.int .u8 (hdig v).toNat)) from hw.setCell (Nat.le_refl _) _)
      have hal : Tryz.prog.arrayLen 141 = 65 := by simp [Program.arrayLen, Tryz.underlying141]
      have hsl : ∀ W, (Instr.sliceAt 141 (.pointer (some ⟨w.heap.size, 0, none⟩)) (some (.int .i64 (65 - (d.length : Int) - 1))) none none).run Tryz.prog W = .ok (.slice (some ⟨w.heap.size, 64 - d.length, none⟩) (d.length + 1) (d.length + 1)) W := fun W => by
        rw [run_sliceAt_array_l W 141 ⟨w.heap.size, 0, none⟩ (by simp [Program.arrayLen, Program.elem, Tryz.underlying141]) .i64 (65 - (d.length : Int) - 1) (by omega) (by rw [hal]; omega)]
        go_simp
        omega
      have hcv : (convert 22 9 (.slice (some ⟨w.heap.size, 64 - d.length, none⟩) (d.length + 1) (d.length + 1))).run Tryz.prog (wr.setCell ⟨w.heap.size, 64 - d.length, none⟩ (.int .u8 (hdig v).toNat)) = .ok (.string ⟨(hexU u).toArray⟩) (wr.setCell ⟨w.heap.size, 64 - d.length, none⟩ (.int .u8 (hdig v).toNat)) := by
        have h := run_convert_bytes_back (P := Tryz.prog) (wr.setCell ⟨w.heap.size, 64 - d.length, none⟩ (.int .u8 (hdig v).toNat)) 22 9 5 ⟨w.heap.size, 64 - d.length, none⟩ (d.length + 1) (hdig v :: d) Tryz.underlying22 Tryz.underlying5 Tryz.underlying9 (fun j hj => by
          have h1 := HS.out.1.1.cellAt (64 - d.length + j) (by rw [List.length_cons] at hj; omega)
          rw [Addr.add_lit, h1, ← List.getElem?_drop, HS.out.2.2, List.getElem?_map, List.getElem?_eq_getElem hj]
          rfl)
        rw [HS.out.2.1]
        exact h
      clear hr hxl hc0 hal
      go_wp2_with fail
      go_ret2
      exact ⟨rfl, HB.out⟩
theorem intFormat16 (u : Nat) (hu : u < 4294967296) (w : World) (ht : Tz w) :
    Calls Tryz.prog 88 #[.int .i64 u, .int .i64 16] w fun e w' => e = .returned (.string ⟨(hexU u).toArray⟩) ∧ Below w.heap.size w w' := by
  go_enter Tryz.func88, Tryz.ntmps88
  go_wp2_with fail
  refine (formatBits_any u hu _ ht).mono ?_
  rintro e w' ⟨rfl, hb⟩
  go_wp2_with fail
  go_ret
  exact ⟨rfl, hb⟩
theorem strFormat16 (u : Nat) (hu : u < 4294967296) (w : World) (ht : Tz w) :
    Calls Tryz.prog 75 #[.int .i64 u, .int .i64 16] w fun e w' => e = .returned (.string ⟨(hexU u).toArray⟩) ∧ Below w.heap.size w w' := by
  go_enter Tryz.func75, Tryz.ntmps75
  go_wp2_with fail
  refine (intFormat16 u hu _ ht).mono ?_
  rintro e w' ⟨rfl, hb⟩
  go_wp2_with fail
  go_ret
  exact ⟨rfl, hb⟩
theorem repeat_zero : ∀ c : Nat, Lib.repeatL [48] c = List.replicate c 48
  | 0 => rfl
  | c + 1 => by rw [Lib.repeatL, repeat_zero c]; rfl
theorem glue2 (a b : List UInt8) : (⟨a.toArray⟩ ++ ⟨b.toArray⟩ : ByteArray) = ⟨(a ++ b).toArray⟩ := by
  apply ByteArray.ext
  simp [ByteArray.data_append]
theorem implHex_any (x : Nat) (hx : x < 4294967296) (w : World) (ht : Tz w) : Calls Tryz.prog 49 #[.float .f32 x] w fun e w' => e = .returned (.string ⟨(hexN 8 (bitsN (val .f32 x))).toArray⟩) ∧ Below w.heap.size w w' := by
  have hN := bitsN_lt hx
  have hb := implBitsOf_any x hx
  rw [bitsZ_nat] at hb
  generalize bitsN (val .f32 x) = N at *
  have HB := Lib.hid hb
  clear hb
  obtain ⟨h1, h2, h3⟩ := hexU_pad 7 N (by omega)
  have hrep := Tryz.strings_Repeat ⟨#[48]⟩ (8 - (hexU N).length)
  rw [show (⟨#[48]⟩ : ByteArray).data.toList = [48] from rfl, repeat_zero] at hrep
  have h4 : (8 : Int) - ((hexU N).length : Int) = ((8 - (hexU N).length : Nat) : Int) := by omega
  have HP := Lib.hid h3
  have HR := Lib.hid hrep
  clear h3 hrep
  go_enter Tryz.func49, Tryz.ntmps49
  go_wp2_with fail
  refine (HB.out _).mono ?_
  rintro e w' ⟨rfl, rfl⟩
  go_wp2_with fail
  refine (strFormat16 N hN _ ht).mono ?_
  rintro e w1 ⟨rfl, hb1⟩
  go_wp2_with fail
  refine (HR.out _ (by omega) (by show 1 * _ ≤ _; omega)).mono ?_
  rintro e w2 ⟨rfl, hb2⟩
  go_wp2_with fail
  go_ret
  exact ⟨by rw [← HP.out]; rfl, hb1.trans (hb2.mono hb1.size)⟩
end Go.Proofs.YtdbcajiagjeplaaGreatDoor
