/- The hexadecimal text of a number: the reference. -/
import Derived.Test.YtdbcajiagjeplaaDoorFHex
import Derived.Test.YtdbcajiagjeplaaDoorWNum
import Derived.Test.YtdbcajiagjeplaaDoorApp
import Derived.Deep.DeepMust
import Derived.Laws.BitsLemmas
import Derived.IntWalk
import Derived.Laws.IdiomStrings
import Derived.OpenShut
set_option linter.unusedVariables false
set_option linter.unusedSimpArgs false
namespace Go.Proofs.YtdbcajiagjeplaaDoor
open Go.RowKit

def bitsN (v : Option Nat) : Nat := match v with | none => 2143289344 | some b => b
theorem bitsZ_nat (v : Option Nat) : bitsZ v = (bitsN v : Int) := by cases v <;> rfl
theorem bitsN_lt {x : Nat} (hx : x < 4294967296) : bitsN (val .f32 x) < 4294967296 := by
  cases h : val .f32 x with
  | none => decide
  | some b =>
    obtain ⟨rfl, _⟩ := val_eq_some h
    exact hx
theorem info_u8 : (Tryd.prog.info? 5).map (fun i => (i.zero, i.size, i.bytes)) = some (some (.int .u8 0), 1, 1) := by kernel_rfl
theorem u8_one (x : Int) : ∀ u ∈ [Value.int .u8 x], u.oneCell' = true := by intro u hu; simp only [List.mem_singleton] at hu; subst hu; rfl
def bv (c : UInt8) : Value := .int .u8 (c.toNat : Int)
abbrev hexB : ByteArray := ⟨#[48, 49, 50, 51, 52, 53, 54, 55, 56, 57, 97, 98, 99, 100, 101, 102]⟩
theorem hexB_at : ∀ (d : Nat) (h : d < hexB.size), hexB[d]'h = hdig d := by
  have key : ∀ d : Fin 16, hexB[d.val]'d.isLt = hdig d.val := by decide
  exact fun d h => key ⟨d, h⟩
theorem and15 (x : Nat) (h : x < 4294967296) : bits .and .i64 (x : Int) 15 = ((x % 16 : Nat) : Int) := by
  have h1 : (BitVec.ofInt 64 (x : Int)).toNat = x := by rw [BitVec.ofInt_natCast, BitVec.toNat_ofNat]; exact Nat.mod_eq_of_lt (by omega)
  have h2 : (BitVec.ofInt 64 (15 : Int)).toNat = 15 := by decide
  show IntKind.i64.wrap ((BitVec.ofInt 64 (x : Int) &&& BitVec.ofInt 64 15).toNat : Int) = _
  rw [BitVec.toNat_and, h1, h2, show (15 : Nat) = 2 ^ 4 - 1 from rfl, Nat.and_two_pow_sub_one_eq_mod, IntWalk.i64_in _ (by omega)]
theorem and15' (x q : Nat) (h : x < 4294967296) : ∃ d : Nat, bits .and .i64 ((x : Int) / (q : Int)) 15 = (d : Int) ∧ d = x / q % 16 ∧ d < 16 := by
  refine ⟨x / q % 16, ?_, rfl, Nat.mod_lt _ (by decide)⟩
  have h1 := and15 (x / q) (Nat.lt_of_le_of_lt (Nat.div_le_self x q) h)
  rw [← h1, Int.natCast_ediv]
set_option maxRecDepth 20000 in
set_option maxHeartbeats 800000 in
theorem specHex_any (x : Nat) (hx : x < 4294967296) (w : World) : Calls Tryd.prog 68 #[.float .f32 x] w fun e w' => e = .returned (.string ⟨(hexN 8 (bitsN (val .f32 x))).toArray⟩) ∧ Below w.heap.size w w' := by
  obtain ⟨i0, hi0, hz0, hz1, hz2⟩ := info_parts info_u8
  have hN := bitsN_lt hx
  have hb := specBits_any x hx
  rw [bitsZ_nat] at hb
  generalize bitsN (val .f32 x) = N at *
  have HB := Lib.hid hb
  clear hb
  go_enter Tryd.func68, Tryd.ntmps68
  go_wp2_with fail
  refine (HB.out _).mono ?_
  rintro e w' ⟨rfl, rfl⟩
  go_wp2_with fail
  go_loopw [4, 5] (fun ov iv wr => ∃ j : Nat, j ≤ 8 ∧ iv = .int .i64 (28 - 4 * (j : Int)) ∧ wr.ownsRow w.heap.size 5 1 ov j ((hexN j (N / 16 ^ (8 - j))).map bv) ∧ Below w.heap.size w wr) (fun _ iv _ => (Go.RowKit.intOf iv + 4).toNat)
  case atStart => exact ⟨0, by omega, rfl, own_empty _ _, (Below.refl _ _).alloc (Nat.le_refl _) _⟩
  case round =>
    obtain ⟨j, hj, rfl, ho, hw⟩ := hrel
    have hs := hexN_step j N
    have hsz := hw.size
    rcases (by omega : j = 0 ∨ j = 1 ∨ j = 2 ∨ j = 3 ∨ j = 4 ∨ j = 5 ∨ j = 6 ∨ j = 7 ∨ j = 8) with rfl | rfl | rfl | rfl | rfl | rfl | rfl | rfl | rfl
    · obtain ⟨d, hd, hdv, hd16⟩ : ∃ d : Nat, bits .and .i64 ((N : Int) / 268435456) 15 = (d : Int) ∧ d = N / 268435456 % 16 ∧ d < 16 := and15' N 268435456 hN
      have hdg := hexB_at d
      have HS := Lib.hid (show hexN 1 (N / 16 ^ 7) = hexN 0 (N / 16 ^ 8) ++ [hdig d] by rw [hdv]; exact hs (by omega))
      clear hs hdv
      have e0 : ((28 : Int) - 4 * ((0 : Nat) : Int)) = 28 := by decide
      rw [e0]
      go_wp2_with (at_builtin; go_must (refine wpList_append_own_at _ rfl (.tmp 13) (.tmp 20) 69 rfl w.heap.size 5 i0 (.int .u8 0) 1 1 Tryd.underlying69 hi0 hz0 hz1 hz2 rfl (by decide) _ 0 _ rfl (ho.alloc _) ⟨wr.heap.size, 0, none⟩ 1 1 [.int .u8 (hdig d).toNat] rfl rfl (new_one _ _ _) (u8_one _) (by unfold maxLen; omega) (by omega) (by simp; omega) ?_); intro v' w3 hown3 hgr3 _ hblk3)
      have hb3 := step_below hw ho hgr3
      go_roundw
      case rel => exact ⟨1, by omega, rfl, by rw [show 8 - 1 = 7 from rfl, HS.out, List.map_append]; exact hown3, hb3⟩
      case measure => simp [Go.RowKit.intOf]
    · obtain ⟨d, hd, hdv, hd16⟩ : ∃ d : Nat, bits .and .i64 ((N : Int) / 16777216) 15 = (d : Int) ∧ d = N / 16777216 % 16 ∧ d < 16 := and15' N 16777216 hN
      have hdg := hexB_at d
      have HS := Lib.hid (show hexN 2 (N / 16 ^ 6) = hexN 1 (N / 16 ^ 7) ++ [hdig d] by rw [hdv]; exact hs (by omega))
      clear hs hdv
      have e0 : ((28 : Int) - 4 * ((1 : Nat) : Int)) = 24 := by decide
      rw [e0]
      go_wp2_with (at_builtin; go_must (refine wpList_append_own_at _ rfl (.tmp 13) (.tmp 20) 69 rfl w.heap.size 5 i0 (.int .u8 0) 1 1 Tryd.underlying69 hi0 hz0 hz1 hz2 rfl (by decide) _ 1 _ rfl (ho.alloc _) ⟨wr.heap.size, 0, none⟩ 1 1 [.int .u8 (hdig d).toNat] rfl rfl (new_one _ _ _) (u8_one _) (by unfold maxLen; omega) (by omega) (by simp; omega) ?_); intro v' w3 hown3 hgr3 _ hblk3)
      have hb3 := step_below hw ho hgr3
      go_roundw
      case rel => exact ⟨2, by omega, rfl, by rw [show 8 - 2 = 6 from rfl, HS.out, List.map_append]; exact hown3, hb3⟩
      case measure => simp [Go.RowKit.intOf]
    · obtain ⟨d, hd, hdv, hd16⟩ : ∃ d : Nat, bits .and .i64 ((N : Int) / 1048576) 15 = (d : Int) ∧ d = N / 1048576 % 16 ∧ d < 16 := and15' N 1048576 hN
      have hdg := hexB_at d
      have HS := Lib.hid (show hexN 3 (N / 16 ^ 5) = hexN 2 (N / 16 ^ 6) ++ [hdig d] by rw [hdv]; exact hs (by omega))
      clear hs hdv
      have e0 : ((28 : Int) - 4 * ((2 : Nat) : Int)) = 20 := by decide
      rw [e0]
      go_wp2_with (at_builtin; go_must (refine wpList_append_own_at _ rfl (.tmp 13) (.tmp 20) 69 rfl w.heap.size 5 i0 (.int .u8 0) 1 1 Tryd.underlying69 hi0 hz0 hz1 hz2 rfl (by decide) _ 2 _ rfl (ho.alloc _) ⟨wr.heap.size, 0, none⟩ 1 1 [.int .u8 (hdig d).toNat] rfl rfl (new_one _ _ _) (u8_one _) (by unfold maxLen; omega) (by omega) (by simp; omega) ?_); intro v' w3 hown3 hgr3 _ hblk3)
      have hb3 := step_below hw ho hgr3
      go_roundw
      case rel => exact ⟨3, by omega, rfl, by rw [show 8 - 3 = 5 from rfl, HS.out, List.map_append]; exact hown3, hb3⟩
      case measure => simp [Go.RowKit.intOf]
    · obtain ⟨d, hd, hdv, hd16⟩ : ∃ d : Nat, bits .and .i64 ((N : Int) / 65536) 15 = (d : Int) ∧ d = N / 65536 % 16 ∧ d < 16 := and15' N 65536 hN
      have hdg := hexB_at d
      have HS := Lib.hid (show hexN 4 (N / 16 ^ 4) = hexN 3 (N / 16 ^ 5) ++ [hdig d] by rw [hdv]; exact hs (by omega))
      clear hs hdv
      have e0 : ((28 : Int) - 4 * ((3 : Nat) : Int)) = 16 := by decide
      rw [e0]
      go_wp2_with (at_builtin; go_must (refine wpList_append_own_at _ rfl (.tmp 13) (.tmp 20) 69 rfl w.heap.size 5 i0 (.int .u8 0) 1 1 Tryd.underlying69 hi0 hz0 hz1 hz2 rfl (by decide) _ 3 _ rfl (ho.alloc _) ⟨wr.heap.size, 0, none⟩ 1 1 [.int .u8 (hdig d).toNat] rfl rfl (new_one _ _ _) (u8_one _) (by unfold maxLen; omega) (by omega) (by simp; omega) ?_); intro v' w3 hown3 hgr3 _ hblk3)
      have hb3 := step_below hw ho hgr3
      go_roundw
      case rel => exact ⟨4, by omega, rfl, by rw [show 8 - 4 = 4 from rfl, HS.out, List.map_append]; exact hown3, hb3⟩
      case measure => simp [Go.RowKit.intOf]
    · obtain ⟨d, hd, hdv, hd16⟩ : ∃ d : Nat, bits .and .i64 ((N : Int) / 4096) 15 = (d : Int) ∧ d = N / 4096 % 16 ∧ d < 16 := and15' N 4096 hN
      have hdg := hexB_at d
      have HS := Lib.hid (show hexN 5 (N / 16 ^ 3) = hexN 4 (N / 16 ^ 4) ++ [hdig d] by rw [hdv]; exact hs (by omega))
      clear hs hdv
      have e0 : ((28 : Int) - 4 * ((4 : Nat) : Int)) = 12 := by decide
      rw [e0]
      go_wp2_with (at_builtin; go_must (refine wpList_append_own_at _ rfl (.tmp 13) (.tmp 20) 69 rfl w.heap.size 5 i0 (.int .u8 0) 1 1 Tryd.underlying69 hi0 hz0 hz1 hz2 rfl (by decide) _ 4 _ rfl (ho.alloc _) ⟨wr.heap.size, 0, none⟩ 1 1 [.int .u8 (hdig d).toNat] rfl rfl (new_one _ _ _) (u8_one _) (by unfold maxLen; omega) (by omega) (by simp; omega) ?_); intro v' w3 hown3 hgr3 _ hblk3)
      have hb3 := step_below hw ho hgr3
      go_roundw
      case rel => exact ⟨5, by omega, rfl, by rw [show 8 - 5 = 3 from rfl, HS.out, List.map_append]; exact hown3, hb3⟩
      case measure => simp [Go.RowKit.intOf]
    · obtain ⟨d, hd, hdv, hd16⟩ : ∃ d : Nat, bits .and .i64 ((N : Int) / 256) 15 = (d : Int) ∧ d = N / 256 % 16 ∧ d < 16 := and15' N 256 hN
      have hdg := hexB_at d
      have HS := Lib.hid (show hexN 6 (N / 16 ^ 2) = hexN 5 (N / 16 ^ 3) ++ [hdig d] by rw [hdv]; exact hs (by omega))
      clear hs hdv
      have e0 : ((28 : Int) - 4 * ((5 : Nat) : Int)) = 8 := by decide
      rw [e0]
      go_wp2_with (at_builtin; go_must (refine wpList_append_own_at _ rfl (.tmp 13) (.tmp 20) 69 rfl w.heap.size 5 i0 (.int .u8 0) 1 1 Tryd.underlying69 hi0 hz0 hz1 hz2 rfl (by decide) _ 5 _ rfl (ho.alloc _) ⟨wr.heap.size, 0, none⟩ 1 1 [.int .u8 (hdig d).toNat] rfl rfl (new_one _ _ _) (u8_one _) (by unfold maxLen; omega) (by omega) (by simp; omega) ?_); intro v' w3 hown3 hgr3 _ hblk3)
      have hb3 := step_below hw ho hgr3
      go_roundw
      case rel => exact ⟨6, by omega, rfl, by rw [show 8 - 6 = 2 from rfl, HS.out, List.map_append]; exact hown3, hb3⟩
      case measure => simp [Go.RowKit.intOf]
    · obtain ⟨d, hd, hdv, hd16⟩ : ∃ d : Nat, bits .and .i64 ((N : Int) / 16) 15 = (d : Int) ∧ d = N / 16 % 16 ∧ d < 16 := and15' N 16 hN
      have hdg := hexB_at d
      have HS := Lib.hid (show hexN 7 (N / 16 ^ 1) = hexN 6 (N / 16 ^ 2) ++ [hdig d] by rw [hdv]; exact hs (by omega))
      clear hs hdv
      have e0 : ((28 : Int) - 4 * ((6 : Nat) : Int)) = 4 := by decide
      rw [e0]
      go_wp2_with (at_builtin; go_must (refine wpList_append_own_at _ rfl (.tmp 13) (.tmp 20) 69 rfl w.heap.size 5 i0 (.int .u8 0) 1 1 Tryd.underlying69 hi0 hz0 hz1 hz2 rfl (by decide) _ 6 _ rfl (ho.alloc _) ⟨wr.heap.size, 0, none⟩ 1 1 [.int .u8 (hdig d).toNat] rfl rfl (new_one _ _ _) (u8_one _) (by unfold maxLen; omega) (by omega) (by simp; omega) ?_); intro v' w3 hown3 hgr3 _ hblk3)
      have hb3 := step_below hw ho hgr3
      go_roundw
      case rel => exact ⟨7, by omega, rfl, by rw [show 8 - 7 = 1 from rfl, HS.out, List.map_append]; exact hown3, hb3⟩
      case measure => simp [Go.RowKit.intOf]
    · obtain ⟨d, hd, hdv, hd16⟩ : ∃ d : Nat, bits .and .i64 (N : Int) 15 = (d : Int) ∧ d = N / 1 % 16 ∧ d < 16 := ⟨_, and15 N hN, by rw [Nat.div_one], by omega⟩
      have hdg := hexB_at d
      have HS := Lib.hid (show hexN 8 (N / 16 ^ 0) = hexN 7 (N / 16 ^ 1) ++ [hdig d] by rw [hdv]; exact hs (by omega))
      clear hs hdv
      have e0 : ((28 : Int) - 4 * ((7 : Nat) : Int)) = 0 := by decide
      rw [e0]
      go_wp2_with (at_builtin; go_must (refine wpList_append_own_at _ rfl (.tmp 13) (.tmp 20) 69 rfl w.heap.size 5 i0 (.int .u8 0) 1 1 Tryd.underlying69 hi0 hz0 hz1 hz2 rfl (by decide) _ 7 _ rfl (ho.alloc _) ⟨wr.heap.size, 0, none⟩ 1 1 [.int .u8 (hdig d).toNat] rfl rfl (new_one _ _ _) (u8_one _) (by unfold maxLen; omega) (by omega) (by simp; omega) ?_); intro v' w3 hown3 hgr3 _ hblk3)
      have hb3 := step_below hw ho hgr3
      go_roundw
      case rel => exact ⟨8, by omega, rfl, by rw [show 8 - 8 = 0 from rfl, HS.out, List.map_append]; exact hown3, hb3⟩
      case measure => simp [Go.RowKit.intOf]
    · have e0 : ((28 : Int) - 4 * ((8 : Nat) : Int)) = -4 := by decide
      rw [e0]
      clear hs
      obtain ⟨A, c, rfl, hr⟩ := own_row ho
      obtain ⟨b, off, rfl, hbB, hc⟩ := hr (by omega)
      have hlen := hexN_len 8 (N / 16 ^ (8 - 8))
      have hconv := run_convert_bytes_back (P := Tryd.prog) wr 69 9 5 ⟨b, off, none⟩ c (hexN 8 (N / 16 ^ (8 - 8))) Tryd.underlying69 Tryd.underlying5 Tryd.underlying9 (fun j hj => by
        rw [Addr.add_lit, hc j (by omega)]
        show some ((List.map bv _).getD j undef) = _
        rw [List.getD_eq_getElem?_getD, List.getElem?_eq_getElem (by simpa using hj), List.getElem_map]
        rfl)
      rw [hlen] at hconv
      clear hlen hc ho
      go_wp2_with fail
      go_ret
      exact ⟨rfl, hw⟩
end Go.Proofs.YtdbcajiagjeplaaDoor
