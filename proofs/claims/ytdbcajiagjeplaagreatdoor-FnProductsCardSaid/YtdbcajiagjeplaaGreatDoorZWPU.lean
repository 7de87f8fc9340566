/- strconv.ParseUint at base 16 and 32 bits. -/
import Derived.Test.YtdbcajiagjeplaaGreatDoorZFHex2
import Derived.Test.YtdbcajiagjeplaaGreatDoorZWErr
import Derived.Test.YtdbcajiagjeplaaGreatDoorZShelfU
import Derived.Lib.ConvBytes
import Derived.Lib.AtoiAllMem
import Derived.Lib.Strings
import Derived.Laws.Strings3
import Derived.Laws.Closers25
import Derived.Laws.Closers25b
import Derived.BigCall
import Derived.BigGuard
set_option linter.unusedVariables false
set_option linter.unusedSimpArgs false
namespace Go.Proofs.YtdbcajiagjeplaaGreatDoor
open Go.RowKit

def errV (k : Nat) : Value := if k = 0 then .nilIface else .iface 132 (.int .i64 (k : Int))
def puS (l : List UInt8) : Nat × Nat := if l = [] then (0, 2) else pu 0 l
def RetPU (l : List UInt8) (w : World) (e : Ending) (w' : World) : Prop := e = .returned (.tuple #[.int .u64 ((puS l).1 : Int), errV (puS l).2]) ∧ Below w.heap.size w w'
theorem RetPU.of {l : List UInt8} {n k : Nat} (h : puS l = (n, k)) {w w' : World} (hb : Below w.heap.size w w') : RetPU l w (.returned (.tuple #[.int .u64 (n : Int), errV k])) w' := by
  unfold RetPU; rw [h]; exact ⟨rfl, hb⟩
theorem lower_any (c : Int) (w : World) : Calls Tryz.prog 112 #[.int .u8 c] w fun e w' => e = .returned (.int .u8 (bits .or .u8 c 32)) ∧ w = w' := (Tryz.internal_strconv_lower c w).mono fun _ _ ⟨h, h2⟩ => ⟨h, h2.symm⟩
theorem lower_nat (c : UInt8) : bits .or .u8 (c.toNat : Int) 32 = ((c ||| 32).toNat : Int) := by
  have key : ∀ n : Fin 256, bits .or .u8 ((UInt8.ofNat n.val).toNat : Int) 32 = ((UInt8.ofNat n.val ||| 32).toNat : Int) := by decide +kernel
  have := key ⟨c.toNat, c.toNat_lt⟩
  simpa using this
set_option maxRecDepth 100000 in
set_option maxHeartbeats 3200000 in
theorem innerPU_any (t : ByteArray) (ht : t.size ≤ 1048576) (w : World) :
    Calls Tryz.prog 96 #[.string t, .int .i64 16, .int .i64 32] w fun e w' => RetPU t.data.toList w e w' := by
  by_cases hne : t.data.toList = []
  · have h0 : t = ⟨#[]⟩ := by
      obtain ⟨⟨l⟩⟩ := t
      simp only at hne
      rw [hne]
    subst h0
    clear hne
    go_enter Tryz.func96, Tryz.ntmps96
    go_wp2
    go_ret2
    exact RetPU.of (n := 0) (k := 2) rfl (Below.refl _ _)
  · have hsl : t.data.toList.length = t.size := by rw [Array.length_toList]; rfl
    have hemp : t.toList.isEmpty = false := by
      rw [ByteArray.toList_eq]
      simpa using hne
    have hpu : puS t.data.toList = pu 0 t.data.toList := by unfold puS; rw [if_neg hne]
    have hcv := Lib.run_convert_string_bytes (P := Tryz.prog) w 9 22 5 t (u := .string) Tryz.underlying9 Tryz.underlying22 Tryz.underlying5
    have hB : ∀ j, j < t.size → (Lib.bytesWorld w 5 t).cell? ⟨w.heap.size, j, none⟩ = some (.int .u8 (t.data.toList.getD j 0).toNat) := fun j hj => Lib.bytesWorld_cell w 5 t j hj
    have hbel : Below w.heap.size w (Lib.bytesWorld w 5 t) := Go.Joins.below_bytesWorld _ _ _ _ (Nat.le_refl _)
    obtain ⟨W1, hW1⟩ : ∃ W1, W1 = Lib.bytesWorld w 5 t := ⟨_, rfl⟩
    rw [← hW1] at hcv hB hbel
    clear hW1 hne
    generalize t.data.toList = bs at *
    have HP := Lib.hid hpu
    have HB := Lib.hid hbel
    have HL := Lib.hid hsl
    clear hpu hbel hsl
    have hmv : IntKind.u64.wrap (IntKind.u64.wrap 4294967296 - 1) = 4294967295 := by
      rw [IntKind.wrap_u64, IntKind.wrap_u64]
      decide
    go_enter Tryz.func96, Tryz.ntmps96
    go_wp2
    go_loop [12, 13, 101] (fun vu vn vi => ∃ (k acc : Nat) (a : Int), vu = .bool false ∧ vn = .int .u64 a ∧ vi = .int .i64 k ∧ k ≤ t.size ∧ Hid (a = (acc : Int) ∧ acc ≤ 4294967295 ∧ pu 0 bs = pu acc (bs.drop k)))
      (fun _ _ vi => t.size - (intOf vi).toNat)
    case atStart => exact ⟨0, 0, 0, rfl, rfl, rfl, by omega, rfl, by omega, rfl⟩
    case round =>
      obtain ⟨k, acc, a, rfl, rfl, rfl, hk, hh⟩ := hrel
      obtain ⟨ha, hacc, hdec⟩ := hh.out
      clear hh
      have a0 : 0 ≤ a := by omega
      have a1 : a ≤ 4294967295 := by omega
      have hBL := HL.out
      by_cases hkn : k < t.size
      · have hc := hB k hkn
        have hdrop : bs.drop k = bs[k]'(by omega) :: bs.drop (k + 1) := List.drop_eq_getElem_cons (by omega)
        have hget : bs.getD k 0 = bs[k]'(by omega) := by simp [List.getD, List.getElem?_eq_getElem (show k < bs.length by omega)]
        rw [hdrop] at hdec
        rw [hget] at hc
        generalize bs[k]'(by omega) = c at hc hdec
        have hc256 : c.toNat < 256 := c.toNat_lt
        clear hB hdrop hget hBL
        have hgo : ∀ d, hv c = some d → d < 16 → (4294967295 < 16 * acc + d ∧ puS bs = (4294967295, 1)) ∨ (16 * acc + d ≤ 4294967295 ∧ pu 0 bs = pu (16 * acc + d) (bs.drop (k + 1))) := by
          intro d hd _
          rw [pu, hd] at hdec
          dsimp only at hdec
          by_cases hov : 4294967295 < 16 * acc + d
          · rw [if_pos hov] at hdec
            exact .inl ⟨hov, HP.out.trans hdec⟩
          · rw [if_neg hov] at hdec
            exact .inr ⟨by omega, hdec⟩
        have hbad : hv c = none → puS bs = (0, 2) := by
          intro hd
          rw [pu, hd] at hdec
          exact HP.out.trans hdec
        have HG := Lib.hid (And.intro hgo hbad)
        clear hgo hbad hdec
        by_cases hdig : 48 ≤ c.toNat ∧ c.toNat ≤ 57
        · obtain ⟨hd0, hd1⟩ := hdig
          have hF : hv c = some (c.toNat - 48) := by unfold hv; rw [if_pos ⟨hd0, hd1⟩]
          rcases HG.out.1 _ hF (by omega) with ⟨hov, hp⟩ | ⟨hle, hp⟩
          · have HQ := Lib.hid hp
            have h1 : (4294967295 : Int) < a * 16 + ((c.toNat : Int) - 48) := by omega
            clear hacc hF ha hov hp
            go_wp2
            go_ret2
            exact RetPU.of HQ.out HB.out
          · have HN : Hid (a * 16 + ((c.toNat : Int) - 48) = ((16 * acc + (c.toNat - 48) : Nat) : Int) ∧ 16 * acc + (c.toNat - 48) ≤ 4294967295 ∧ pu 0 bs = pu (16 * acc + (c.toNat - 48)) (bs.drop (k + 1))) := Lib.hid ⟨by omega, by omega, hp⟩
            have h1 : a * 16 + ((c.toNat : Int) - 48) ≤ 4294967295 := by omega
            clear hacc hF ha hle hp
            go_wp2
            refine ⟨⟨k + 1, 16 * acc + (c.toNat - 48), a * 16 + ((c.toNat : Int) - 48), rfl, (by first | rfl | (congr 1; omega)), (by first | rfl | (congr 1; omega)), by omega, HN⟩, by simp [intOf]; omega⟩
        · have hlow := lower_nat c
          have hL256 : (c ||| 32).toNat < 256 := (c ||| 32).toNat_lt
          have hF : hv c = if 97 ≤ (c ||| 32).toNat ∧ (c ||| 32).toNat ≤ 102 then some ((c ||| 32).toNat - 87) else none := by unfold hv; rw [if_neg hdig]
          have h95 : (c ||| 32).toNat ≤ 102 → ((c.toNat : Int) == 95) = false := by
            intro hle
            have : c.toNat ≠ 95 := by
              intro e
              have : c = 95 := UInt8.toNat_inj.1 e
              rw [this] at hle
              exact absurd hle (by decide)
            simp
            omega
          have H95 := Lib.hid h95
          clear h95
          generalize (c ||| 32).toNat = L at *
          by_cases hlet : 97 ≤ L ∧ L ≤ 102
          · obtain ⟨hd0, hd1⟩ := hlet
            have h95 := H95.out hd1
            rw [if_pos ⟨hd0, hd1⟩] at hF
            rcases HG.out.1 _ hF (by omega) with ⟨hov, hp⟩ | ⟨hle, hp⟩
            · have HQ := Lib.hid hp
              have h1 : (4294967295 : Int) < a * 16 + ((L : Int) - 97 + 10) := by omega
              clear hacc hF ha hov hp
              go_wp2_with (go_at_call 112; refine (lower_any _ _).mono ?_; rintro e w' ⟨rfl, rfl⟩)
              all_goals go_ret2
              all_goals exact RetPU.of HQ.out HB.out
            · have HN : Hid (a * 16 + ((L : Int) - 97 + 10) = ((16 * acc + (L - 87) : Nat) : Int) ∧ 16 * acc + (L - 87) ≤ 4294967295 ∧ pu 0 bs = pu (16 * acc + (L - 87)) (bs.drop (k + 1))) := Lib.hid ⟨by omega, by omega, hp⟩
              have h1 : a * 16 + ((L : Int) - 97 + 10) ≤ 4294967295 := by omega
              clear hacc hF ha hle hp
              go_wp2_with (go_at_call 112; refine (lower_any _ _).mono ?_; rintro e w' ⟨rfl, rfl⟩)
              all_goals refine ⟨⟨k + 1, 16 * acc + (L - 87), a * 16 + ((L : Int) - 97 + 10), rfl, (by first | rfl | (congr 1; omega)), (by first | rfl | (congr 1; omega)), by omega, HN⟩, by simp [intOf]; omega⟩
          · rw [if_neg hlet] at hF
            have HQ := Lib.hid (HG.out.2 hF)
            clear hacc hF ha
            go_wp2_with (go_at_call 112; refine (lower_any _ _).mono ?_; rintro e w' ⟨rfl, rfl⟩)
            all_goals go_ret2
            all_goals exact RetPU.of (n := 0) (k := 2) HQ.out HB.out
      · have hkk : k = t.size := by omega
        subst hkk
        have hF : pu acc (bs.drop t.size) = (acc, 0) := by rw [List.drop_eq_nil_of_le (by omega)]; rfl
        rw [hF] at hdec
        have HQ := Lib.hid (HP.out.trans hdec)
        subst ha
        clear hacc hF a0 a1 hdec hBL
        go_wp2
        go_ret2
        exact RetPU.of HQ.out HB.out
/-- strconv.ParseUint at base 16 and 32 bits: the number, and an error or none. -/
def RetSU (l : List UInt8) (w : World) (e : Ending) (w' : World) : Prop := ∃ v, e = .returned (.tuple #[.int .u64 ((puS l).1 : Int), v]) ∧ ((puS l).2 = 0 ∧ v = .nilIface ∨ (puS l).2 ≠ 0 ∧ ∃ T N, v = .iface T (.pointer (some ⟨N, 0, none⟩))) ∧ Below w.heap.size w w'
theorem puS_le (l : List UInt8) : (puS l).1 ≤ 4294967295 ∧ (puS l).2 ≤ 2 := by
  unfold puS
  split
  · simp
  · exact pu_le l 0 (by omega)
theorem strPU_any (s : ByteArray) (hs : s.size ≤ 1048576) (w : World) (he : Errs w) :
    Calls Tryz.prog 79 #[.string s, .int .i64 16, .int .i64 32] w fun e w' => RetSU s.data.toList w e w' := by
  have hin := innerPU_any s hs
  have hle := (puS_le s.data.toList).2
  obtain ⟨⟨t1, p1, h1⟩, ⟨t2, p2, h2⟩⟩ := he
  have h1' : w.cell? ⟨2, 0, none⟩ = some (.iface t1 p1) := World.var?_cell (by kernel_rfl) h1 0
  have h2' : w.cell? ⟨3, 0, none⟩ = some (.iface t2 p2) := World.var?_cell (by kernel_rfl) h2 0
  have b1 : 2 < w.heap.size := World.block_lt_of_cell? w _ h1'
  have b2 : 3 < w.heap.size := World.block_lt_of_cell? w _ h2'
  have HE := Lib.hid (And.intro h1' h2')
  clear h1 h2 h1' h2'
  unfold RetPU at hin
  unfold RetSU
  generalize hp : puS s.data.toList = q at *
  obtain ⟨n, k⟩ := q
  have HI := Lib.hid hin
  clear hin hp
  simp only at hle
  match k, hle with
  | 0, hle =>
    have HJ := Lib.hid (show ∀ w : World, Calls Tryz.prog 96 #[.string s, .int .i64 16, .int .i64 32] w fun e w' => e = .returned (.tuple #[.int .u64 (n : Int), .nilIface]) ∧ Below w.heap.size w w' from HI.out)
    clear hle HI
    show Calls _ _ _ _ fun e w' => ∃ v, e = .returned (.tuple #[.int .u64 (n : Int), v]) ∧ _ ∧ _
    go_enter Tryz.func79, Tryz.ntmps79
    go_wp2_with fail
    refine (HJ.out _).mono ?_
    rintro e w' ⟨rfl, hb⟩
    go_wp2_with fail
    go_ret2
    exact ⟨_, rfl, .inl (by simp), hb⟩
  | 1, hle =>
    have HJ := Lib.hid (show ∀ w : World, Calls Tryz.prog 96 #[.string s, .int .i64 16, .int .i64 32] w fun e w' => e = .returned (.tuple #[.int .u64 (n : Int), .iface 132 (.int .i64 1)]) ∧ Below w.heap.size w w' from HI.out)
    clear hle HI
    show Calls _ _ _ _ fun e w' => ∃ v, e = .returned (.tuple #[.int .u64 (n : Int), v]) ∧ _ ∧ _
    go_enter Tryz.func79, Tryz.ntmps79
    go_wp2_with fail
    refine (HJ.out _).mono ?_
    rintro e w' ⟨rfl, hb⟩
    have hc := (hb.cell (p := ⟨3, 0, none⟩) b2).trans HE.out.2
    go_wp2_with fail
    refine (Tryz.strconv_toError_range _ s 16 32 _ _ (by omega) hc (.inr ⟨_, _, rfl⟩)).mono ?_
    rintro e w2 ⟨N, rfl, _, _, hb2⟩
    go_wp2_with fail
    go_ret2
    exact ⟨_, rfl, .inr ⟨by decide, _, _, rfl⟩, hb.trans (hb2.mono hb.size)⟩
  | 2, hle =>
    have HJ := Lib.hid (show ∀ w : World, Calls Tryz.prog 96 #[.string s, .int .i64 16, .int .i64 32] w fun e w' => e = .returned (.tuple #[.int .u64 (n : Int), .iface 132 (.int .i64 2)]) ∧ Below w.heap.size w w' from HI.out)
    clear hle HI
    show Calls _ _ _ _ fun e w' => ∃ v, e = .returned (.tuple #[.int .u64 (n : Int), v]) ∧ _ ∧ _
    go_enter Tryz.func79, Tryz.ntmps79
    go_wp2_with fail
    refine (HJ.out _).mono ?_
    rintro e w' ⟨rfl, hb⟩
    have hc := (hb.cell (p := ⟨2, 0, none⟩) b1).trans HE.out.1
    go_wp2_with fail
    refine (Tryz.strconv_toError_syntax _ s 16 32 _ _ (by omega) hc (.inr ⟨_, _, rfl⟩)).mono ?_
    rintro e w2 ⟨N, rfl, _, _, hb2⟩
    go_wp2_with fail
    go_ret2
    exact ⟨_, rfl, .inr ⟨by decide, _, _, rfl⟩, hb.trans (hb2.mono hb.size)⟩
end Go.Proofs.YtdbcajiagjeplaaGreatDoor
