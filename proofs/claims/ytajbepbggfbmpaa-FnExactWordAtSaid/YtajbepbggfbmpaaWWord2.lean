/- WordAt: contracts of both sides. -/
import Derived.Test.YtajbepbggfbmpaaWWord
set_option linter.unusedVariables false
set_option linter.unusedSimpArgs false
namespace Go.Proofs.Ytajbepbggfbmpaa
open Go.RowKit

def wordV (f : Nat → Int) (n : Nat) (g : Nat → Int) (m : Nat) : Option Nat := if bitsB f n 64 = true ∧ bitsB g m 6 = true ∧ m ≤ n then firstAt f n g m else none
/-- A place and whether there is one. -/
def GivesAt (r : Option Nat) (w : World) (e : Ending) (w' : World) : Prop := e = .returned (.tuple #[.int .i64 ((r.getD 0 : Nat) : Int), .bool r.isSome]) ∧ ∃ q, w' = w.drewN q
theorem givesAt_some {r : Option Nat} {k : Nat} (h : r = some k) (w : World) (q : Nat) : GivesAt r w (.returned (.tuple #[.int .i64 (k : Int), .bool true])) (w.drewN q) := by subst h; exact ⟨rfl, q, rfl⟩
theorem givesAt_none {r : Option Nat} (h : r = none) (w : World) (q : Nat) : GivesAt r w (.returned (.tuple #[.int .i64 0, .bool false])) (w.drewN q) := by subst h; exact ⟨rfl, q, rfl⟩
theorem wordV_yes {f : Nat → Int} {n : Nat} {g : Nat → Int} {m : Nat} (h1 : bitsB f n 64 = true) (h2 : bitsB g m 6 = true) (h3 : m ≤ n) : wordV f n g m = firstAt f n g m := by unfold wordV; rw [if_pos ⟨h1, h2, h3⟩]
theorem wordV_no {f : Nat → Int} {n : Nat} {g : Nat → Int} {m : Nat} (h : ¬ (bitsB f n 64 = true ∧ bitsB g m 6 = true ∧ m ≤ n)) : wordV f n g m = none := by unfold wordV; rw [if_neg h]
theorem bits_le {f : Nat → Int} {n most : Nat} (h : bitsB f n most = true) : 1 ≤ n ∧ n ≤ most := by
  unfold bitsB at h
  rw [Bool.and_eq_true, Bool.and_eq_true, decide_eq_true_eq, decide_eq_true_eq] at h
  exact ⟨h.1, h.2.1⟩
theorem tmod_nat (i k n : Nat) : ((i : Int) + k).tmod n = (((i + k) % n : Nat) : Int) := by
  rw [Int.tmod_eq_emod_of_nonneg (by omega), Int.natCast_emod, Int.natCast_add]

set_option maxHeartbeats 1000000 in
theorem specWordAt_any (A A' : Option Addr) (n c m c' B : Nat) (f g : Nat → Int) (w : World) (hn : n ≤ 1048576) (hm : m ≤ 1048576) (h : Row w B A n (fun j => .int .i64 (f j))) (h' : Row w B A' m (fun j => .int .i64 (g j))) :
    Calls Try.prog 19 #[.slice A n c, .slice A' m c'] w (GivesAt (wordV f n g m) w) := by
  cases hf : bitsB f n 64 with
  | false =>
    have HN := Lib.hid (wordV_no (f := f) (n := n) (g := g) (m := m) (by rw [hf]; simp))
    have Hf := Lib.hid hf
    clear hf
    go_enter Try.func19, Try.ntmps19
    go_wp2_with fail
    refine (l02Bits_any A n c B f 64 _ hn (by omega) h).mono ?_
    rw [Hf.out]
    rintro e w' ⟨rfl, rfl⟩
    go_wp2_with fail
    go_ret2
    exact givesAt_none HN.out _ 0
  | true =>
    cases hg : bitsB g m 6 with
    | false =>
      have HN := Lib.hid (wordV_no (f := f) (n := n) (g := g) (m := m) (by rw [hg]; simp))
      have Hf := Lib.hid hf
      have Hg := Lib.hid hg
      clear hf hg
      go_enter Try.func19, Try.ntmps19
      go_wp2_with fail
      refine (l02Bits_any A n c B f 64 _ hn (by omega) h).mono ?_
      rw [Hf.out]
      rintro e w' ⟨rfl, rfl⟩
      go_wp2_with fail
      refine (l02Bits_any A' m c' B g 6 _ hm (by omega) h').mono ?_
      rw [Hg.out]
      rintro e w' ⟨rfl, rfl⟩
      go_wp2_with fail
      go_ret2
      exact givesAt_none HN.out _ 0
    | true =>
      have hfl := bits_le hf
      have hgl := bits_le hg
      by_cases hmn : m ≤ n
      · have HY := Lib.hid (wordV_yes hf hg hmn)
        have Hf := Lib.hid hf
        have Hg := Lib.hid hg
        have hb3 : decide (n < m) = false := by rw [decide_eq_false_iff_not]; omega
        clear hf hg
        go_enter Try.func19, Try.ntmps19
        go_wp2_with fail
        refine (l02Bits_any A n c B f 64 _ hn (by omega) h).mono ?_
        rw [Hf.out]
        rintro e w' ⟨rfl, rfl⟩
        go_wp2_with fail
        refine (l02Bits_any A' m c' B g 6 _ hm (by omega) h').mono ?_
        rw [Hg.out]
        rintro e w' ⟨rfl, rfl⟩
        go_wp2_with fail
        obtain ⟨b, off, rfl, _, hc⟩ := h (by omega)
        obtain ⟨b', off', rfl, _, hc'⟩ := h' (by omega)
        have HC := Lib.hid hc
        have HC' := Lib.hid hc'
        clear hc hc' h h'
        go_loopw [6] (fun i wr => ∃ I : Nat, I ≤ n ∧ i = .int .i64 I ∧ (∀ j, j < I → matchB f n g j m = false) ∧ ∃ q, wr = w.drewN q) (fun i _ => n - (intOf i).toNat)
        case atStart => exact ⟨0, Nat.zero_le _, rfl, fun j hj => absurd hj (by omega), 0, rfl⟩
        case round =>
          obtain ⟨I, hI, rfl, hall, q, rfl⟩ := hrel
          have HA := Lib.hid hall
          clear hall
          by_cases hlt : I < n
          · go_wp2_with fail
            go_loopw [7, 8] (fun v k wr => ∃ K : Nat, K ≤ m ∧ k = .int .i64 K ∧ v = .bool (matchB f n g I K) ∧ ∃ q, wr = w.drewN q) (fun _ k _ => m - (intOf k).toNat)
            case atStart => exact ⟨0, Nat.zero_le _, rfl, rfl, _, rfl⟩
            case round =>
              obtain ⟨K, hK, rfl, rfl, q2, rfl⟩ := hrel
              by_cases hltK : K < m
              · have h3 := HC.out ((I + K) % n) (Nat.mod_lt _ (by omega))
                have h4 := HC'.out K hltK
                have HS := Lib.hid (matchB_succ f n g I K)
                have hlm : (I + K) % n < n := Nat.mod_lt _ (by omega)
                generalize hx : f ((I + K) % n) = x at *
                generalize hy : g K = y at *
                generalize hz : (I + K) % n = z at *
                have HZ := Lib.hid hz
                clear hx hy hz
                cases hb : matchB f n g I K with
                | false =>
                  have HB := Lib.hid hb
                  clear hb
                  go_wp2_with fail
                  go_quiet (fail)
                  go_wp2_with fail
                  go_roundw
                  case rel => exact ⟨K + 1, by omega, by go_num, by rw [HS.out, HB.out]; rfl, _, rfl⟩
                  case measure => simp [intOf]; omega
                | true =>
                  have HB := Lib.hid hb
                  clear hb
                  go_wp2_with fail
                  have e1 : IntKind.i64.wrap ((I : Int) + K) = (I : Int) + K := IntWalk.i64_in _ (by omega)
                  have e2 : ((I : Int) + K).tmod n = (z : Int) := by rw [tmod_nat, HZ.out]
                  go_quiet (fail)
                  clear e1 e2
                  go_wp2_with fail
                  go_roundw
                  case rel => exact ⟨K + 1, by omega, by go_num, by rw [HS.out, HB.out]; rfl, _, rfl⟩
                  case measure => simp [intOf]; omega
              · have hke : K = m := by omega
                subst hke
                cases hb : matchB f n g I K with
                | false =>
                  have HA2 := Lib.hid (show ∀ j, j < I + 1 → matchB f n g j K = false from fun j hj => by
                    by_cases e : j = I
                    · subst e; exact hb
                    · exact HA.out j (by omega))
                  clear hb
                  go_wp2_with fail
                  go_roundw
                  case rel => exact ⟨I + 1, by omega, by go_num, HA2.out, _, rfl⟩
                  case measure => simp [intOf]; omega
                | true =>
                  have HF := Lib.hid (firstAt_yes hlt hb HA.out)
                  clear hb
                  go_wp2_with fail
                  go_ret2
                  exact givesAt_some (HY.out.trans HF.out) _ _
          · have hie : I = n := by omega
            subst hie
            clear hlt
            have HF := Lib.hid (firstAt_no HA.out)
            go_wp2_with fail
            go_ret2
            exact givesAt_none (HY.out.trans HF.out) _ _
      · have HN := Lib.hid (wordV_no (f := f) (n := n) (g := g) (m := m) (fun e => hmn e.2.2))
        have hb3 : n < m := by omega
        have Hf := Lib.hid hf
        have Hg := Lib.hid hg
        clear hf hg hmn
        go_enter Try.func19, Try.ntmps19
        go_wp2_with fail
        refine (l02Bits_any A n c B f 64 _ hn (by omega) h).mono ?_
        rw [Hf.out]
        rintro e w' ⟨rfl, rfl⟩
        go_wp2_with fail
        refine (l02Bits_any A' m c' B g 6 _ hm (by omega) h').mono ?_
        rw [Hg.out]
        rintro e w' ⟨rfl, rfl⟩
        go_wp2_with fail
        go_ret2
        exact givesAt_none HN.out _ 0
set_option maxHeartbeats 1000000 in
theorem implWordAt_any (A A' : Option Addr) (n c m c' B : Nat) (f g : Nat → Int) (w : World) (hn : n ≤ 1048576) (hm : m ≤ 1048576) (h : Row w B A n (fun j => .int .i64 (f j))) (h' : Row w B A' m (fun j => .int .i64 (g j))) :
    Calls Try.prog 20 #[.slice A n c, .slice A' m c'] w (GivesAt (wordV f n g m) w) := by
  cases hf : bitsB f n 64 with
  | false =>
    have HN := Lib.hid (wordV_no (f := f) (n := n) (g := g) (m := m) (by rw [hf]; simp))
    have Hf := Lib.hid hf
    clear hf
    go_enter Try.func20, Try.ntmps20
    go_wp2_with fail
    refine (areBits_any A n c B f 64 _ hn (by omega) h).mono ?_
    rw [Hf.out]
    rintro e w' ⟨rfl, rfl⟩
    go_wp2_with fail
    go_ret2
    exact givesAt_none HN.out _ 0
  | true =>
    cases hg : bitsB g m 6 with
    | false =>
      have HN := Lib.hid (wordV_no (f := f) (n := n) (g := g) (m := m) (by rw [hg]; simp))
      have Hf := Lib.hid hf
      have Hg := Lib.hid hg
      clear hf hg
      go_enter Try.func20, Try.ntmps20
      go_wp2_with fail
      refine (areBits_any A n c B f 64 _ hn (by omega) h).mono ?_
      rw [Hf.out]
      rintro e w' ⟨rfl, rfl⟩
      go_wp2_with fail
      refine (areBits_any A' m c' B g 6 _ hm (by omega) h').mono ?_
      rw [Hg.out]
      rintro e w' ⟨rfl, rfl⟩
      go_wp2_with fail
      go_ret2
      exact givesAt_none HN.out _ 0
    | true =>
      have hfl := bits_le hf
      have hgl := bits_le hg
      by_cases hmn : m ≤ n
      · have HY := Lib.hid (wordV_yes hf hg hmn)
        have Hf := Lib.hid hf
        have Hg := Lib.hid hg
        have hb3 : decide (n < m) = false := by rw [decide_eq_false_iff_not]; omega
        clear hf hg
        go_enter Try.func20, Try.ntmps20
        go_wp2_with fail
        refine (areBits_any A n c B f 64 _ hn (by omega) h).mono ?_
        rw [Hf.out]
        rintro e w' ⟨rfl, rfl⟩
        go_wp2_with fail
        refine (areBits_any A' m c' B g 6 _ hm (by omega) h').mono ?_
        rw [Hg.out]
        rintro e w' ⟨rfl, rfl⟩
        go_wp2_with fail
        obtain ⟨b, off, rfl, _, hc⟩ := h (by omega)
        obtain ⟨b', off', rfl, _, hc'⟩ := h' (by omega)
        have HC := Lib.hid hc
        have HC' := Lib.hid hc'
        clear hc hc' h h'
        go_loopw [27] (fun i wr => ∃ I : Nat, I ≤ n ∧ i = .int .i64 I ∧ (∀ j, j < I → matchB f n g j m = false) ∧ ∃ q, wr = w.drewN q) (fun i _ => n - (intOf i).toNat)
        case atStart => exact ⟨0, Nat.zero_le _, rfl, fun j hj => absurd hj (by omega), 0, rfl⟩
        case round =>
          obtain ⟨I, hI, rfl, hall, q, rfl⟩ := hrel
          have HA := Lib.hid hall
          clear hall
          by_cases hlt : I < n
          · go_wp2_with fail
            go_loopw [7, 32] (fun v k wr => ∃ K : Nat, K ≤ m ∧ k = .int .i64 K ∧ v = .bool (matchB f n g I K) ∧ ∃ q, wr = w.drewN q) (fun _ k _ => m - (intOf k).toNat)
            case atStart => exact ⟨0, Nat.zero_le _, rfl, rfl, _, rfl⟩
            case round =>
              obtain ⟨K, hK, rfl, rfl, q2, rfl⟩ := hrel
              by_cases hltK : K < m
              · have h3 := HC.out ((I + K) % n) (Nat.mod_lt _ (by omega))
                have h4 := HC'.out K hltK
                have HS := Lib.hid (matchB_succ f n g I K)
                have hlm : (I + K) % n < n := Nat.mod_lt _ (by omega)
                generalize hx : f ((I + K) % n) = x at *
                generalize hy : g K = y at *
                generalize hz : (I + K) % n = z at *
                have HZ := Lib.hid hz
                clear hx hy hz
                cases hb : matchB f n g I K with
                | false =>
                  have HB := Lib.hid hb
                  clear hb
                  go_wp2_with fail
                  go_roundw
                  case rel => exact ⟨K + 1, by omega, by go_num, by rw [HS.out, HB.out]; rfl, _, rfl⟩
                  case measure => simp [intOf]; omega
                | true =>
                  have HB := Lib.hid hb
                  clear hb
                  rw [← HZ.out] at h3
                  have hlm2 : ((I : Int) + K) % n < n := Int.emod_lt_of_pos _ (by omega)
                  have hlm3 : 0 ≤ ((I : Int) + K) % n := Int.emod_nonneg _ (by omega)
                  clear hlm
                  go_wp2_with fail
                  go_roundw
                  case rel => exact ⟨K + 1, by omega, by go_num, by rw [HS.out, HB.out]; rfl, _, rfl⟩
                  case measure => simp [intOf]; omega
              · have hke : K = m := by omega
                subst hke
                cases hb : matchB f n g I K with
                | false =>
                  have HA2 := Lib.hid (show ∀ j, j < I + 1 → matchB f n g j K = false from fun j hj => by
                    by_cases e : j = I
                    · subst e; exact hb
                    · exact HA.out j (by omega))
                  clear hb
                  go_wp2_with fail
                  go_roundw
                  case rel => exact ⟨I + 1, by omega, by go_num, HA2.out, _, rfl⟩
                  case measure => simp [intOf]; omega
                | true =>
                  have HF := Lib.hid (firstAt_yes hlt hb HA.out)
                  clear hb
                  go_wp2_with fail
                  go_ret2
                  exact givesAt_some (HY.out.trans HF.out) _ _
          · have hie : I = n := by omega
            subst hie
            clear hlt
            have HF := Lib.hid (firstAt_no HA.out)
            go_wp2_with fail
            go_ret2
            exact givesAt_none (HY.out.trans HF.out) _ _
      · have HN := Lib.hid (wordV_no (f := f) (n := n) (g := g) (m := m) (fun e => hmn e.2.2))
        have hb3 : n < m := by omega
        have Hf := Lib.hid hf
        have Hg := Lib.hid hg
        clear hf hg hmn
        go_enter Try.func20, Try.ntmps20
        go_wp2_with fail
        refine (areBits_any A n c B f 64 _ hn (by omega) h).mono ?_
        rw [Hf.out]
        rintro e w' ⟨rfl, rfl⟩
        go_wp2_with fail
        refine (areBits_any A' m c' B g 6 _ hm (by omega) h').mono ?_
        rw [Hg.out]
        rintro e w' ⟨rfl, rfl⟩
        go_wp2_with fail
        go_ret2
        exact givesAt_none HN.out _ 0
end Go.Proofs.Ytajbepbggfbmpaa
