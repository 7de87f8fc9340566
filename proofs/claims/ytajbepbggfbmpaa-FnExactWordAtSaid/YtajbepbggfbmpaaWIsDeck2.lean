/- IsDeck of the program; the law FnExactIsDeck. -/
import Derived.Test.YtajbepbggfbmpaaWIsDeck
set_option linter.unusedVariables false
set_option linter.unusedSimpArgs false
namespace Go.Proofs.Ytajbepbggfbmpaa
open Go.RowKit

theorem info_bool : (Try.prog.info? 4).map (fun i => (i.zero, i.size, i.bytes)) = some (some (.bool false), 1, 1) := by kernel_rfl

/-- Which numbers have been seen among the first k. -/
def Seen (f : Nat → Int) (n k : Nat) (ys : List Value) : Prop := ∀ m : Nat, m < n → ys[m]? = some (.bool (hasB f k (m : Int)))

theorem Seen.step {f : Nat → Int} {n k m : Nat} {ys : List Value} (h : Seen f n k ys) (hl : ys.length = n) (hm : m < n) (hf : f k = (m : Int)) : Seen f n (k + 1) (ys.set m (.bool true)) := by
  intro j hj
  rw [hasB_succ]
  by_cases e : j = m
  · subst e
    rw [List.getElem?_set_self (by omega), hf]; simp
  · rw [List.getElem?_set_ne (by omega), h j hj, hf]
    have : ((m : Int) == (j : Int)) = false := by rw [beq_eq_false_iff_ne]; omega
    rw [this, Bool.or_false]

set_option maxHeartbeats 800000 in
theorem isOrder_any (A : Option Addr) (n c B : Nat) (f : Nat → Int) (w : World) (hn : n ≤ 52) (hB : B ≤ w.heap.size) (h : Row w B A n (fun j => .int .i64 (f j))) :
    Calls Try.prog 30 #[.slice A n c] w fun e w' => e = .returned (.bool (ordB f n)) ∧ Below w.heap.size w w' := by
  obtain ⟨i0, hi, hz0, hz1, hz2⟩ := info_parts info_bool
  go_enter Try.func30, Try.ntmps30
  go_wp2_with (at_make; refine wpList_make_full _ rfl _ _ 38 rfl w.heap.size 4 i0 (.bool false) 1 Try.underlying38 hi hz0 hz1 _ _ _ _ n rfl rfl rfl rfl (by rw [hz2]; omega) (by unfold maxLen; omega) (Nat.le_refl _) ?_; intro w1 hown hgrow)
  have hb1 : Below w.heap.size w w1 := (Below.refl _ w).grown hgrow (Nat.le_refl _) (fun k hk => by cases hk)
  rw [show (madeCells (Value.bool false).cells (n * 1)).toList = List.replicate n (Value.bool false) from by rw [Nat.mul_one]; exact toList_madeCells_one _ _] at hown
  clear hgrow
  go_loopw [5, 11] (fun _ i wr => ∃ k : Nat, k ≤ n ∧ i = .int .i64 k ∧ Below w.heap.size w wr ∧ (∀ j, j < k → goodAt f n j = true) ∧ ∃ ys, wr.ownsRow w.heap.size 4 1 (.slice (some ⟨w.heap.size, 0, none⟩) n n) n ys ∧ Seen f n k ys) (fun _ i _ => n - (intOf i).toNat)
  case atStart => exact ⟨0, Nat.zero_le _, rfl, hb1, fun j hj => absurd hj (by omega), _, hown, fun m hm => by simp [hm, hasB_zero]⟩
  case round =>
    obtain ⟨k, hk, rfl, hb, hall, ys, hys, hseen⟩ := hrel
    clear hown hb1
    by_cases hlt : k < n
    · obtain ⟨b, off, rfl, hbB, hc⟩ := h (by omega)
      have hc1 : wr.cell? ⟨b, off + k, none⟩ = some (.int .i64 (f k)) := (hb.cell (p := ⟨b, off + k, none⟩) (by simp; omega)).trans (hc k hlt)
      clear hc h
      rcases inB_cases (f k) 0 ((n : Int) - 1) with ⟨hin, hi1, hi2⟩ | ⟨hin, _⟩
      · obtain ⟨m, hm⟩ := Int.eq_ofNat_of_zero_le hi1
        have hmn : m < n := by omega
        have hlen := own_len hys
        have hcm := hys.cellAt m (by omega)
        have hfm := hys.frozenAt m
        rw [hseen m hmn, ← hm] at hcm
        cases hh : hasB f k (f k) with
        | true =>
          have hno := Lib.hid (ordB_no hlt (show goodAt f n k = false by unfold goodAt; rw [hh]; simp))
          rw [hh] at hcm
          clear hh hall hseen hys
          rw [hm] at hc1 hin
          have Hin := Lib.hid hin
          clear hin hm hi1 hi2
          go_wp2_with (go_at_call 27; refine (within_any _ _ _ _).mono ?_; rw [Hin.out]; rintro e w' ⟨rfl, rfl⟩)
          go_ret
          exact ⟨ret_bool hno.out.symm, hb⟩
        | false =>
          have hg : goodAt f n k = true := by unfold goodAt; rw [hin, hh]; rfl
          have hall' : ∀ j, j < k + 1 → goodAt f n j = true := fun j hj => by
            by_cases e : j = k
            · subst e; exact hg
            · exact hall j (by omega)
          have HA := Lib.hid hall'
          have HS := Lib.hid (And.intro (hys.stored m (.bool true)) (hseen.step hlen hmn hm))
          have hbs : Below w.heap.size w (wr.setCell ⟨w.heap.size, m, none⟩ (.bool true)) := hb.setCell (Nat.le_refl _) _
          rw [hh] at hcm
          clear hh hall hall' hg hseen hys
          rw [hm] at hc1 hin
          have Hin := Lib.hid hin
          clear hin hm hi1 hi2 hlen
          go_wp2_with (go_at_call 27; refine (within_any _ _ _ _).mono ?_; rw [Hin.out]; rintro e w' ⟨rfl, rfl⟩)
          go_roundw
          case rel => exact ⟨k + 1, by omega, by go_num, hbs, HA.out, _, HS.out.1.1, HS.out.2⟩
          case measure => simp [intOf]; omega
      · have hno := Lib.hid (ordB_no hlt (show goodAt f n k = false by unfold goodAt; rw [hin]; rfl))
        have Hin := Lib.hid hin
        clear hin hall hseen hys
        generalize hx : f k = x at *
        clear hx
        go_wp2_with (go_at_call 27; refine (within_any _ _ _ _).mono ?_; rw [Hin.out]; rintro e w' ⟨rfl, rfl⟩)
        go_ret
        exact ⟨ret_bool hno.out.symm, hb⟩
    · have hke : k = n := by omega
      subst hke
      have hy := Lib.hid (ordB_yes hall)
      clear hlt hall hseen hys
      go_wp2
      go_ret
      exact ⟨ret_bool hy.out.symm, hb⟩
theorem implIsDeck_any (A : Option Addr) (n c B : Nat) (f : Nat → Int) (w : World) (hn : n ≤ 1048576) (hB : B ≤ w.heap.size) (h : Row w B A n (fun j => .int .i64 (f j))) :
    Calls Try.prog 16 #[.slice A n c] w fun e w' => e = .returned (.bool (deckB f n)) ∧ Below w.heap.size w w' := by
  by_cases h1 : 1 ≤ n
  · by_cases h2 : n ≤ 52
    · have hd : deckB f n = ordB f n := by unfold deckB; rw [decide_eq_true h1, decide_eq_true h2]; rfl
      rw [hd]
      clear hd
      go_enter Try.func16, Try.ntmps16
      go_wp2_with (go_at_call 30; refine (isOrder_any A n c B f _ h2 hB h).mono ?_; rintro e w' ⟨rfl, hb⟩)
      go_ret
      exact ⟨rfl, hb⟩
    · have hd : deckB f n = false := by unfold deckB; rw [decide_eq_false h2]; simp
      rw [hd]
      have h3 : 52 < n := by omega
      clear hd h2
      go_enter Try.func16, Try.ntmps16
      go_wp2_with fail
      go_ret
      exact ⟨rfl, Below.refl _ _⟩
  · have hd : deckB f n = false := by unfold deckB; rw [decide_eq_false h1]; rfl
    rw [hd]
    obtain rfl : n = 0 := by omega
    clear hd h1
    go_enter Try.func16, Try.ntmps16
    go_wp2_with fail
    go_ret
    exact ⟨rfl, Below.refl _ _⟩
theorem Copied.row {w : World} {B n : Nat} {A : Option Addr} {ys : List Value} {f : Nat → Value} (h : Row w B A n (fun j => ys.getD j undef)) (hc : Copied ys f n) : Row w B A n f :=
  h.congr fun j hj => by rw [List.getD_eq_getElem?_getD, hc j hj]; rfl
set_option maxHeartbeats 1000000 in
theorem fnExactIsDeck_walk (w : World) (A : Option Addr) (n c : Nat) (f : Nat → Int) (hnc : n ≤ c) (hcm : c ≤ maxLen) (hr : Row w w.heap.size A n (fun j => .int .i64 (f j))) (hw : ∀ j, j < n → (Lit.int .i64 (f j)).wf = true) :
    Calls Try.prog 4 #[.slice A n c] w fun e w' => e = .returned (.bool true) ∧ Below w.heap.size w w' := by
  clear hw
  unfold maxLen at hcm
  by_cases hn : n ≤ 1048576
  · generalize hd : deckB f n = d
    have Hd := Lib.hid hd
    clear hd
    have hdd : (d != d) = false := by simp
    go_enter Try.func4, Try.ntmps4
    go_wp2_with fail
    refine (toInts_any A n c _ f _ hn (Nat.le_refl _) hr).mono ?_
    rintro e w1 ⟨v1, rfl, hb1, ys1, hown1, hcp1⟩
    obtain ⟨A1, c1, rfl, hr1⟩ := own_row hown1
    have hR1 := Copied.row hr1 hcp1
    have hc1 := own_cap hown1
    clear hr1 hcp1 hown1
    go_wp2_with fail
    refine (specIsDeck_any A1 n c1 _ f _ hn hc1 hR1).mono ?_
    rw [Hd.out]
    rintro e w2 ⟨rfl, q1, rfl⟩
    have hra := (hr.below hb1).drewN q1
    have hb2 : Below w.heap.size w (w1.drewN q1) := below_drewN hb1 q1
    have hs2 := hb2.size
    clear hR1 hc1 hb1
    go_wp2_with fail
    refine (toInts_any A n c _ f _ hn hs2 hra).mono ?_
    rintro e w3 ⟨v3, rfl, hb3, ys3, hown3, hcp3⟩
    obtain ⟨A3, c3, rfl, hr3⟩ := own_row hown3
    have hR3 := Copied.row hr3 hcp3
    clear hr3 hcp3 hown3
    have hb3' : Below w.heap.size w w3 := hb2.trans (hb3.mono hs2)
    have hra3 := hra.below (hb3.mono hs2)
    clear hra hb2 hs2
    go_wp2_with fail
    refine (implIsDeck_any A3 n c3 _ f _ hn (Nat.le_refl _) hR3).mono ?_
    rw [Hd.out]
    rintro e w4 ⟨rfl, hb4⟩
    have hs3 := hb3'.size
    have hR4 := hR3.below hb4
    have hra4 := hra3.below (hb4.mono hs3)
    have hb4' : Below w.heap.size w w4 := hb3'.trans (hb4.mono hs3)
    have hs34 := hb4.size
    clear hR3 hra3 hb3 hb3' hb4
    go_wp2_with fail
    refine (toInts_any A n c _ f _ hn (by omega) hra4).mono ?_
    rintro e w5 ⟨v5, rfl, hb5, ys5, hown5, hcp5⟩
    obtain ⟨A5, c5, rfl, hr5⟩ := own_row hown5
    have hR5 := Copied.row hr5 hcp5
    have hR45 := hR4.below (hb5.mono hs34)
    have hb5' : Below w.heap.size w w5 := hb4'.trans (hb5.mono (by omega))
    clear hr5 hcp5 hown5 hR4 hra4 hb4' hb5
    go_wp2_with fail
    refine (eqInts_same A3 A5 n c3 c5 f _ _ _ (by omega) hR45 hR5).mono ?_
    rintro e w6 ⟨rfl, q2, rfl⟩
    go_wp2_with fail
    go_ret
    exact ⟨rfl, below_drewN hb5' _⟩
  · have hn' : 1048576 < n := by omega
    clear hn
    go_enter Try.func4, Try.ntmps4
    go_wp2_with fail
    go_ret
    exact ⟨rfl, Below.refl _ _⟩
end Go.Proofs.Ytajbepbggfbmpaa
