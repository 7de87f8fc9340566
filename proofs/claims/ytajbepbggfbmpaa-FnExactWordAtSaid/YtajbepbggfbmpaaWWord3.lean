/- FnExactWordAt returns true. -/
import Derived.Test.YtajbepbggfbmpaaWWord2
set_option linter.unusedVariables false
set_option linter.unusedSimpArgs false
namespace Go.Proofs.Ytajbepbggfbmpaa
open Go.RowKit
set_option maxHeartbeats 1600000 in
theorem fnExactWordAt_walk (w : World) (A : Option Addr) (n c : Nat) (f : Nat → Int) (hnc : n ≤ c) (hcm : c ≤ maxLen) (hr : Row w w.heap.size A n (fun j => .int .i64 (f j))) (hw : ∀ j, j < n → (Lit.int .i64 (f j)).wf = true)
    (A' : Option Addr) (m c' : Nat) (g : Nat → Int) (hnc' : m ≤ c') (hcm' : c' ≤ maxLen) (hr' : Row w w.heap.size A' m (fun j => .int .i64 (g j))) (hw' : ∀ j, j < m → (Lit.int .i64 (g j)).wf = true) :
    Calls Try.prog 6 #[.slice A n c, .slice A' m c'] w fun e w' => e = .returned (.bool true) ∧ Below w.heap.size w w' := by
  clear hw hw'
  unfold maxLen at hcm hcm'
  by_cases hn : n ≤ 1048576
  · by_cases hm : m ≤ 1048576
    · generalize hd : wordV f n g m = d
      have Hd := Lib.hid hd
      clear hd
      have hdd : (((d.getD 0 : Nat) : Int) != ((d.getD 0 : Nat) : Int)) = false := by simp
      have hde : (d.isSome != d.isSome) = false := by simp
      go_enter Try.func6, Try.ntmps6
      go_wp2_with fail
      refine (toInts_any A n c _ f _ hn (Nat.le_refl _) hr).mono ?_
      rintro e w1 ⟨v1, rfl, hb1, ys1, hown1, hcp1⟩
      obtain ⟨A1, c1, rfl, hr1⟩ := own_row hown1
      have hR1 := Copied.row hr1 hcp1
      have hs1 := hb1.size
      clear hr1 hcp1 hown1
      go_wp2_with fail
      refine (toInts_any A' m c' _ g _ hm hs1 (hr'.below hb1)).mono ?_
      rintro e w2 ⟨v2, rfl, hb2, ys2, hown2, hcp2⟩
      obtain ⟨A2, c2, rfl, hr2⟩ := own_row hown2
      have hR2 := Copied.row hr2 hcp2
      have hR12 := (hR1.below hb2).mono hb2.size
      have hB2 := hb1.trans (hb2.mono hs1)
      have hs2 := hB2.size
      clear hr2 hcp2 hown2 hb2 hb1 hR1 hs1
      go_wp2_with fail
      refine (specWordAt_any A1 A2 n c1 m c2 _ f g _ hn hm hR12 hR2).mono ?_
      rw [Hd.out]
      rintro e w3 ⟨rfl, q3, rfl⟩
      have hB3 := below_drewN hB2 q3
      have hs3 := hB3.size
      clear hR12 hR2 hB2 hs2
      go_wp2_with fail
      refine (toInts_any A n c _ f _ hn hs3 (hr.below hB3)).mono ?_
      rintro e w4 ⟨v4, rfl, hb4, ys4, hown4, hcp4⟩
      obtain ⟨A4, c4, rfl, hr4⟩ := own_row hown4
      have hR4 := Copied.row hr4 hcp4
      have hB4 := hB3.trans (hb4.mono hs3)
      have hs4 := hB4.size
      clear hr4 hcp4 hown4 hb4 hB3 hs3
      go_wp2_with fail
      refine (toInts_any A' m c' _ g _ hm hs4 (hr'.below hB4)).mono ?_
      rintro e w5 ⟨v5, rfl, hb5, ys5, hown5, hcp5⟩
      obtain ⟨A5, c5, rfl, hr5⟩ := own_row hown5
      have hR5 := Copied.row hr5 hcp5
      have hR45 := (hR4.below hb5).mono hb5.size
      have hB5 := hB4.trans (hb5.mono hs4)
      have hs5 := hB5.size
      clear hr5 hcp5 hown5 hb5 hB4 hs4 hR4
      go_wp2_with fail
      refine (implWordAt_any A4 A5 n c4 m c5 _ f g _ hn hm hR45 hR5).mono ?_
      rw [Hd.out]
      rintro e w6 ⟨rfl, q6, rfl⟩
      have hB6 := below_drewN hB5 q6
      have hs6 := hB6.size
      have hR46 := hR45.drewN q6
      have hR56 := hR5.drewN q6
      clear hR45 hR5 hB5 hs5
      go_wp2_with fail
      refine (toInts_any A n c _ f _ hn hs6 (hr.below hB6)).mono ?_
      rintro e w7 ⟨v7, rfl, hb7, ys7, hown7, hcp7⟩
      obtain ⟨A7, c7, rfl, hr7⟩ := own_row hown7
      have hR7 := Copied.row hr7 hcp7
      have hR47 := hR46.below hb7
      have hR57 := hR56.below hb7
      have hB7 := hB6.trans (hb7.mono hs6)
      have hs7 := hB7.size
      have hs67 := hb7.size
      clear hr7 hcp7 hown7 hb7 hB6 hs6 hR46 hR56
      go_wp2_with fail
      refine (eqInts_same A4 A7 n c4 c7 f _ _ _ (by omega) hR47 hR7).mono ?_
      rintro e w8 ⟨rfl, q8, rfl⟩
      have hB8 := below_drewN hB7 q8
      have hs8 := hB8.size
      have hR58 := hR57.drewN q8
      clear hR47 hR7 hB7 hs7 hR57
      go_wp2_with fail
      refine (toInts_any A' m c' _ g _ hm hs8 (hr'.below hB8)).mono ?_
      rintro e w9 ⟨v9, rfl, hb9, ys9, hown9, hcp9⟩
      obtain ⟨A9, c9, rfl, hr9⟩ := own_row hown9
      have hR9 := Copied.row hr9 hcp9
      have hR59 := hR58.below (hb9.mono hs67)
      have hB9 := hB8.trans (hb9.mono hs8)
      clear hr9 hcp9 hown9 hb9 hB8 hs8 hR58
      go_wp2_with fail
      refine (eqInts_same A5 A9 m c5 c9 g _ _ _ (by omega) hR59 hR9).mono ?_
      rintro e w10 ⟨rfl, q10, rfl⟩
      go_wp2_with fail
      go_ret
      exact ⟨rfl, below_drewN hB9 _⟩
    · have hm' : 1048576 < m := by omega
      clear hm
      go_enter Try.func6, Try.ntmps6
      go_wp2_with fail
      go_ret
      exact ⟨rfl, Below.refl _ _⟩
  · have hn' : 1048576 < n := by omega
    clear hn
    go_enter Try.func6, Try.ntmps6
    go_wp2_with fail
    go_ret
    exact ⟨rfl, Below.refl _ _⟩
end Go.Proofs.Ytajbepbggfbmpaa
