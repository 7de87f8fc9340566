/- FnExactNumbersText returns true. -/
import Derived.Test.YtdbcajiagjeplaaDoorWNTx
set_option linter.unusedVariables false
set_option linter.unusedSimpArgs false
namespace Go.Proofs.YtdbcajiagjeplaaDoor
open Go.RowKit Go.Lib

theorem copied_rowF {w : World} {B n : Nat} {A : Option Addr} {ys : List Value} {f : Nat → Value} (h : Row w B A n (fun j => ys.getD j undef)) (hc : Copied ys f n) : Row w B A n f :=
  h.congr fun j hj => by rw [List.getD_eq_getElem?_getD, hc j hj]; rfl
theorem RetNT.gen {f : Nat → Nat} {n : Nat} {w w' : World} {e : Ending} {T : ByteArray} {o : Bool} (hT : T = if n ≤ 256 then ⟨(txGL (hxF f) n).toArray⟩ else ⟨#[]⟩) (hO : o = decide (n ≤ 256)) (h : RetNT f n w e w') : e = .returned (.tuple #[.string T, .bool o]) ∧ Below w.heap.size w w' := by
  subst hT; subst hO; exact h
set_option maxRecDepth 20000 in
set_option maxHeartbeats 800000 in
theorem fnExactNumbersText_walk (w : World) (A : Option Addr) (n c : Nat) (f : Nat → Nat) (hnc : n ≤ c) (hcm : c ≤ maxLen) (hr : Row w w.heap.size A n (fun j => .float .f32 (f j))) (hw : ∀ j, j < n → f j < 4294967296) (ht : Tz w) :
    Calls Tryd.prog 6 #[.slice A n c] w fun e w' => e = .returned (.bool true) ∧ Below w.heap.size w w' := by
  by_cases hn : n ≤ 1048576
  · have g1 : ¬ (1048576 : Int) < (n : Int) := by omega
    obtain ⟨T, hT⟩ : ∃ T : ByteArray, T = if n ≤ 256 then ⟨(txGL (hxF f) n).toArray⟩ else ⟨#[]⟩ := ⟨_, rfl⟩
    obtain ⟨o, hO⟩ : ∃ o, o = decide (n ≤ 256) := ⟨_, rfl⟩
    have HT := Lib.hid (And.intro hT hO)
    have HW := Lib.hid hw
    clear hT hO hw
    go_enter Tryd.func6, Tryd.ntmps6
    go_wp2_with fail
    refine (toFloats_any A n c _ f _ hn (Nat.le_refl _) hr).mono ?_
    rintro e w1 ⟨v1, rfl, hb1, ys1, hown1, hcp1⟩
    obtain ⟨A1, c1, rfl, hr1⟩ := own_row hown1
    have hR1 := copied_rowF hr1 hcp1
    clear hr1 hcp1 hown1
    go_wp2_with fail
    refine (specNumbersText_any A1 n c1 f HW.out _ hR1).mono ?_
    intro e w2 hret
    obtain ⟨rfl, hb2⟩ := RetNT.gen HT.out.1 HT.out.2 hret
    clear hret
    have hB2 := hb1.trans (hb2.mono hb1.size)
    have hr2 := hr.below hB2
    clear hb1 hb2 hR1
    go_wp2_with fail
    refine (toFloats_any A n c _ f _ hn hB2.size hr2).mono ?_
    rintro e w3 ⟨v3, rfl, hb3, ys3, hown3, hcp3⟩
    obtain ⟨A3, c3, rfl, hr3⟩ := own_row hown3
    have hR3 := copied_rowF hr3 hcp3
    have hB3 := hB2.trans (hb3.mono hB2.size)
    clear hr3 hcp3 hown3 hb3 hr2 hB2
    go_wp2_with fail
    refine (implNumbersText_any A3 n c3 f HW.out _ hR3 (ht.below (Nat.le_refl _) hB3)).mono ?_
    intro e w4 hret
    obtain ⟨rfl, hb4⟩ := RetNT.gen HT.out.1 HT.out.2 hret
    clear hret
    have hB4 := hB3.trans (hb4.mono hB3.size)
    have hR4 := hR3.below hb4
    have hr4 := hr.below hB4
    have hs4 := hb4.size
    clear hb4 hR3 hB3
    go_wp2_with fail
    refine (toFloats_any A n c _ f _ hn hB4.size hr4).mono ?_
    rintro e w5 ⟨v5, rfl, hb5, ys5, hown5, hcp5⟩
    obtain ⟨A5, c5, rfl, hr5⟩ := own_row hown5
    have hR5 := copied_rowF hr5 hcp5
    have hR45 := hR4.below (hb5.mono hs4)
    have hB5 := hB4.trans (hb5.mono hB4.size)
    clear hr5 hcp5 hown5 hR4 hr4 hB4 hb5
    go_wp2_with fail
    refine (eqFloats_same A3 A5 n c3 c5 f _ _ _ (by omega) hR45 hR5).mono ?_
    rintro e w6 ⟨rfl, q2, rfl⟩
    go_wp2_with fail
    go_ret
    exact ⟨rfl, below_drewN hB5 _⟩
  · have g1 : (1048576 : Int) < (n : Int) := by omega
    go_enter Tryd.func6, Tryd.ntmps6
    go_wp2_with fail
    go_ret
    exact ⟨rfl, Below.refl _ _⟩
end Go.Proofs.YtdbcajiagjeplaaDoor
