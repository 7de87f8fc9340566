/- A []byte that came in. -/
import Derived.Test.YtecncnkbgfjdcaaZOpen
set_option linter.unusedVariables false
set_option linter.unusedSimpArgs false
namespace Go.Proofs.Ytecncnkbgfjdcaa
open Go.RowKit Go.ChangeShapes Go.WideShapes

section
variable {H : Type} {enc : TypeId × Value → H} {W W' : World}
/-- A []byte that came in. -/
theorem open_bslice {t e : TypeId} {v : Value} {d : DataW H} {ps : List MemPlace} (ht : Try.prog.underlying t = some (.slice e)) (hc : Try.prog.cellsOf e = 1) (he : Try.prog.underlying e = some (.int .u8)) (hval : Value.okWide Try.prog W .any 0 t v)
    (h : DataW.Trod enc Try.prog W 0 (fun _ => true) true t v d ps) :
    ∃ A n c, ∃ f : Nat → Int, v = .slice A n c ∧ n ≤ c ∧ c ≤ maxLen ∧ Row W W.heap.size A n (fun j => .int .u8 (f j)) ∧ ∀ j, j < n → (Lit.int .u8 (f j)).wf = true := by
  obtain ⟨A, n, c, rfl, h1, h2, h3⟩ := open_cells ht hc hval h
  by_cases hn : 0 < n
  · obtain ⟨b, off, rfl, hlt, hcell⟩ := h3 hn
    have hex : ∀ j, j < n → ∃ m, W.cell? ⟨b, off + j, none⟩ = some (.int .u8 m) ∧ (Lit.int .u8 m).wf = true := by
      intro j hj
      obtain ⟨u, k, y, hu, hy⟩ := hcell j hj
      obtain ⟨m, rfl, hw⟩ := cell_int he hy
      exact ⟨m, hu, hw⟩
    refine ⟨_, n, c, fun j => asInt ((W.cell? ⟨b, off + j, none⟩).getD undef), rfl, h1, h2, fun _ => ⟨b, off, rfl, hlt, fun j hj => ?_⟩, fun j hj => ?_⟩
    · obtain ⟨m, hm, _⟩ := hex j hj
      show W.cell? _ = some (.int .u8 (asInt ((W.cell? ⟨b, off + j, none⟩).getD undef)))
      rw [hm]; rfl
    · obtain ⟨m, hm, hw⟩ := hex j hj
      show (Lit.int .u8 (asInt ((W.cell? ⟨b, off + j, none⟩).getD undef))).wf = true
      rw [hm]; exact hw
  · exact ⟨A, n, c, fun _ => 0, rfl, h1, h2, fun h => absurd h hn, fun j hj => absurd hj (by omega)⟩
end

theorem b10Long_short (A : Option Addr) (n c : Nat) (B : Option Addr) (m d : Nat) (h1 : n ≤ 1048576) (h2 : m ≤ 1048576) (w : World) :
    Calls Try.prog 5 #[.slice A n c, .slice B m d] w fun e w' => e = .returned (.bool false) ∧ w = w' := by
  have g1 : ¬ (1048576 : Int) < (n : Int) := by omega
  have g2 : ¬ (1048576 : Int) < (m : Int) := by omega
  go_enter Try.func5, Try.ntmps5
  go_wp2_with fail
  go_ret
  exact ⟨rfl, rfl⟩
theorem b10Long_long (A : Option Addr) (n c : Nat) (B : Option Addr) (m d : Nat) (h : ¬ (n ≤ 1048576 ∧ m ≤ 1048576)) (w : World) :
    Calls Try.prog 5 #[.slice A n c, .slice B m d] w fun e w' => e = .returned (.bool true) ∧ w = w' := by
  by_cases h1 : n ≤ 1048576
  · have g1 : ¬ (1048576 : Int) < (n : Int) := by omega
    have g2 : (1048576 : Int) < (m : Int) := by omega
    go_enter Try.func5, Try.ntmps5
    go_wp2_with fail
    go_ret
    exact ⟨rfl, rfl⟩
  · have g1 : (1048576 : Int) < (n : Int) := by omega
    go_enter Try.func5, Try.ntmps5
    go_wp2_with fail
    go_ret
    exact ⟨rfl, rfl⟩
theorem b10At_zero (A : Option Addr) (n c : Nat) (f : Nat → Int) (m : Nat) (hm : 1 < m) (hmx : m < 1000000) (hnm : n ≤ maxLen) (w : World) (B : Nat) (hr : Row w B A n (fun j => .int .u8 (f j))) (hw : ∀ j, j < n → (Lit.int .u8 (f j)).wf = true) :
    Calls Try.prog 6 #[.slice A n c, .int .i64 0, .int .i64 (m : Int)] w fun e w' => (∃ k : Nat, k < m ∧ e = .returned (.int .i64 (k : Int))) ∧ w = w' := by
  have g1 : ¬ (m : Int) ≤ 1 := by omega
  have g2 : ¬ (m : Int) = 0 := by omega
  have g3 : ¬ (m : Int) = -1 := by omega
  by_cases hn : n = 0
  · subst hn
    go_enter Try.func6, Try.ntmps6
    go_wp2_with fail
    go_ret
    exact ⟨⟨11 % m, Nat.mod_lt _ (by omega), by rw [Int.natCast_emod]; rfl⟩, rfl⟩
  · obtain ⟨b, off, rfl, hb, hc⟩ := hr (by omega)
    have hc0 : w.cell? ⟨b, off + 0, none⟩ = some (.int .u8 (f 0)) := hc 0 (by omega)
    have hw0 := hw 0 (by omega)
    have g4 : (0 : Int) < (n : Int) := by omega
    have hv0 : 0 ≤ f 0 ∧ f 0 < 256 := by
      have h1 : IntKind.u8.min ≤ f 0 ∧ f 0 ≤ IntKind.u8.max := by simpa [Lit.wf] using hw0
      have h2 : IntKind.u8.min = 0 := by decide
      have h3 : IntKind.u8.max = 255 := by decide
      omega
    obtain ⟨u, hu0⟩ := Int.eq_ofNat_of_zero_le hv0.1
    rw [hu0] at hc0 hv0
    have hu : u < 256 := by omega
    clear hw0 hv0 hc hr hw
    rw [Nat.add_zero] at hc0
    go_enter Try.func6, Try.ntmps6
    go_wp2_with fail
    go_ret
    refine ⟨⟨u % m, Nat.mod_lt _ (by omega), ?_⟩, rfl⟩
    rw [Int.natCast_emod]
    rfl
end Go.Proofs.Ytecncnkbgfjdcaa
