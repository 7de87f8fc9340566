/- Angles and tenths that are determined; a byte behind the first. -/
import Derived.Test.YtecncnkbgfjdcaaZWCir2
import Derived.Test.YtecncnkbgfjdcaaZWNum
set_option linter.unusedVariables false
set_option linter.unusedSimpArgs false
namespace Go.Proofs.Ytecncnkbgfjdcaa
open Ieee Go.RowKit near

theorem ang_det {y x v : Nat} (hny : num32 y = true) (hnx : num32 x = true) (hly : rg FloatKind.f32.format y < 2139095040) (hlx : rg FloatKind.f32.format x < 2139095040) (hz : ¬ (rg FloatKind.f32.format x = 0 ∧ rg FloatKind.f32.format y = 0)) (hv : angV y x = some v) (w : World) :
    Calls Try.prog 37 #[.float .f32 y, .float .f32 x] w fun e w' => e = .returned (.float .f32 v) ∧ Below w.heap.size w w' := by
  have hy := num_of hny
  have hx := num_of hnx
  have hf : (notFin x || notFin y) = false := by unfold notFin; rw [finB_num hx hlx, finB_num hy hly]; rfl
  have WY := finW_of hy hly (wide_is y hy)
  have WX := finW_of hx hlx (wide_is x hx)
  have hp := pt_of WY WX hz
  have key : Calls Try.prog 37 #[.float .f32 y, .float .f32 x] w (RetFW (angV y x) w) := by
    unfold angV wid
    dsimp only
    generalize FloatKind.f64.encode (FloatKind.f32.decode y) = ry at *
    generalize FloatKind.f64.encode (FloatKind.f32.decode x) = rx at *
    by_cases hx0 : rg FloatKind.f32.format x = 0
    · exact implAng_fin2 y x _ _ _ _ hf WY.eq WX.eq rfl rfl WY.l64 WX.l64 (by rw [order_eq_zero .f32 hx, decide_eq_true hx0]) (by rw [order_eq_zero .f32 hy, decide_eq_false (fun e => hz ⟨hx0, e⟩)]) hp rfl rfl w
    · exact implAng_fin1 y x _ _ _ _ hf WY.eq WX.eq rfl rfl WY.l64 WX.l64 (by rw [order_eq_zero .f32 hx, decide_eq_false hx0]) hp rfl rfl w
  rw [hv] at key
  refine key.mono ?_
  rintro e w' ⟨r, rfl, hr, hb⟩
  have := hr.eq
  subst this
  exact ⟨rfl, hb⟩
theorem angOf_det {y x v : Nat} (h : ∀ w : World, Calls Try.prog 37 #[.float .f32 y, .float .f32 x] w fun e w' => e = .returned (.float .f32 v) ∧ Below w.heap.size w w') (w : World) :
    Calls Try.prog 17 #[.complex .f32 x y] w fun e w' => e = .returned (.float .f32 v) ∧ Below w.heap.size w w' := by
  have H := Lib.hid h
  clear h
  go_enter Try.func17, Try.ntmps17
  go_wp2_with fail
  refine (H.out _).mono ?_
  rintro e w1 ⟨rfl, hb⟩
  go_wp2_with fail
  go_ret
  exact ⟨rfl, hb⟩
theorem rows_all (a : Nat) (h : a < 100) : rowChk a = true := by
  rcases Nat.lt_or_ge a 71 with h1 | h1
  · exact rows_a a h1
  · have := rows_b (a - 71) (by omega)
    rwa [show 71 + (a - 71) = a by omega] at this
theorem prods_all (i : Nat) (h : i < 64) : prodRow i = true := by
  rcases Nat.lt_or_ge i 45 with h1 | h1
  · exact prod_a i h1
  · have := prod_b (i - 45) (by omega)
    rwa [show 45 + (i - 45) = i by omega] at this
theorem ten_call (n : Nat) (h0 : n ≠ 0) (h1 : n < 65536) : ∃ t F k, Ten (wd n) t F k ∧ ∀ w : World, Calls Try.prog 22 #[.float .f32 (w32 n)] w (GivesIB k true w) := by
  have sx := w32_sx h0 h1
  have sy := wd_sx h0 h1
  obtain ⟨p1, p2, p3, -⟩ := sx.pos h0
  have hw := sx.wide sy
  have hm : Mid (wd n) := by
    obtain ⟨-, -, b1, b2⟩ := wd_e h0 h1
    exact ⟨b1, b2⟩
  obtain ⟨t, F, k, ht⟩ := ten_ex hm
  have hv : fwide (val .f32 (w32 n)) = some (wd n) := by
    rw [val_some p1, ← hw]; rfl
  exact ⟨t, F, k, ht, fun w => implTen_yes _ _ t F k hv hm ht p2 p3 w⟩
theorem one_lv : sChk (logZ (wd 64)) = true ∧ LV (wd 64) = 0 ∧ w32 64 = 1065353216 := by decide +kernel
theorem ten_one {t F : Nat} {k : Int} (h : Ten (wd 64) t F k) : k = 0 := by
  obtain ⟨c1, c2, -⟩ := one_lv
  obtain ⟨a1, a2, -⟩ := wd_e (n := 64) (by decide) (by decide)
  obtain ⟨r1, r2⟩ := ten_rel h c1 a1 a2
  rw [c2] at r1 r2
  unfold TI at r1 r2
  omega
theorem b10At_one (A : Option Addr) (n c : Nat) (f : Nat → Int) (m : Nat) (hm : 1 < m) (hmx : m < 1000000) (hnm : n ≤ maxLen) (w : World) (B : Nat) (hr : Row w B A n (fun j => .int .u8 (f j))) (hw : ∀ j, j < n → (Lit.int .u8 (f j)).wf = true) :
    Calls Try.prog 6 #[.slice A n c, .int .i64 1, .int .i64 (m : Int)] w fun e w' => (∃ k : Nat, k < m ∧ e = .returned (.int .i64 (k : Int))) ∧ w = w' := by
  have g1 : ¬ (m : Int) ≤ 1 := by omega
  have g2 : ¬ (m : Int) = 0 := by omega
  have g3 : ¬ (m : Int) = -1 := by omega
  by_cases hn : n ≤ 1
  · have g4 : ¬ (1 : Int) < (n : Int) := by omega
    clear hr hw
    go_enter Try.func6, Try.ntmps6
    go_wp2_with fail
    go_ret
    exact ⟨⟨48 % m, Nat.mod_lt _ (by omega), by rw [Int.natCast_emod]; rfl⟩, rfl⟩
  · obtain ⟨b, off, rfl, hb, hc⟩ := hr (by omega)
    have hc0 : w.cell? ⟨b, off + 1, none⟩ = some (.int .u8 (f 1)) := hc 1 (by omega)
    have hw0 := hw 1 (by omega)
    have g4 : (1 : Int) < (n : Int) := by omega
    have hv0 : 0 ≤ f 1 ∧ f 1 < 256 := by
      have h1 : IntKind.u8.min ≤ f 1 ∧ f 1 ≤ IntKind.u8.max := by simpa [Lit.wf] using hw0
      have h2 : IntKind.u8.min = 0 := by decide
      have h3 : IntKind.u8.max = 255 := by decide
      omega
    obtain ⟨u, hu0⟩ := Int.eq_ofNat_of_zero_le hv0.1
    rw [hu0] at hc0 hv0
    have hu : u < 256 := by omega
    clear hw0 hv0 hc hr hw
    go_enter Try.func6, Try.ntmps6
    go_wp2_with fail
    go_ret
    refine ⟨⟨u % m, Nat.mod_lt _ (by omega), ?_⟩, rfl⟩
    rw [Int.natCast_emod]
    rfl
theorem same_not (w : World) : Calls Try.prog 23 #[.float .f32 1048576000, .float .f32 0] w fun e w' => e = .returned (.bool false) ∧ w = w' := by
  refine (specSameNumber_any 1048576000 0 (by decide) (by decide) w).mono ?_
  rw [show (bitsZ (val .f32 1048576000) == bitsZ (val .f32 0)) = false by decide +kernel]
  exact fun e w' h => h
end Go.Proofs.Ytecncnkbgfjdcaa
