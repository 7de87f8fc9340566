/- AngleTurns of the program answers a float of one value; a quarter's sine; numbers read back. -/
import Derived.Test.YtdbcajiagjeplaaGreatDoorZWAng3
import Derived.Test.YtdbcajiagjeplaaGreatDoorZWNRd3
import Derived.Test.YtdbcajiagjeplaaGreatDoorZWSrc4
import Derived.Test.YtdbcajiagjeplaaGreatDoorZWNTx
import Derived.Laws.Cover3
set_option linter.unusedVariables false
set_option linter.unusedSimpArgs false
namespace Go.Proofs.YtdbcajiagjeplaaGreatDoor
open Ieee Go.RowKit near
theorem implAng_ex (y x : Nat) : ∃ v, ∀ w : World, Calls Tryz.prog 17 #[.float .f32 y, .float .f32 x] w (RetFW v w) := by
  rcases finB_iff y with ⟨hfy, hny, hly⟩ | ⟨hfy, hy⟩
  · rcases finB_iff x with ⟨hfx, hnx, hlx⟩ | ⟨hfx, hx⟩
    · have hf : (notFin x || notFin y) = false := by unfold notFin; rw [hfx, hfy]; rfl
      by_cases hz : rg FloatKind.f32.format x = 0 ∧ rg FloatKind.f32.format y = 0
      · exact ⟨some 0, fun w => implAng_zero y x hf (by rw [order_eq_zero .f32 hnx, decide_eq_true hz.1]) (by rw [order_eq_zero .f32 hny, decide_eq_true hz.2]) w⟩
      · have WY := finW_of hny hly (wide_is (b := y) hny)
        have WX := finW_of hnx hlx (wide_is (b := x) hnx)
        obtain ⟨o, v, hp⟩ : ∃ o v, Pt (rg FloatKind.f64.format (FloatKind.f64.encode (FloatKind.f32.decode y))) (rg FloatKind.f64.format (FloatKind.f64.encode (FloatKind.f32.decode x))) o v := ⟨_, _, pt_of WY WX hz⟩
        generalize hry0 : FloatKind.f64.encode (FloatKind.f32.decode y) = ry at *
        generalize hrx0 : FloatKind.f64.encode (FloatKind.f32.decode x) = rx at *
        refine ⟨fnarrow (aA o (FloatKind.f32.format.order x 0 == some .lt) (FloatKind.f32.format.order y 0 == some .lt) v), fun w => ?_⟩
        by_cases hx0 : rg FloatKind.f32.format x = 0
        · exact implAng_fin2 y x _ _ _ _ hf WY.eq WX.eq rfl rfl WY.l64 WX.l64 (by rw [order_eq_zero .f32 hnx, decide_eq_true hx0]) (by rw [order_eq_zero .f32 hny, decide_eq_false (fun e => hz ⟨hx0, e⟩)]) hp rfl rfl w
        · exact implAng_fin1 y x _ _ _ _ hf WY.eq WX.eq rfl rfl WY.l64 WX.l64 (by rw [order_eq_zero .f32 hnx, decide_eq_false hx0]) hp rfl rfl w
    · exact ⟨none, fun w => implAng_nan y x (by unfold notFin; rw [hfx]; rfl) w⟩
  · exact ⟨none, fun w => implAng_nan y x (by unfold notFin; rw [hfy]; simp) w⟩
theorem angleOf_any (y x : Nat) (v : Option Nat) (h : ∀ w : World, Calls Tryz.prog 17 #[.float .f32 y, .float .f32 x] w (RetFW v w)) (w : World) : Calls Tryz.prog 18 #[.complex .f32 x y] w (RetFW v w) := by
  have H := Lib.hid h
  clear h
  go_enter Tryz.func18, Tryz.ntmps18
  go_wp2_with fail
  refine (H.out _).mono ?_
  rintro e w1 ⟨r, rfl, hr, hb⟩
  go_wp2_with fail
  go_ret
  exact ⟨_, rfl, hr, hb⟩
theorem sine_quarter : ∃ v, (finB (val .f32 1048576000) = true → SVal (wideW 1048576000) v) ∧ UB v 1176 ∧ STv 1048576000 v = some 1065353216 := by
  have hw : wideW 1048576000 = 4598175219545276416 := by decide +kernel
  have hlt : rg FloatKind.f64.format 4598175219545276416 < 4841369599423283200 := by decide +kernel
  obtain ⟨v, hv, hub⟩ := sval_ex 4598175219545276416
  refine ⟨v, fun _ => by rw [hw]; exact hv, hub, ?_⟩
  obtain ⟨n, tr, W, y0, z, hc, hs⟩ := hv hlt
  have hn : n = 0 := by
    have h := hc.toInt
    rw [show floatToIntVal .f64 4598175219545276416 .i64 = some 0 by decide +kernel] at h
    exact (Option.some.inj h).symm
  subst hn
  have hW : W = 0 := by rw [← hc.near]; decide +kernel
  subst hW
  have hy : y0 = 4598175219545276416 := by
    have h := hc.sub
    rw [show floatBits .sub .f64 4598175219545276416 0 = some 4598175219545276416 by decide +kernel] at h
    exact (Option.some.inj h).symm
  subst hy
  have hS : SW 4598175219545276416 v = v := by
    unfold SW
    rw [if_pos (by decide +kernel), if_neg (by decide +kernel)]
  unfold STv
  rw [hw, hS, if_pos (by decide +kernel), hs]
  decide +kernel
/-- What is flushed. -/
theorem flush_not_sub (v : Option Nat) : subB (flushV v) = false := by
  cases v with
  | none => rfl
  | some b =>
    show subB (some (if b % 2147483648 < 8388608 then b / 2147483648 * 2147483648 else b)) = false
    split
    · show (decide (b / 2147483648 * 2147483648 % 2147483648 ≠ 0) && _) = false
      rw [Nat.mul_mod_left]; rfl
    · rename_i h
      show (_ && decide (b % 2147483648 < 8388608)) = false
      rw [decide_eq_false h, Bool.and_false]
theorem sub_iff_flush (v : Option Nat) : (subB v == (bitsZ v == bitsZ (flushV v))) = false := by
  cases v with
  | none => rfl
  | some b =>
    show ((decide (b % 2147483648 ≠ 0) && decide (b % 2147483648 < 8388608)) == (((b : Nat) : Int) == (((if b % 2147483648 < 8388608 then b / 2147483648 * 2147483648 else b) : Nat) : Int))) = false
    by_cases h : b % 2147483648 < 8388608
    · rw [if_pos h, decide_eq_true h, Bool.and_true]
      by_cases h0 : b % 2147483648 = 0
      · have e : b / 2147483648 * 2147483648 = b := by omega
        rw [e]; simp [h0]
      · have e : ¬ b = b / 2147483648 * 2147483648 := by omega
        have e2 : (((b : Nat) : Int) == ((b / 2147483648 * 2147483648 : Nat) : Int)) = false := by simp; omega
        rw [e2]; simp [h0]
    · rw [if_neg h, decide_eq_false h, Bool.and_false]; simp
theorem val_bits (v : Option Nat) (x : Nat) (h : val .f32 x = v) : val .f32 (bitsN v) = v := by
  cases v with
  | none => show val .f32 2143289344 = none; decide
  | some b => obtain ⟨rfl, _⟩ := val_eq_some h; exact h
/-- The numbers' text is read back. -/
theorem hexN_comma (k n : Nat) : ∀ c ∈ hexN k n, c ≠ 44 := fun c hc => by
  obtain ⟨d, hd, rfl⟩ := hexN_mem k n c hc
  have key : ∀ d : Fin 16, hdig d.val ≠ 44 := by decide
  exact key ⟨d, hd⟩
theorem read_back (f : Nat → Nat) (n : Nat) (hn : n ≤ 256) (hf : ∀ j, j < n → f j < 4294967296) : numsOf (txGL (hxF f) n) = some ((List.range n).map fun j => bitsN (val .f32 (f j))) := by
  match n, hn, hf with
  | 0, _, _ => exact listG_none rfl
  | k + 1, hn, hf =>
    have hne : ¬ txGL (hxF f) (k + 1) = [110, 111, 110, 101] := by
      intro e
      have h1 := congrArg cuts e
      rw [show txGL (hxF f) (k + 1) = txG (hxF f) k from rfl, cuts_txG (hxF f) (fun j => hexN_comma _ _)] at h1
      have h2 := congrArg (fun l => l.head?) h1
      rw [List.range_succ_eq_map] at h2
      simp only [List.map_cons, List.head?_cons] at h2
      have h3 := Option.some.inj (h2.trans (show (cuts [110, 111, 110, 101]).head? = some [110, 111, 110, 101] by decide))
      have h4 := congrArg List.length h3
      rw [hxF_len] at h4
      simp at h4
    have hc : cuts (txGL (hxF f) (k + 1)) = (List.range (k + 1)).map (hxF f) := cuts_txG (hxF f) (fun j => hexN_comma _ _) k
    have hl : (cuts (txGL (hxF f) (k + 1))).length = k + 1 := by rw [hc]; simp
    have hd : ∀ j, j < k + 1 → decX (hxF f j) = some (bitsN (val .f32 (f j))) := fun j hj => decX_some rfl (bitsN_lt (hf j hj)) (canon (f j))
    refine listG_yes (i := k + 1) hne (by omega) ⟨by omega, ?_⟩ (by omega)
    rw [List.take_of_length_le (by omega), hc, List.map_map, List.map_map]
    exact List.map_congr_left fun j hj => hd j (List.mem_range.1 hj)
end Go.Proofs.YtdbcajiagjeplaaGreatDoor
