/- SumNumbers: contracts and the law. -/
import Derived.Test.YtecglaggmheokaaWFrom
import Derived.Test.YtecglaggmheokaaFloats
set_option linter.unusedVariables false
set_option linter.unusedSimpArgs false
namespace Go.Proofs.Ytecglaggmheokaa
open Go.RowKit

/-- Sums and sums of products, from left to right. -/
def sumV (f : Nat → Nat) : Nat → Option Nat
  | 0 => some 0
  | k + 1 => fop .add .f32 (sumV f k) (val .f32 (f k))
def dotV (f g : Nat → Nat) : Nat → Option Nat
  | 0 => some 0
  | k + 1 => fop .add .f32 (dotV f g k) (fop .mul .f32 (val .f32 (f k)) (val .f32 (g k)))

theorem sumV_step {f : Nat → Nat} {k r r2 : Nat} (h : FIs .f32 r (sumV f k)) (h2 : FIs .f32 r2 (fop .add .f32 (val .f32 r) (val .f32 (f k)))) : FIs .f32 r2 (sumV f (k + 1)) := by
  rw [h.out] at h2; exact h2

set_option maxHeartbeats 800000 in
theorem l01Sum_any (A : Option Addr) (n c B : Nat) (f : Nat → Nat) (w : World) (hn : n ≤ 1048576) (h : Row w B A n (fun j => .float .f32 (f j))) :
    Calls Try.prog 52 #[.slice A n c] w fun e w' => RetF .f32 (sumV f n) w e w' := by
  go_enter Try.func52, Try.ntmps52
  go_wp2
  go_loopw [3, 4] (fun s i wr => ∃ k : Nat, k ≤ n ∧ i = .int .i64 k ∧ ∃ r q, s = .float .f32 r ∧ FIs .f32 r (sumV f k) ∧ wr = w.drewN q) (fun _ i _ => n - (intOf i).toNat)
  case atStart => exact ⟨0, Nat.zero_le _, rfl, _, 0, rfl, fis_zero, rfl⟩
  case round =>
    obtain ⟨k, hk, rfl, r, q, rfl, hr, rfl⟩ := hrel
    by_cases hlt : k < n
    · obtain ⟨b, off, rfl, _, hc⟩ := h (by omega)
      have h1 : w.cell? ⟨b, off + k, none⟩ = some (.float .f32 (f k)) := hc k hlt
      clear hc h
      go_wp2_with (refine wpList_fop rfl _ _ _ _ _ rfl rfl _ _ _ rfl rfl ?_; intro r2 n2 hr2)
      go_roundw
      case rel => exact ⟨k + 1, by omega, by go_num, _, _, rfl, sumV_step hr hr2, rfl⟩
      case measure => simp [intOf]; omega
    · have hke : k = n := by omega
      subst hke
      clear hlt
      go_wp2
      go_ret
      exact ⟨_, _, rfl, hr, rfl⟩
set_option maxHeartbeats 800000 in
theorem implSum_any (A : Option Addr) (n c B : Nat) (f : Nat → Nat) (w : World) (hn : n ≤ 1048576) (h : Row w B A n (fun j => .float .f32 (f j))) :
    Calls Try.prog 53 #[.slice A n c] w fun e w' => RetF .f32 (sumV f n) w e w' := by
  go_enter Try.func53, Try.ntmps53
  go_wp2
  go_loopw [3, 5, 8] (fun s _ i wr => ∃ k : Nat, k ≤ n ∧ i = .int .i64 k ∧ ∃ r q, s = .float .f32 r ∧ FIs .f32 r (sumV f k) ∧ wr = w.drewN q) (fun _ _ i _ => n - (intOf i).toNat)
  case atStart => exact ⟨0, Nat.zero_le _, rfl, _, 0, rfl, fis_zero, rfl⟩
  case round =>
    obtain ⟨k, hk, rfl, r, q, rfl, hr, rfl⟩ := hrel
    by_cases hlt : k < n
    · obtain ⟨b, off, rfl, _, hc⟩ := h (by omega)
      have h1 : w.cell? ⟨b, off + k, none⟩ = some (.float .f32 (f k)) := hc k hlt
      clear hc h
      go_wp2_with (refine wpList_fop rfl _ _ _ _ _ rfl rfl _ _ _ rfl rfl ?_; intro r2 n2 hr2)
      go_roundw
      case rel => exact ⟨k + 1, by omega, by go_num, _, _, rfl, sumV_step hr hr2, rfl⟩
      case measure => simp [intOf]; omega
    · have hke : k = n := by omega
      subst hke
      clear hlt
      go_wp2
      go_ret
      exact ⟨_, _, rfl, hr, rfl⟩
theorem l01Few_yes (A : Option Addr) (n c : Nat) (hn : n ≤ 256) (w : World) : Calls Try.prog 51 #[.slice A n c] w fun e w' => e = .returned (.bool true) ∧ w = w' := by
  go_enter Try.func51, Try.ntmps51
  go_wp2_with fail
  go_ret
  exact ⟨ret_bool (decide_eq_true (by omega)), rfl⟩
theorem l01Few_no (A : Option Addr) (n c : Nat) (hn : 256 < n) (w : World) : Calls Try.prog 51 #[.slice A n c] w fun e w' => e = .returned (.bool false) ∧ w = w' := by
  go_enter Try.func51, Try.ntmps51
  go_wp2_with fail
  go_ret
  exact ⟨ret_bool (decide_eq_false (by omega)), rfl⟩
theorem specSum_yes (A : Option Addr) (n c B : Nat) (f : Nat → Nat) (w : World) (hn : n ≤ 256) (h : Row w B A n (fun j => .float .f32 (f j))) :
    Calls Try.prog 20 #[.slice A n c] w fun e w' => RetFB (sumV f n) true w e w' := by
  go_enter Try.func20, Try.ntmps20
  go_wp2_with (first | (go_at_call 51; refine (l01Few_yes A n c hn _).mono ?_; rintro e w' ⟨rfl, rfl⟩) | (go_at_call 52; refine (l01Sum_any A n c B f _ (by omega) h).mono ?_; rintro e w' ⟨r, q, rfl, hr, rfl⟩))
  go_ret2
  exact ⟨_, _, rfl, hr, rfl⟩
theorem specSum_no (A : Option Addr) (n c : Nat) (w : World) (hn : 256 < n) : Calls Try.prog 20 #[.slice A n c] w fun e w' => RetFB (some 0) false w e w' := by
  go_enter Try.func20, Try.ntmps20
  go_wp2_with (go_at_call 51; refine (l01Few_no A n c hn _).mono ?_; rintro e w' ⟨rfl, rfl⟩)
  go_ret2
  exact ⟨_, 0, rfl, fis_zero, rfl⟩
theorem implSum_yes (A : Option Addr) (n c B : Nat) (f : Nat → Nat) (w : World) (hn : n ≤ 256) (h : Row w B A n (fun j => .float .f32 (f j))) :
    Calls Try.prog 22 #[.slice A n c] w fun e w' => RetFB (sumV f n) true w e w' := by
  go_enter Try.func22, Try.ntmps22
  go_wp2_with (go_at_call 53; refine (implSum_any A n c B f _ (by omega) h).mono ?_; rintro e w' ⟨r, q, rfl, hr, rfl⟩)
  go_ret2
  exact ⟨_, _, rfl, hr, rfl⟩
theorem implSum_no (A : Option Addr) (n c : Nat) (w : World) (hn : 256 < n) : Calls Try.prog 22 #[.slice A n c] w fun e w' => RetFB (some 0) false w e w' := by
  go_enter Try.func22, Try.ntmps22
  go_wp2_with fail
  go_ret2
  exact ⟨_, 0, rfl, fis_zero, rfl⟩
set_option maxHeartbeats 1000000 in
theorem fnExactSumNumbers_core (w : World) (A : Option Addr) (n c : Nat) (f : Nat → Nat) (v : Option Nat) (ok : Bool) (hn : n ≤ 1048576) (hr : Row w w.heap.size A n (fun j => .float .f32 (f j)))
    (hS : ∀ (A : Option Addr) (c B : Nat) (w : World), Row w B A n (fun j => .float .f32 (f j)) → Calls Try.prog 20 #[.slice A n c] w fun e w' => RetFB v ok w e w')
    (hI : ∀ (A : Option Addr) (c B : Nat) (w : World), Row w B A n (fun j => .float .f32 (f j)) → Calls Try.prog 22 #[.slice A n c] w fun e w' => RetFB v ok w e w') :
    Calls Try.prog 5 #[.slice A n c] w fun e w' => e = .returned (.bool true) ∧ Below w.heap.size w w' := by
  have HS := Lib.hid hS
  have HI := Lib.hid hI
  clear hS hI
  have hok : (ok != ok) = false := by simp
  go_enter Try.func5, Try.ntmps5
  go_wp2_with fail
  refine (toFloats_any A n c _ f _ hn (Nat.le_refl _) hr).mono ?_
  rintro e w1 ⟨v1, rfl, hb1, ys1, hown1, hcp1⟩
  obtain ⟨A1, c1, rfl, hr1⟩ := own_row hown1
  have hR1 := Copied.row hr1 hcp1
  clear hr1 hcp1 hown1
  go_wp2_with fail
  refine (HS.out _ _ _ _ hR1).mono ?_
  rintro e w2 ⟨r2, q2, rfl, hv2, rfl⟩
  have hra := (hr.below hb1).drewN q2
  have hb2 : Below w.heap.size w (w1.drewN q2) := below_drewN hb1 q2
  have hs2 := hb2.size
  clear hR1 hb1
  go_wp2_with fail
  refine (toFloats_any A n c _ f _ hn hs2 hra).mono ?_
  rintro e w3 ⟨v3, rfl, hb3, ys3, hown3, hcp3⟩
  obtain ⟨A3, c3, rfl, hr3⟩ := own_row hown3
  have hR3 := Copied.row hr3 hcp3
  clear hr3 hcp3 hown3
  have hb3' : Below w.heap.size w w3 := hb2.trans (hb3.mono hs2)
  have hra3 := hra.below (hb3.mono hs2)
  have hs3 := hb3'.size
  clear hra hb2 hs2 hb3
  go_wp2_with fail
  refine (HI.out _ _ _ _ hR3).mono ?_
  rintro e w4 ⟨r4, q4, rfl, hv4, rfl⟩
  have tok : True := trivial
  go_wp2_with (first | (have _t := tok; refine wpList_wide rfl _ _ _ rfl (by kernel_rfl) (by kernel_rfl) _ rfl ?_; intro a1 m1 ha1; clear tok) | (refine wpList_wide rfl _ _ _ rfl (by kernel_rfl) (by kernel_rfl) _ rfl ?_; intro a2 m2 ha2))
  rw [hv4.out] at ha1
  rw [hv2.out] at ha2
  refine (sameFloat_same _ _ _ ha1 ha2 _).mono ?_
  rintro e w5 ⟨rfl, n5, rfl⟩
  go_wp2_with fail
  refine (toFloats_any A n c _ f _ hn (by simpa using hs3) (hra3.drewN _)).mono ?_
  rintro e w6 ⟨v6, rfl, hb6, ys6, hown6, hcp6⟩
  obtain ⟨A6, c6, rfl, hr6⟩ := own_row hown6
  have hR6 := Copied.row hr6 hcp6
  have hR36 : Row w6 _ A3 n (fun j => .float .f32 (f j)) := Row.below (Row.drewN hR3 _) hb6
  have hb6' : Below w.heap.size w w6 := (below_drewN hb3' _).trans (hb6.mono hs3)
  clear hr6 hcp6 hown6 hR3 hra3 hb3' hb6
  go_wp2_with fail
  refine (eqFloats_same A3 A6 n c3 c6 f _ _ _ (by omega) hR36 hR6).mono ?_
  rintro e w7 ⟨rfl, q7, rfl⟩
  go_wp2_with fail
  go_ret
  exact ⟨rfl, below_drewN hb6' _⟩
theorem fnExactSumNumbers_walk (w : World) (A : Option Addr) (n c : Nat) (f : Nat → Nat) (hnc : n ≤ c) (hcm : c ≤ maxLen) (hr : Row w w.heap.size A n (fun j => .float .f32 (f j))) (hw : ∀ j, j < n → f j < 4294967296) :
    Calls Try.prog 5 #[.slice A n c] w fun e w' => e = .returned (.bool true) ∧ Below w.heap.size w w' := by
  unfold maxLen at hcm
  by_cases hn : n ≤ 1048576
  · by_cases h2 : n ≤ 256
    · exact fnExactSumNumbers_core w A n c f _ _ hn hr (fun A c B w h => specSum_yes A n c B f w h2 h) (fun A c B w h => implSum_yes A n c B f w h2 h)
    · exact fnExactSumNumbers_core w A n c f _ _ hn hr (fun A c B w h => specSum_no A n c w (by omega)) (fun A c B w h => implSum_no A n c w (by omega))
  · have hn' : 1048576 < n := by omega
    clear hn hw hr
    go_enter Try.func5, Try.ntmps5
    go_wp2_with fail
    go_ret
    exact ⟨rfl, Below.refl _ _⟩
end Go.Proofs.Ytecglaggmheokaa
