/- The law FnExactDotNumbers. -/
import Derived.Test.YtecglaggmheokaaWDot
set_option linter.unusedVariables false
set_option linter.unusedSimpArgs false
namespace Go.Proofs.Ytecglaggmheokaa
open Go.RowKit
theorem specDot_yes (A A' : Option Addr) (n c c' B B' : Nat) (f g : Nat → Nat) (w : World) (hn : n ≤ 256) (h : Row w B A n (fun j => .float .f32 (f j))) (h' : Row w B' A' n (fun j => .float .f32 (g j))) :
    Calls Try.prog 24 #[.slice A n c, .slice A' n c'] w fun e w' => RetFB (dotV f g n) true w e w' := by
  have hne : ((n : Int) != n) = false := by simp
  go_enter Try.func24, Try.ntmps24
  go_wp2_with (first | (go_at_call 51; refine (l01Few_yes A n c hn _).mono ?_; rintro e w' ⟨rfl, rfl⟩) | (go_at_call 54; refine (l01Dot_any A A' n c c' B B' f g _ (by omega) h h').mono ?_; rintro e w' ⟨r, q, rfl, hr, rfl⟩))
  go_ret2
  exact ⟨_, _, rfl, hr, rfl⟩
theorem specDot_no (A A' : Option Addr) (n m c c' : Nat) (w : World) (hn : 256 < n ∨ n ≠ m) :
    Calls Try.prog 24 #[.slice A n c, .slice A' m c'] w fun e w' => RetFB (some 0) false w e w' := by
  by_cases h1 : n ≤ 256
  · have hne : ((n : Int) != m) = true := by rw [bne_iff_ne]; omega
    clear hn
    go_enter Try.func24, Try.ntmps24
    go_wp2_with (go_at_call 51; refine (l01Few_yes A n c h1 _).mono ?_; rintro e w' ⟨rfl, rfl⟩)
    go_ret2
    exact ⟨_, 0, rfl, fis_zero, rfl⟩
  · clear hn
    go_enter Try.func24, Try.ntmps24
    go_wp2_with (go_at_call 51; refine (l01Few_no A n c (by omega) _).mono ?_; rintro e w' ⟨rfl, rfl⟩)
    go_ret2
    exact ⟨_, 0, rfl, fis_zero, rfl⟩
theorem implDot_no (A A' : Option Addr) (n m c c' : Nat) (w : World) (hn : 256 < n ∨ n ≠ m) :
    Calls Try.prog 25 #[.slice A n c, .slice A' m c'] w fun e w' => RetFB (some 0) false w e w' := by
  by_cases h1 : n ≤ 256
  · have hne : ((n : Int) != m) = true := by rw [bne_iff_ne]; omega
    clear hn
    go_enter Try.func25, Try.ntmps25
    go_wp2_with fail
    go_ret2
    exact ⟨_, 0, rfl, fis_zero, rfl⟩
  · have h2 : 256 < n := by omega
    clear hn h1
    go_enter Try.func25, Try.ntmps25
    go_wp2_with fail
    go_ret2
    exact ⟨_, 0, rfl, fis_zero, rfl⟩
set_option maxHeartbeats 2000000 in
theorem fnExactDotNumbers_core (w : World) (A A' : Option Addr) (n m c c' : Nat) (f g : Nat → Nat) (v : Option Nat) (ok : Bool) (hn : n ≤ 1048576) (hm : m ≤ 1048576)
    (hr : Row w w.heap.size A n (fun j => .float .f32 (f j))) (hr' : Row w w.heap.size A' m (fun j => .float .f32 (g j)))
    (hS : ∀ (A A' : Option Addr) (c c' B B' : Nat) (w : World), Row w B A n (fun j => .float .f32 (f j)) → Row w B' A' m (fun j => .float .f32 (g j)) → Calls Try.prog 24 #[.slice A n c, .slice A' m c'] w fun e w' => RetFB v ok w e w')
    (hI : ∀ (A A' : Option Addr) (c c' B B' : Nat) (w : World), Row w B A n (fun j => .float .f32 (f j)) → Row w B' A' m (fun j => .float .f32 (g j)) → Calls Try.prog 25 #[.slice A n c, .slice A' m c'] w fun e w' => RetFB v ok w e w') :
    Calls Try.prog 6 #[.slice A n c, .slice A' m c'] w fun e w' => e = .returned (.bool true) ∧ Below w.heap.size w w' := by
  have HS := Lib.hid hS
  have HI := Lib.hid hI
  clear hS hI
  have hok : (ok != ok) = false := by simp
  go_enter Try.func6, Try.ntmps6
  go_wp2_with fail
  refine (toFloats_any A n c _ f _ hn (Nat.le_refl _) hr).mono ?_
  rintro e w1 ⟨v1, rfl, hb1, ys1, hown1, hcp1⟩
  obtain ⟨A1, c1, rfl, hr1⟩ := own_row hown1
  have hR1 := Copied.row hr1 hcp1
  have ha1 := hr.below hb1
  have hA1 := hr'.below hb1
  have hs1 := hb1.size
  clear hr1 hcp1 hown1
  go_wp2_with fail
  refine (toFloats_any A' m c' _ g _ hm hs1 hA1).mono ?_
  rintro e w2 ⟨v2, rfl, hb2, ys2, hown2, hcp2⟩
  obtain ⟨A2, c2, rfl, hr2⟩ := own_row hown2
  have hR2 := Copied.row hr2 hcp2
  have hR12 := hR1.below hb2
  have ha2 := ha1.below (hb2.mono hs1)
  have hA2 := hA1.below (hb2.mono hs1)
  have hB2 : Below w.heap.size w w2 := hb1.trans (hb2.mono hs1)
  have hs2 := hB2.size
  clear hr2 hcp2 hown2 hR1 ha1 hA1 hb1 hb2 hs1
  go_wp2_with fail
  refine (HS.out _ _ _ _ _ _ _ hR12 hR2).mono ?_
  rintro e w3 ⟨r3, q3, rfl, hv3, rfl⟩
  clear hR12 hR2
  go_wp2_with fail
  refine (toFloats_any A n c _ f _ hn (by simpa using hs2) (ha2.drewN q3)).mono ?_
  rintro e w4 ⟨v4, rfl, hb4, ys4, hown4, hcp4⟩
  obtain ⟨A4, c4, rfl, hr4⟩ := own_row hown4
  have hR4 := Copied.row hr4 hcp4
  have hB4 : Below w.heap.size w w4 := (below_drewN hB2 q3).trans (hb4.mono (by simpa using hs2))
  have hs4 := hB4.size
  have ha4 : Row w4 w.heap.size A n (fun j => .float .f32 (f j)) := (ha2.drewN q3).below (hb4.mono (by simpa using hs2))
  have hA4 : Row w4 w.heap.size A' m (fun j => .float .f32 (g j)) := (hA2.drewN q3).below (hb4.mono (by simpa using hs2))
  clear hr4 hcp4 hown4 ha2 hA2 hB2 hs2 hb4
  go_wp2_with fail
  refine (toFloats_any A' m c' _ g _ hm hs4 hA4).mono ?_
  rintro e w5 ⟨v5, rfl, hb5, ys5, hown5, hcp5⟩
  obtain ⟨A5, c5, rfl, hr5⟩ := own_row hown5
  have hR5 := Copied.row hr5 hcp5
  have hR45 := hR4.below hb5
  have ha5 := ha4.below (hb5.mono hs4)
  have hA5 := hA4.below (hb5.mono hs4)
  have hB5 : Below w.heap.size w w5 := hB4.trans (hb5.mono hs4)
  have hs5 := hB5.size
  have h45 := hb5.size
  clear hr5 hcp5 hown5 hR4 ha4 hA4 hB4 hs4 hb5
  go_wp2_with fail
  refine (HI.out _ _ _ _ _ _ _ hR45 hR5).mono ?_
  rintro e w6 ⟨r6, q6, rfl, hv6, rfl⟩
  have tok : True := trivial
  go_wp2_with (first | (have _t := tok; refine wpList_wide rfl _ _ _ rfl (by kernel_rfl) (by kernel_rfl) _ rfl ?_; intro a1 m1 ha1; clear tok) | (refine wpList_wide rfl _ _ _ rfl (by kernel_rfl) (by kernel_rfl) _ rfl ?_; intro a2 m2 ha2))
  rw [hv6.out] at ha1
  rw [hv3.out] at ha2
  refine (sameFloat_same _ _ _ ha1 ha2 _).mono ?_
  rintro e w7 ⟨rfl, q7, rfl⟩
  go_wp2_with fail
  refine (toFloats_any A n c _ f _ hn (by simpa using hs5) (ha5.drewN _)).mono ?_
  rintro e w8 ⟨v8, rfl, hb8, ys8, hown8, hcp8⟩
  obtain ⟨A8, c8, rfl, hr8⟩ := own_row hown8
  have hR8 := Copied.row hr8 hcp8
  have hR48 : Row w8 _ A4 n (fun j => .float .f32 (f j)) := Row.below (Row.drewN (Row.mono hR45 h45) _) hb8
  have hR58 : Row w8 _ A5 m (fun j => .float .f32 (g j)) := Row.below (Row.drewN hR5 _) hb8
  have hB8 : Below w.heap.size w w8 := (below_drewN hB5 _).trans (hb8.mono (by simpa using hs5))
  have hs8 := hB8.size
  have h58 := hb8.size
  have hA8 : Row w8 w.heap.size A' m (fun j => .float .f32 (g j)) := Row.below (Row.drewN hA5 _) (hb8.mono (by simpa using hs5))
  clear hr8 hcp8 hown8 hR45 hR5 ha5 hA5 hB5 hs5 hb8
  go_wp2_with fail
  refine (eqFloats_same A4 A8 n c4 c8 f _ _ _ (by omega) hR48 hR8).mono ?_
  rintro e w9 ⟨rfl, q9, rfl⟩
  go_wp2_with fail
  refine (toFloats_any A' m c' _ g _ hm (by simpa using hs8) (hA8.drewN _)).mono ?_
  rintro e w10 ⟨v10, rfl, hb10, ys10, hown10, hcp10⟩
  obtain ⟨A10, c10, rfl, hr10⟩ := own_row hown10
  have hR10 := Copied.row hr10 hcp10
  have hR510 : Row w10 _ A5 m (fun j => .float .f32 (g j)) := Row.below (Row.drewN (Row.mono hR58 h58) _) hb10
  have hB10 : Below w.heap.size w w10 := (below_drewN hB8 _).trans (hb10.mono (by simpa using hs8))
  clear hr10 hcp10 hown10 hR48 hR58 hR8 hA8 hB8 hs8 hb10
  go_wp2_with fail
  refine (eqFloats_same A5 A10 m c5 c10 g _ _ _ (by omega) hR510 hR10).mono ?_
  rintro e w11 ⟨rfl, q11, rfl⟩
  go_wp2_with fail
  go_ret
  exact ⟨rfl, below_drewN hB10 _⟩
theorem fnExactDotNumbers_walk (w : World) (A : Option Addr) (n c : Nat) (f : Nat → Nat) (hnc : n ≤ c) (hcm : c ≤ maxLen) (hr : Row w w.heap.size A n (fun j => .float .f32 (f j))) (hw : ∀ j, j < n → f j < 4294967296)
    (A' : Option Addr) (m c' : Nat) (g : Nat → Nat) (hmc : m ≤ c') (hcm' : c' ≤ maxLen) (hr' : Row w w.heap.size A' m (fun j => .float .f32 (g j))) (hw' : ∀ j, j < m → g j < 4294967296) :
    Calls Try.prog 6 #[.slice A n c, .slice A' m c'] w fun e w' => e = .returned (.bool true) ∧ Below w.heap.size w w' := by
  unfold maxLen at hcm hcm'
  by_cases hn : n ≤ 1048576
  · by_cases hm : m ≤ 1048576
    · by_cases h2 : 256 < n ∨ n ≠ m
      · exact fnExactDotNumbers_core w A A' n m c c' f g _ _ hn hm hr hr' (fun A A' c c' B B' w _ _ => specDot_no A A' n m c c' w h2) (fun A A' c c' B B' w _ _ => implDot_no A A' n m c c' w h2)
      · obtain rfl : n = m := by omega
        have h3 : n ≤ 256 := by omega
        exact fnExactDotNumbers_core w A A' n n c c' f g _ _ hn hm hr hr' (fun A A' c c' B B' w h h' => specDot_yes A A' n c c' B B' f g w h3 h h') (fun A A' c c' B B' w h h' => implDot_yes A A' n c c' B B' f g w h3 h h')
    · have hm' : 1048576 < m := by omega
      clear hm hw hr hw' hr'
      go_enter Try.func6, Try.ntmps6
      go_wp2_with fail
      go_ret
      exact ⟨rfl, Below.refl _ _⟩
  · have hn' : 1048576 < n := by omega
    clear hn hw hr hw' hr'
    go_enter Try.func6, Try.ntmps6
    go_wp2_with fail
    go_ret
    exact ⟨rfl, Below.refl _ _⟩
end Go.Proofs.Ytecglaggmheokaa
