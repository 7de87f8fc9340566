/- FromBits: contracts and the law. -/
import Derived.Test.YtecglaggmheokaaWRoot
import Derived.Test.YtecglaggmheokaaWIn
set_option linter.unusedVariables false
set_option linter.unusedSimpArgs false
namespace Go.Proofs.Ytecglaggmheokaa
open Go.RowKit

/-- A float of the value v and a Bool are returned; nothing has turned but the count of draws. -/
def RetFB (v : Option Nat) (ok : Bool) (w : World) (e : Ending) (w' : World) : Prop := ∃ r n, e = .returned (.tuple #[.float .f32 r, .bool ok]) ∧ FIs .f32 r v ∧ w' = w.drewN n

theorem fis_zero : FIs .f32 0 (some 0) := FIs.mk val_zero32 (by decide)

theorem specFrom_yes (n : Nat) (hn : n < 4294967296) (w : World) : Calls Try.prog 15 #[.int .i64 n] w fun e w' => RetFB (val .f32 n) true w e w' := by
  have hin := inB_true (n := (n : Int)) (low := 0) (high := 4294967295) (by omega) (by omega)
  have HF := Lib.hid (FIs.mk (k := .f32) (r := n) rfl (show n < 4294967296 from hn))
  go_enter Try.func15, Try.ntmps15
  go_wp2_with (first | (go_at_call 44; refine (l00In_any _ _ _ _).mono ?_; rw [hin]; rintro e w' ⟨rfl, rfl⟩) | (go_at_call 45; refine (l01From_any n hn _).mono ?_; rintro e w' ⟨rfl, rfl⟩))
  go_ret2
  exact ⟨_, 0, rfl, HF.out, rfl⟩
theorem specFrom_no (n : Int) (h : inB n 0 4294967295 = false) (w : World) : Calls Try.prog 15 #[.int .i64 n] w fun e w' => RetFB (some 0) false w e w' := by
  go_enter Try.func15, Try.ntmps15
  go_wp2_with (go_at_call 44; refine (l00In_any _ _ _ _).mono ?_; rw [h]; rintro e w' ⟨rfl, rfl⟩)
  go_ret2
  exact ⟨_, 0, rfl, fis_zero, rfl⟩
theorem implFrom_yes (n : Nat) (hn : n < 4294967296) (w : World) : Calls Try.prog 16 #[.int .i64 n] w fun e w' => RetFB (val .f32 n) true w e w' := by
  have hin := inB_true (n := (n : Int)) (low := 0) (high := 4294967295) (by omega) (by omega)
  have HF := Lib.hid (FIs.mk (k := .f32) (r := n) rfl (show n < 4294967296 from hn))
  go_enter Try.func16, Try.ntmps16
  go_wp2_with (go_at_call 46; refine (within_any _ _ _ _).mono ?_; rw [hin]; rintro e w' ⟨rfl, rfl⟩)
  go_ret2
  exact ⟨_, 0, rfl, HF.out, rfl⟩
theorem implFrom_no (n : Int) (h : inB n 0 4294967295 = false) (w : World) : Calls Try.prog 16 #[.int .i64 n] w fun e w' => RetFB (some 0) false w e w' := by
  go_enter Try.func16, Try.ntmps16
  go_wp2_with (go_at_call 46; refine (within_any _ _ _ _).mono ?_; rw [h]; rintro e w' ⟨rfl, rfl⟩)
  go_ret2
  exact ⟨_, 0, rfl, fis_zero, rfl⟩
set_option maxHeartbeats 800000 in
theorem fnExactFromBits_core (n : Int) (v : Option Nat) (ok : Bool)
    (hS : ∀ w : World, Calls Try.prog 15 #[.int .i64 n] w fun e w' => RetFB v ok w e w')
    (hI : ∀ w : World, Calls Try.prog 16 #[.int .i64 n] w fun e w' => RetFB v ok w e w') (w : World) :
    Calls Try.prog 3 #[.int .i64 n] w fun e w' => e = .returned (.bool true) ∧ Below w.heap.size w w' := by
  have HS := Lib.hid hS
  have HI := Lib.hid hI
  clear hS hI
  have hok : (ok != ok) = false := by simp
  go_enter Try.func3, Try.ntmps3
  go_wp2_with fail
  refine (HS.out _).mono ?_
  rintro e w1 ⟨r1, n1, rfl, hr1, rfl⟩
  go_wp2_with fail
  refine (HI.out _).mono ?_
  rintro e w2 ⟨r2, n2, rfl, hr2, rfl⟩
  have tok : True := trivial
  go_wp2_with (first | (have _t := tok; refine wpList_wide rfl _ _ _ rfl (by kernel_rfl) (by kernel_rfl) _ rfl ?_; intro a1 m1 ha1; clear tok) | (refine wpList_wide rfl _ _ _ rfl (by kernel_rfl) (by kernel_rfl) _ rfl ?_; intro a2 m2 ha2))
  rw [hr2.out] at ha1
  rw [hr1.out] at ha2
  refine (sameFloat_same _ _ _ ha1 ha2 _).mono ?_
  rintro e w5 ⟨rfl, n5, rfl⟩
  go_wp2_with fail
  go_ret
  exact ⟨rfl, below_drewN_self _ _⟩
theorem fnExactFromBits_walk (n : Int) (wf : (Lit.int .i64 n).wf = true) (w : World) : Calls Try.prog 3 #[.int .i64 n] w fun e w' => e = .returned (.bool true) ∧ Below w.heap.size w w' := by
  rcases inB_cases n 0 4294967295 with ⟨h, h0, h1⟩ | ⟨h, _⟩
  · obtain ⟨m, rfl⟩ := Int.eq_ofNat_of_zero_le h0
    exact fnExactFromBits_core _ _ _ (fun w => specFrom_yes m (by omega) w) (fun w => implFrom_yes m (by omega) w) w
  · exact fnExactFromBits_core _ _ _ (fun w => specFrom_no n h w) (fun w => implFrom_no n h w) w
end Go.Proofs.Ytecglaggmheokaa
