/- The reference's source of draws. -/
import Derived.Test.YtdbcajiagjeplaaGreatDoorZWIn
import Derived.Test.YtdbcajiagjeplaaGreatDoorZWFrom
import Derived.Test.YtdbcajiagjeplaaGreatDoorZApp
import Derived.Test.YtdbcajiagjeplaaGreatDoorZWCut2
import Derived.Laws.BitsLemmas
import Derived.Deep.QuietTactic
import Derived.BigQuiet
set_option linter.unusedVariables false
set_option linter.unusedSimpArgs false
namespace Go.Proofs.YtdbcajiagjeplaaGreatDoor
open Go.RowKit

/-- A source in the block b: it reads the slice .slice A n c and stands at m at most. -/
structure Src (w : World) (b : Nat) (A : Option Addr) (n c m : Nat) : Prop where
  code : w.cell? ⟨b, 0, none⟩ = some (.slice A n c)
  pos : ∃ k : Nat, k ≤ m ∧ w.cell? ⟨b, 1, none⟩ = some (.int .i64 k)
  seed : ∃ z : Int, (0 ≤ z ∧ z < 18446744073709551616) ∧ w.cell? ⟨b, 2, none⟩ = some (.int .u64 z)
  fz1 : w.frozen? ⟨b, 1, none⟩ = false
  fz2 : w.frozen? ⟨b, 2, none⟩ = false
theorem Src.block {w : World} {b : Nat} {A : Option Addr} {n c m : Nat} (h : Src w b A n c m) : b < w.heap.size := World.block_lt_of_cell? w _ h.code
theorem Src.mono {w : World} {b : Nat} {A : Option Addr} {n c m m' : Nat} (h : Src w b A n c m) (hm : m ≤ m') : Src w b A n c m' := by
  obtain ⟨h1, ⟨k, hk, h2⟩, h3, h4, h5⟩ := h
  exact ⟨h1, ⟨k, by omega, h2⟩, h3, h4, h5⟩
/-- The cells of a block that is not turned. -/
theorem cell_of_block {w w' : World} {b : Nat} (h : w'.heap[b]? = w.heap[b]?) (o : Nat) : w'.cell? ⟨b, o, none⟩ = w.cell? ⟨b, o, none⟩ := by
  unfold World.cell?; rw [h]
theorem Src.same {w w' : World} {b : Nat} {A : Option Addr} {n c m : Nat} (h : Src w b A n c m) (hc : ∀ o, w'.cell? ⟨b, o, none⟩ = w.cell? ⟨b, o, none⟩) (hf : ∀ o, w'.frozen? ⟨b, o, none⟩ = w.frozen? ⟨b, o, none⟩) : Src w' b A n c m := by
  obtain ⟨h1, ⟨k, hk, h2⟩, ⟨z, hz, h3⟩, h4, h5⟩ := h
  exact ⟨(hc 0).trans h1, ⟨k, hk, (hc 1).trans h2⟩, ⟨z, hz, (hc 2).trans h3⟩, (hf 1).trans h4, (hf 2).trans h5⟩
theorem Src.below {w w' : World} {b B : Nat} {A : Option Addr} {n c m : Nat} (h : Src w b A n c m) (hb : Below B w w') (hB : b < B) : Src w' b A n c m :=
  h.same (fun o => hb.cell (p := ⟨b, o, none⟩) hB) (fun o => hb.frozen (p := ⟨b, o, none⟩) hB)
theorem Src.grown {w w' : World} {b : Nat} {A : Option Addr} {n c m : Nat} {v : Value} (h : Src w b A n c m) (hg : w.grownBy w' v.ownBlock) (hv : v.ownBlock ≠ some b) : Src w' b A n c m := by
  have hblk := hg.block b h.block (fun e => hv e.symm)
  exact h.same (fun o => by unfold World.cell?; rw [hblk]) (fun o => by unfold World.frozen?; rw [hblk])
/-- A row of the call's own beside the source. -/
theorem own_src {w w' : World} {base e n b : Nat} {v : Value} {xs : List Value} (h : w.ownsRow base e 1 v n xs) (hg : w.grownBy w' (some b)) (hv : v.ownBlock ≠ some b) : w'.ownsRow base e 1 v n xs := by
  refine ⟨h.1, ?_⟩
  rcases h.2 with h0 | ⟨g, cap, cur, rfl, hbg, hh, hr⟩
  · exact .inl h0
  · refine .inr ⟨g, cap, cur, rfl, hbg, ?_, hr⟩
    rw [hg.block g ?_ ?_]
    · exact hh
    · rcases Nat.lt_or_ge g w.heap.size with hlt | hge
      · exact hlt
      · rw [Array.getElem?_eq_none hge] at hh; cases hh
    · intro e
      exact hv e
theorem below_src {w w' : World} {B b : Nat} (hg : w.grownBy w' (some b)) (hB : B ≤ w.heap.size) (hb : B ≤ b) : Below B w w' :=
  (Below.refl B w).grown hg hB fun k hk => by obtain rfl := Option.some.inj hk; exact hb
/-- The bytes of the source. -/
def Bytes (w : World) (B : Nat) (A : Option Addr) (n : Nat) (f : Nat → Int) : Prop := Row w B A n (fun j => .int .u8 (f j)) ∧ (∀ j, j < n → 0 ≤ f j ∧ f j < 256) ∧ n ≤ 1048576
theorem Bytes.below {w w' : World} {B n : Nat} {A : Option Addr} {f : Nat → Int} (h : Bytes w B A n f) (hb : Below B w w') : Bytes w' B A n f := ⟨h.1.below hb, h.2⟩
theorem Bytes.src {w w' : World} {B b n : Nat} {A : Option Addr} {f : Nat → Int} (h : Bytes w B A n f) (hg : w.grownBy w' (some b)) (hB : B ≤ w.heap.size) (hb : B ≤ b) : Bytes w' B A n f := h.below (below_src hg hB hb)
/-- A number below k is drawn; only the source has turned. -/
def Drawn (w : World) (b : Nat) (A : Option Addr) (n c m k : Nat) (e : Ending) (w' : World) : Prop := ∃ x : Nat, e = .returned (.int .i64 (x : Int)) ∧ x < k ∧ Src w' b A n c m ∧ w.grownBy w' (some b)
theorem and255 (z : Int) (h0 : 0 ≤ z) (h1 : z < 18446744073709551616) : ∃ d : Nat, bits .and .u64 (z / 1099511627776) 255 = (d : Int) ∧ d < 256 := by
  obtain ⟨x, hx⟩ : ∃ x : Nat, z / 1099511627776 = (x : Int) := Int.eq_ofNat_of_zero_le (by omega)
  have hx2 : x < 18446744073709551616 := by omega
  have h1 : (BitVec.ofInt 64 (x : Int)).toNat = x := by rw [BitVec.ofInt_natCast, BitVec.toNat_ofNat]; exact Nat.mod_eq_of_lt (by omega)
  have h2 : (BitVec.ofInt 64 (255 : Int)).toNat = 255 := by decide
  refine ⟨x % 256, ?_, by omega⟩
  rw [hx]
  show IntKind.u64.wrap ((BitVec.ofInt 64 (x : Int) &&& BitVec.ofInt 64 255).toNat : Int) = _
  rw [BitVec.toNat_and, h1, h2, show (255 : Nat) = 2 ^ 8 - 1 from rfl, Nat.and_two_pow_sub_one_eq_mod, IntKind.wrap_u64]
  omega
theorem grown_set {w w' : World} {b : Nat} (h : w.grownBy w' (some b)) (o : Nat) (v : Value) : w.grownBy (w'.setCell ⟨b, o, none⟩ v) (some b) :=
  ⟨h.os, h.tape, h.output, by have := h.size; simpa using this, fun k hk hne => (Below.heap_setCell _ _ _ k (fun e => hne (by rw [e]))).trans (h.block k hk hne)⟩
theorem src_turned {w : World} {b : Nat} {A : Option Addr} {n c m k p q : Nat} {z z' : Int} (hc0 : w.cell? ⟨b, 0, none⟩ = some (.slice A n c)) (hc1 : w.cell? ⟨b, 1, none⟩ = some (.int .i64 k)) (hc2 : w.cell? ⟨b, 2, none⟩ = some (.int .u64 z))
    (hf1 : w.frozen? ⟨b, 1, none⟩ = false) (hf2 : w.frozen? ⟨b, 2, none⟩ = false) (hk : k ≤ m) (hz : 0 ≤ z' ∧ z' < 18446744073709551616) :
    Src ((((w.drewN p).setCell ⟨b, 1, none⟩ (.int .i64 ((k : Int) + 1))).setCell ⟨b, 2, none⟩ (.int .u64 z')).drewN q) b A n c (m + 1) := by
  have e0 : ∀ o, (w.drewN p).cell? ⟨b, o, none⟩ = w.cell? ⟨b, o, none⟩ := fun _ => rfl
  have e1 : (⟨b, 1, none⟩ : Addr) ≠ ⟨b, 0, none⟩ := by simp
  have e2 : (⟨b, 2, none⟩ : Addr) ≠ ⟨b, 0, none⟩ := by simp
  have e3 : (⟨b, 2, none⟩ : Addr) ≠ ⟨b, 1, none⟩ := by simp
  have e4 : (⟨b, 1, none⟩ : Addr) ≠ ⟨b, 2, none⟩ := by simp
  refine ⟨?_, ⟨k + 1, by omega, ?_⟩, ⟨z', hz, ?_⟩, ?_, ?_⟩
  · rw [World.cell?_drewN, World.cell?_setCell_other _ _ _ _ e2, World.cell?_setCell_other _ _ _ _ e1]; exact hc0
  · rw [World.cell?_drewN, World.cell?_setCell_other _ _ _ _ e3, World.cell?_setCell_same _ _ _ ((e0 1).trans hc1)]; rfl
  · rw [World.cell?_drewN]; exact World.cell?_setCell_same _ _ _ ((World.cell?_setCell_other _ _ _ _ e4).trans ((e0 2).trans hc2))
  · rw [World.frozen?_drewN, World.frozen?_setCell, World.frozen?_setCell]; exact hf1
  · rw [World.frozen?_drewN, World.frozen?_setCell, World.frozen?_setCell]; exact hf2
theorem grown_turned {w : World} {b k p q : Nat} {z' : Int} : w.grownBy ((((w.drewN p).setCell ⟨b, 1, none⟩ (.int .i64 ((k : Int) + 1))).setCell ⟨b, 2, none⟩ (.int .u64 z')).drewN q) (some b) :=
  grown_drewN (grown_set (grown_set (grown_drewN (World.grownBy.refl _ _) p) _ _) _ _) q
set_option maxHeartbeats 800000 in
theorem next_any (b : Nat) (A : Option Addr) (n c m B : Nat) (f : Nat → Int) (w : World) (hs : Src w b A n c m) (hm : m ≤ 1000000) (hr : Bytes w B A n f) (hB : B ≤ b) :
    Calls Tryz.prog 70 #[.pointer (some ⟨b, 0, none⟩)] w fun e w' => Drawn w b A n c (m + 1) 256 e w' := by
  obtain ⟨hc0, ⟨k, hk, hc1⟩, ⟨z, ⟨hz0, hz1⟩, hc2⟩, hf1, hf2⟩ := hs
  obtain ⟨hrow, hf, hn⟩ := hr
  by_cases hlt : k < n
  · obtain ⟨cb, off, rfl, hcb, hcells⟩ := hrow (by omega)
    have hcell : w.cell? ⟨cb, off + k, none⟩ = some (.int .u8 (f k)) := hcells k hlt
    have hb := hf k hlt
    obtain ⟨x, hx⟩ := Int.eq_ofNat_of_zero_le hb.1
    rw [hx] at hcell
    have g1 : (k : Int) < (n : Int) := by omega
    have g2 : (k : Int) + 1 ≤ (n : Int) := by omega
    have hx256 : x < 256 := by omega
    clear hcells hf hrow hx hb
    go_enter Tryz.func70, Tryz.ntmps70
    go_wp2_with fail
    go_quiet (fail)
    go_wp2_with fail
    go_quiet (fail)
    go_wp2_with fail
    go_quiet (fail)
    go_wp2_with fail
    go_ret
    exact ⟨x, rfl, hx256, src_turned hc0 hc1 hc2 hf1 hf2 hk (by rw [IntKind.wrap_u64]; omega), grown_turned⟩
  · have g1 : ¬ (k : Int) < (n : Int) := by omega
    have g2 : ¬ (k : Int) + 1 ≤ (n : Int) := by omega
    obtain ⟨d, hd, hd256⟩ := and255 (IntKind.u64.wrap (IntKind.u64.wrap (IntKind.u64.wrap (z * 6364136223846793005)) + 1442695040888963407)) (by rw [IntKind.wrap_u64]; omega) (by rw [IntKind.wrap_u64]; omega)
    clear hf hrow
    go_enter Tryz.func70, Tryz.ntmps70
    go_wp2_with fail
    go_quiet (fail)
    go_wp2_with fail
    go_quiet (fail)
    go_wp2_with fail
    go_ret
    exact ⟨d, rfl, hd256, src_turned hc0 hc1 hc2 hf1 hf2 hk (by rw [IntKind.wrap_u64]; omega), grown_turned⟩
end Go.Proofs.YtdbcajiagjeplaaGreatDoor
set_option linter.unusedVariables false
set_option linter.unusedSimpArgs false
namespace Go.Proofs.YtdbcajiagjeplaaGreatDoor
open Go.RowKit

set_option maxHeartbeats 800000 in
theorem pick_any (b : Nat) (A : Option Addr) (n c m B k : Nat) (f : Nat → Int) (w : World) (hk : 1 < k) (hk2 : k ≤ 100000) (hs : Src w b A n c m) (hm : m ≤ 900000) (hr : Bytes w B A n f) (hB : B ≤ b) :
    Calls Tryz.prog 40 #[.pointer (some ⟨b, 0, none⟩), .int .i64 (k : Int)] w fun e w' => Drawn w b A n c (m + 2) k e w' := by
  have hblk := hs.block
  have g1 : ¬ (k : Int) ≤ 1 := by omega
  have g3 : ¬ (k : Int) = 0 := by omega
  have g4 : ¬ (k : Int) = -1 := by omega
  by_cases h200 : 200 < k
  · have g2 : (200 : Int) < (k : Int) := by omega
    go_enter Tryz.func40, Tryz.ntmps40
    go_wp2_with fail
    refine (next_any b A n c m B f _ hs (by omega) hr hB).mono ?_
    rintro e w1 ⟨x, rfl, hx, hs1, hg1⟩
    have hr1 := hr.src hg1 (by omega) hB
    go_wp2_with fail
    refine (next_any b A n c (m + 1) B f _ hs1 (by omega) hr1 hB).mono ?_
    rintro e w2 ⟨y, rfl, hy, hs2, hg2⟩
    have hq : 0 ≤ (x : Int) * 256 + (y : Int) := by omega
    have hq2 : (x : Int) * 256 + (y : Int) < 65536 := by omega
    go_wp2_with fail
    go_ret
    exact ⟨(x * 256 + y) % k, by first | rfl | (congr 2), Nat.mod_lt _ (by omega), hs2, grown_trans hg1 hg2⟩
  · have g2 : ¬ (200 : Int) < (k : Int) := by omega
    go_enter Tryz.func40, Tryz.ntmps40
    go_wp2_with fail
    refine (next_any b A n c m B f _ hs (by omega) hr hB).mono ?_
    rintro e w1 ⟨x, rfl, hx, hs1, hg1⟩
    go_wp2_with fail
    go_ret
    exact ⟨x % k, by first | rfl | (congr 2), Nat.mod_lt _ (by omega), hs1.mono (by omega), hg1⟩
/-- A Bool is drawn. -/
def DrawnB (w : World) (b : Nat) (A : Option Addr) (n c m : Nat) (e : Ending) (w' : World) : Prop := ∃ o : Bool, e = .returned (.bool o) ∧ Src w' b A n c m ∧ w.grownBy w' (some b)
theorem one_any (b : Nat) (A : Option Addr) (n c m B k : Nat) (f : Nat → Int) (w : World) (hk : 1 < k) (hk2 : k ≤ 100000) (hs : Src w b A n c m) (hm : m ≤ 900000) (hr : Bytes w B A n f) (hB : B ≤ b) :
    Calls Tryz.prog 39 #[.pointer (some ⟨b, 0, none⟩), .int .i64 (k : Int)] w fun e w' => DrawnB w b A n c (m + 2) e w' := by
  go_enter Tryz.func39, Tryz.ntmps39
  go_wp2_with fail
  refine (pick_any b A n c m B k f _ hk hk2 hs hm hr hB).mono ?_
  rintro e w1 ⟨x, rfl, hx, hs1, hg1⟩
  go_wp2_with fail
  go_ret
  exact ⟨_, rfl, hs1, hg1⟩
/-- One of a list's numbers; the list lies below the source's block or beside it. -/
theorem among_any (b : Nat) (A : Option Addr) (n c m B : Nat) (f : Nat → Int) (w : World) (gb k d : Nat) (g : Nat → Int) (hg : gb ≠ b) (hgl : gb < w.heap.size) (hc : ∀ j, j < k → w.cell? ⟨gb, j, none⟩ = some (.int .i64 (g j))) (hk : 1 < k) (hk2 : k ≤ 200) (hs : Src w b A n c m) (hm : m ≤ 900000) (hr : Bytes w B A n f) (hB : B ≤ b) :
    Calls Tryz.prog 72 #[.pointer (some ⟨b, 0, none⟩), .slice (some ⟨gb, 0, none⟩) k d] w fun e w' => ∃ j, j < k ∧ e = .returned (.int .i64 (g j)) ∧ Src w' b A n c (m + 2) ∧ w.grownBy w' (some b) := by
  have HC := Lib.hid hc
  clear hc
  go_enter Tryz.func72, Tryz.ntmps72
  go_wp2_with fail
  refine (pick_any b A n c m B k f _ hk (by omega) hs hm hr hB).mono ?_
  rintro e w1 ⟨x, rfl, hx, hs1, hg1⟩
  have hcell : w1.cell? ⟨gb, 0 + x, none⟩ = some (.int .i64 (g x)) := by
    rw [Nat.zero_add]
    exact hg1.cell (HC.out x hx) (by intro e; exact hg (Option.some.inj e))
  rw [Nat.zero_add] at hcell
  have g2 : (x : Int) < (k : Int) := by omega
  go_wp2_with fail
  go_ret
  exact ⟨x, hx, rfl, hs1, hg1⟩
theorem from_any (A : Option Addr) (n c : Nat) (w : World) : Calls Tryz.prog 38 #[.slice A n c] w fun e w' => e = .returned (.pointer (some ⟨w.heap.size, 0, none⟩)) ∧ Src w' w.heap.size A n c 0 ∧ Below w.heap.size w w' ∧ w'.heap.size = w.heap.size + 1 := by
  go_enter Tryz.func38, Tryz.ntmps38
  go_wp2_with fail
  go_ret
  have hc : ∀ o, (w.alloc (Obj.cells #[.slice A n c, .int .i64 0, .int .u64 0] 89)).cell? ⟨w.heap.size, o, none⟩ = (#[.slice A n c, .int .i64 0, .int .u64 0] : Array Value)[o]? := fun o => World.cell?_alloc_at _ _ _ _ rfl
  refine ⟨rfl, ⟨(hc 0).trans rfl, ⟨0, by omega, (hc 1).trans rfl⟩, ⟨0, by omega, (hc 2).trans rfl⟩, World.frozen?_alloc_new _ _ _ _, World.frozen?_alloc_new _ _ _ _⟩, (Below.refl _ _).alloc (Nat.le_refl _) _, by simp⟩
end Go.Proofs.YtdbcajiagjeplaaGreatDoor
