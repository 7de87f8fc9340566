/- A text cut at its commas: both sides. -/
import Derived.Test.YtdbcajiagjeplaaGreatDoorZFCut
import Derived.Test.YtdbcajiagjeplaaGreatDoorZApp
import Derived.Test.YtdbcajiagjeplaaGreatDoorZWIn
import Derived.Test.YtdbcajiagjeplaaGreatDoorZShelfS
import Derived.OwnWalk
import Derived.Deep.DeepMust
set_option linter.unusedVariables false
set_option linter.unusedSimpArgs false
namespace Go.Proofs.YtdbcajiagjeplaaGreatDoor
open Go.RowKit Go.Lib

def sv (l : List UInt8) : Value := .string ⟨l.toArray⟩
theorem sv_of (s : ByteArray) : Value.string s = sv s.data.toList := rfl
theorem sv_one (x : ByteArray) : ∀ u ∈ [Value.string x], u.oneCell' = true := by intro u hu; simp only [List.mem_singleton] at hu; subst hu; rfl
theorem info_s : (Tryz.prog.info? 9).map (fun i => (i.zero, i.size, i.bytes)) = some (some (.string ⟨#[]⟩), 1, 16) := by kernel_rfl
/-- The round's relation: the pieces up to 'fr' are laid, and no comma stands from there to 'i'. -/
def CutRel (l : List UInt8) (i fr : Nat) (done : List (List UInt8)) : Prop :=
  done.length ≤ i ∧ ((i ≤ l.length ∧ fr ≤ i ∧ (∀ j, j < i - fr → (l.drop fr)[j]? ≠ some 44) ∧ done ++ cuts (l.drop fr) = cuts l) ∨ (i = l.length + 1 ∧ done = cuts l))
theorem CutRel.start (l : List UInt8) : CutRel l 0 0 [] := ⟨by simp, .inl ⟨by omega, by omega, fun j hj => by omega, rfl⟩⟩
theorem CutRel.on {l : List UInt8} {i fr : Nat} {done : List (List UInt8)} (h : CutRel l i fr done) (hi : i < l.length) (hc : l[i]? ≠ some 44) : CutRel l (i + 1) fr done := by
  obtain ⟨h0, ⟨h1, h2, h3, h4⟩ | ⟨h1, _⟩⟩ := h
  · refine ⟨by omega, .inl ⟨by omega, by omega, fun j hj => ?_, h4⟩⟩
    rcases Nat.lt_or_ge j (i - fr) with h5 | h5
    · exact h3 j h5
    · obtain rfl : j = i - fr := by omega
      rw [List.getElem?_drop, show fr + (i - fr) = i by omega]
      exact hc
  · omega
theorem CutRel.le {l : List UInt8} {i fr : Nat} {done : List (List UInt8)} (h : CutRel l i fr done) (hi : i ≤ l.length) : fr ≤ i := by
  obtain ⟨h0, ⟨h1, h2, h3, h4⟩ | ⟨h1, _⟩⟩ := h <;> omega
theorem CutRel.hit {l : List UInt8} {i fr : Nat} {done : List (List UInt8)} (h : CutRel l i fr done) (hi : i < l.length) (hc : l[i]? = some 44) : CutRel l (i + 1) (i + 1) (done ++ [(l.drop fr).take (i - fr)]) := by
  obtain ⟨h0, ⟨h1, h2, h3, h4⟩ | ⟨h1, _⟩⟩ := h
  · refine ⟨by simp; omega, .inl ⟨by omega, by omega, fun j hj => by omega, ?_⟩⟩
    have := cuts_hit (i - fr) (l.drop fr) h3 (by rw [List.getElem?_drop, show fr + (i - fr) = i by omega]; exact hc)
    rw [← h4, this, List.drop_drop, show fr + (i - fr + 1) = i + 1 by omega, List.append_assoc]
    rfl
  · omega
theorem CutRel.last {l : List UInt8} {i fr : Nat} {done : List (List UInt8)} (h : CutRel l i fr done) (hi : i = l.length) : CutRel l (i + 1) (i + 1) (done ++ [(l.drop fr).take (i - fr)]) := by
  obtain ⟨h0, ⟨h1, h2, h3, h4⟩ | ⟨h1, _⟩⟩ := h
  · refine ⟨by simp; omega, .inr ⟨by omega, ?_⟩⟩
    have := cuts_miss (l.drop fr) (fun j => by
      rcases Nat.lt_or_ge j (i - fr) with h5 | h5
      · exact h3 j h5
      · rw [List.getElem?_eq_none (by rw [List.length_drop]; omega)]; simp)
    rw [← h4, this, List.take_of_length_le (by rw [List.length_drop]; omega)]
  · omega
theorem CutRel.fin {l : List UInt8} {i fr : Nat} {done : List (List UInt8)} (h : CutRel l i fr done) (hi : ¬ i ≤ l.length) : done = cuts l := by
  obtain ⟨h0, ⟨h1, h2, h3, h4⟩ | ⟨h1, h2⟩⟩ := h
  · omega
  · exact h2
theorem CutRel.top {l : List UInt8} {i fr : Nat} {done : List (List UInt8)} (h : CutRel l i fr done) : i ≤ l.length + 1 := by
  obtain ⟨h0, ⟨h1, h2, h3, h4⟩ | ⟨h1, h2⟩⟩ := h <;> omega
theorem sv_extract (s : ByteArray) (a b : Nat) : Value.string (s.extract a b) = sv ((s.data.toList.drop a).take (b - a)) := by rw [sv_of, extract_data]
/-- What is cut. -/
def RetCut (l : List UInt8) (w : World) (e : Ending) (w' : World) : Prop := ∃ v, e = .returned v ∧ w'.ownsRow w.heap.size 9 1 v (cuts l).length ((cuts l).map sv) ∧ Below w.heap.size w w'
end Go.Proofs.YtdbcajiagjeplaaGreatDoor
set_option linter.unusedVariables false
set_option linter.unusedSimpArgs false
namespace Go.Proofs.YtdbcajiagjeplaaGreatDoor
open Go.RowKit Go.Lib

theorem none_ne {s : ByteArray} (h : ¬ s.data.toList = [110, 111, 110, 101]) : (s.toList == [110, 111, 110, 101]) = false := by
  rw [ByteArray.toList_eq]; simpa using h
theorem none_eq {s : ByteArray} (h : s.data.toList = [110, 111, 110, 101]) : s = ⟨#[110, 111, 110, 101]⟩ := by
  obtain ⟨⟨l⟩⟩ := s
  simp only at h
  rw [h]
/-- The block of v is not the one at A. -/
def Aloof (A : Option Addr) (v : Value) : Prop := ∀ k a, v.ownBlock = some k → A = some a → k ≠ a.block
theorem Aloof.next {A : Option Addr} {v v' : Value} {m : Nat} (h : Aloof A v) (hb : v'.ownBlock = v.ownBlock ∨ v'.ownBlock = some m) (hm : ∀ a, A = some a → a.block < m) : Aloof A v' := by
  intro k a hk ha
  rcases hb with hb | hb
  · exact h k a (hb ▸ hk) ha
  · rw [hb] at hk
    have := Option.some.inj hk
    have := hm a ha
    omega
theorem Row.grown {w w' : World} {B n : Nat} {A : Option Addr} {f : Nat → Value} {v : Value} (h : Row w B A n f) (hB : B ≤ w.heap.size) (hg : w.grownBy w' v.ownBlock) (hk : Aloof A v) : Row w' B A n f := fun hn => by
  obtain ⟨b, off, rfl, hlt, hc⟩ := h hn
  refine ⟨b, off, rfl, hlt, fun j hj => ?_⟩
  rw [← hc j hj]
  have hblk := hg.block b (by omega) (fun e => hk b _ e.symm rfl rfl)
  unfold World.cell?
  rw [hblk]
theorem Row.append {w wr w1 : World} {n : Nat} {A : Option Addr} {f : Nat → Value} {v : Value} {o : Obj} (h : Row w w.heap.size A n f) (hb : Below w.heap.size w wr) (hg : (wr.alloc o).grownBy w1 v.ownBlock) (hk : Aloof A v) : Row w1 w1.heap.size A n f := by
  have h1 : Row (wr.alloc o) w.heap.size A n f := (h.below hb).below ((Below.refl _ _).alloc hb.size o)
  have hs := hb.size
  have h2 := h1.grown (by simp; omega) hg hk
  have h3 := hg.size
  simp at h3
  exact h2.mono (by omega)
theorem own_addr {w : World} {base e n c : Nat} {A : Option Addr} {xs : List Value} (h : w.ownsRow base e 1 (.slice A n c) n xs) : ∀ a, A = some a → base ≤ a.block := fun a ha => by
  subst ha
  exact (h.lt a.block rfl).1
theorem sv_getD (ps : List (List UInt8)) (i : Nat) (h : i < ps.length) : (ps.map sv).getD i undef = .string ⟨ps[i].toArray⟩ := by
  simp [sv, List.getD_eq_getElem?_getD, List.getElem?_eq_getElem h]
theorem own_alloc (w : World) (e : TypeId) (xs : List Value) (h : xs.length ≤ maxLen) : (w.alloc (.cells xs.toArray e)).ownsRow w.heap.size e 1 (.slice (some ⟨w.heap.size, 0, none⟩) xs.length xs.length) xs.length xs :=
  ⟨by simp, .inr ⟨w.heap.size, xs.length, xs.toArray, rfl, Nat.le_refl _, heap_alloc_new w _, Nat.le_refl _, h, by simp, by simp⟩⟩
theorem split_sv (s : ByteArray) : (splitB ⟨#[44]⟩ 0 (countB s ⟨#[44]⟩) s).map Value.string = (cuts s.data.toList).map sv := by
  rw [← splitB_cuts, List.map_map]
  rfl
theorem strSplit_any (s : ByteArray) (hs : s.size ≤ 1048576) (w : World) (hm : ∃ m, w.cell? ⟨Tryz.laysM146_ren.g 1, 0, none⟩ = some (.int .i64 m)) :
    Calls Tryz.prog 78 #[.string s, .string ⟨#[44]⟩] w fun e w' => RetCut s.data.toList w e w' := by
  obtain ⟨m, hm⟩ := hm
  have hcl := cuts_len s.data.toList
  have hsl : s.data.toList.length = s.size := by rw [Array.length_toList]; rfl
  refine (Any.strings_Split { Tryz.laysM146 with } Tryz.laysM146.i9 s ⟨#[44]⟩ m w (by omega) hm (by decide)).mono ?_
  rintro e w' ⟨rfl, rfl⟩
  have ho := own_alloc w 9 ((cuts s.data.toList).map sv) (by rw [List.length_map]; unfold maxLen; omega)
  rw [List.length_map, ← split_sv, ← countB_cuts] at ho
  refine ⟨_, rfl, ?_, (Below.refl _ w).alloc (Nat.le_refl _) _⟩
  rw [← countB_cuts, ← split_sv]
  exact ho
theorem parts_any (s : ByteArray) (hs : s.size ≤ 1048576) (hn : ¬ s.data.toList = [110, 111, 110, 101]) (w : World) (hm : ∃ m, w.cell? ⟨Tryz.laysM146_ren.g 1, 0, none⟩ = some (.int .i64 m)) :
    Calls Tryz.prog 51 #[.string s] w fun e w' => RetCut s.data.toList w e w' := by
  have g0 := none_ne hn
  have HS := Lib.hid (strSplit_any s hs w hm)
  clear hn hm
  go_enter Tryz.func51, Tryz.ntmps51
  go_wp2_with fail
  refine HS.out.mono ?_
  rintro e w' ⟨v, rfl, ho, hb⟩
  go_wp2_with fail
  go_ret
  exact ⟨_, rfl, ho, hb⟩
theorem parts_none (s : ByteArray) (hn : s.data.toList = [110, 111, 110, 101]) (w : World) :
    Calls Tryz.prog 51 #[.string s] w fun e w' => e = .returned (.slice none 0 0) ∧ w = w' := by
  obtain rfl := none_eq hn
  clear hn
  go_enter Tryz.func51, Tryz.ntmps51
  go_wp2_with fail
  go_ret
  exact ⟨rfl, rfl⟩
end Go.Proofs.YtdbcajiagjeplaaGreatDoor
