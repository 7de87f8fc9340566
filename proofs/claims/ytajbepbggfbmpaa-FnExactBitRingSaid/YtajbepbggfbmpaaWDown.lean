/- DownUnder: both sides deal a deck, one down, one under. -/
import Derived.Test.YtajbepbggfbmpaaWin
import Derived.Test.YtajbepbggfbmpaaWDeckLaws
import Derived.Deep.RegionLaw
import Derived.Maps.AppendAt
set_option linter.unusedVariables false
set_option linter.unusedSimpArgs false
namespace Go.Proofs.Ytajbepbggfbmpaa
open Go.RowKit

/-- The first card goes under, where there are two. -/
def rot : List Int → List Int
  | a :: b :: r => b :: (r ++ [a])
  | l => l
def deal : Nat → List Int → List Int
  | _, [] => []
  | 0, _ => []
  | k + 1, x :: r => x :: deal k (rot r)
theorem rot_len (l : List Int) : (rot l).length = l.length := by
  match l with
  | [] => rfl
  | [_] => rfl
  | a :: b :: r => simp [rot]
theorem deal_len : ∀ (k : Nat) (l : List Int), (deal k l).length ≤ k
  | 0, [] => Nat.le_refl _
  | 0, _ :: _ => Nat.le_refl _
  | _ + 1, [] => Nat.zero_le _
  | k + 1, x :: r => by
    show (deal k (rot r)).length + 1 ≤ k + 1
    have := deal_len k (rot r)
    omega
theorem deal_full : ∀ (k : Nat) (l : List Int), l.length = k → (deal k l).length = k
  | 0, [], _ => rfl
  | k + 1, x :: r, h => by
    show (deal k (rot r)).length + 1 = k + 1
    rw [deal_full k (rot r) (by rw [rot_len]; simpa using h)]

/-- What is dealt and what is left, of n cards. -/
def Dealt (n : Nat) (O L : List Int) : Prop := O ++ deal L.length L = deal n (upto n) ∧ O.length + L.length = n
theorem Dealt.start (n : Nat) : Dealt n [] (upto n) := ⟨by rw [upto_len]; rfl, by rw [upto_len]; simp⟩
theorem Dealt.step {n : Nat} {O r : List Int} {x : Int} (h : Dealt n O (x :: r)) : Dealt n (O ++ [x]) (rot r) := by
  have h1 := h.1
  have h2 := h.2
  refine ⟨?_, by rw [rot_len]; simp at h2 ⊢; omega⟩
  rw [← h1, List.append_assoc, rot_len]; rfl
theorem Dealt.done {n : Nat} {O : List Int} (h : Dealt n O []) : O = deal n (upto n) := by
  have := h.1
  have h0 : deal ([] : List Int).length [] = [] := rfl
  rwa [h0, List.append_nil] at this

/-- The first lies in no block of the second. -/
def Apart (u v : Value) : Prop := u.ownBlock = none ∨ u.ownBlock ≠ v.ownBlock
theorem Apart.grow {u v v' : Value} {w : World} {base n : Nat} {xs : List Value} {h : Nat} (ha : Apart u v) (hu : Win w base u n xs) (hv : v'.ownBlock = v.ownBlock ∨ v'.ownBlock = some h) (hh : w.heap.size ≤ h) : Apart u v' := by
  cases hb : u.ownBlock with
  | none => exact .inl hb
  | some g =>
    have hlt := (hu.lt g hb).2
    rcases hv with e | e
    · unfold Apart at ha ⊢; rw [e]; exact ha
    · right; rw [e, hb]; intro h2; cases h2; omega
theorem Win.src {w : World} {base n c : Nat} {a : Addr} {xs : List Value} (h : Win w base (.slice (some a) n c) n xs) : ∀ j u, xs[j]? = some u → w.cell? (a.add j) = some u := by
  intro j u hu
  rcases h.2 with ⟨h0, _⟩ | ⟨g, off, cap, hv, _, _, _, _, hc, _⟩
  · cases h0
  · injection hv with h1
    injection h1 with h1
    subst h1
    rw [Addr.add_lit]
    exact hc j u hu
theorem Win.head {w : World} {base n : Nat} {v x : Value} {xs : List Value} (h : Win w base v (n + 1) (x :: xs)) : ∃ g off cap, v = .slice (some ⟨g, off, none⟩) (n + 1) cap ∧ base ≤ g ∧ g < w.heap.size ∧ n + 1 ≤ cap ∧ w.cell? ⟨g, off, none⟩ = some x := by
  rcases h.2 with ⟨_, h0⟩ | ⟨g, off, cap, rfl, hb, hg, hnc, _, hc, _⟩
  · omega
  · exact ⟨g, off, cap, rfl, hb, hg, hnc, by have := hc 0 x rfl; rwa [Nat.add_zero] at this⟩
theorem below_win {w w' : World} {B base n : Nat} {v : Value} {xs : List Value} (h : Win w base v n xs) (hg : w.grownBy w' v.ownBlock) (hB : B ≤ base) (hs : B ≤ w.heap.size) : Below B w w' :=
  (Below.refl B w).grown hg hs fun k hk => Nat.le_trans hB (h.lt k hk).1
theorem sizeOf_int (W : World) : (sizeOf (Try.prog.elem 22)).run Try.prog W = .ok 1 W := by kernel_rfl
theorem ul_ints : Try.prog.underlying 22 = some (.slice (Try.prog.elem 22)) := Try.underlying22
theorem ints_one (l : List Int) : ∀ u ∈ ints l, u.oneCell' = true := by
  intro u hu
  simp only [ints, List.mem_map] at hu
  obtain ⟨x, _, rfl⟩ := hu
  rfl
theorem ints_cons (x : Int) (r : List Int) : ints (x :: r) = .int .i64 x :: ints r := rfl

theorem Apart.symm {u v : Value} (h : Apart u v) : Apart v u := by
  unfold Apart at *
  rcases h with h | h
  · cases hv : v.ownBlock with
    | none => exact .inl rfl
    | some g => right; rw [h]; simp
  · exact .inr fun e => h e.symm
theorem Apart.of_eq {u u' v : Value} (h : Apart u v) (e : u'.ownBlock = u.ownBlock) : Apart u' v := by unfold Apart at *; rw [e]; exact h
theorem Apart.turn {u u' v : Value} {w : World} {base e n : Nat} {xs : List Value} {h : Nat} (ha : Apart u v) (hv : w.ownsRow base e 1 v n xs) (hu : u'.ownBlock = u.ownBlock ∨ u'.ownBlock = some h) (hh : w.heap.size ≤ h) : Apart u' v := by
  rcases hu with e | e
  · exact ha.of_eq e
  · right
    rw [e]
    intro h2
    have := (hv.lt h h2.symm).2
    omega
def sliceLen : Value → Nat | .slice _ n _ => n | _ => 0
theorem Win.slen {w : World} {base n : Nat} {v : Value} {xs : List Value} (h : Win w base v n xs) : sliceLen v = n := by
  rcases h.2 with ⟨rfl, rfl⟩ | ⟨g, off, cap, rfl, _⟩ <;> rfl
theorem rot_two (y z : Int) (r : List Int) : ints (z :: r) ++ [.int .i64 y] = ints (rot (y :: z :: r)) := by simp [rot, ints, intv]
theorem rot_two_len (y z : Int) (r : List Int) : (rot (y :: z :: r)).length = (z :: r).length + 1 := by simp [rot]

theorem rot_short {r : List Int} (h : r.length ≤ 1) : rot r = r := by
  match r, h with
  | [], _ => rfl
  | [_], _ => rfl

set_option maxHeartbeats 2000000 in
theorem implDown_yes (n : Nat) (h1 : 1 ≤ n) (hn : n ≤ 52) (w : World) : Calls Try.prog 24 #[.int .i64 n] w fun e w' => GivesL 2 (ints (deal n (upto n))) true w e w' := by
  obtain ⟨i0, hi, hz0, hz1, hz2⟩ := info_parts info_int
  go_enter Try.func24, Try.ntmps24
  go_wp2_with fail
  refine (implNewDeck_yes n h1 hn _).mono ?_
  rintro e w1 ⟨v1, rfl, hown1, hb1⟩
  rw [ints_len, upto_len] at hown1
  have hwin1 := Lib.hid (Win.of_own hown1)
  have hs1 := hb1.size
  clear hown1
  go_wp2_with fail
  go_loopw [4, 6] (fun d o wr => ∃ O L : List Int, Dealt n O L ∧ wr.ownsRow w.heap.size 2 1 o O.length (ints O) ∧ Win wr w.heap.size d L.length (ints L) ∧ Apart d o ∧ Below w.heap.size w wr) (fun d _ _ => sliceLen d)
  case atStart =>
    refine ⟨[], upto n, Dealt.start n, own_base (own_empty _ _) hs1, by rw [upto_len]; exact hwin1.out.alloc _, ?_, hb1.alloc hs1 _⟩
    cases hv : v1.ownBlock with
    | none => exact .inl hv
    | some g => right; rw [hv]; intro e; have := (hwin1.out.lt g hv).2; simp [Value.ownBlock] at e; omega
  case round =>
    obtain ⟨O, L, hd, ho, hl, ha, hb⟩ := hrel
    have hsb := hb.size
    have hOL := hd.2
    have HD := Lib.hid hd
    clear hd hwin1 hb1 hs1
    match L, hl, hOL, HD with
    | [], hl, hOL, HD =>
      obtain ⟨A, c, rfl, hc, _⟩ := hl.row
      have HF := Lib.hid HD.out.done
      clear hOL hl ha
      go_wp2_with fail
      go_ret2
      rw [← HF.out]
      exact ⟨_, rfl, by rw [ints_len]; exact ho, hb⟩
    | x :: r, hl, hOL, HD =>
      obtain ⟨a, c, hsl, hl3, hbk⟩ := win_cut ul_ints sizeOf_int (show Win wr w.heap.size u4 (r.length + 1) (.int .i64 x :: ints r) from hl)
      obtain ⟨g, off, cap, rfl, hg, hgl, hncap, hcell⟩ := Win.head (show Win wr w.heap.size u4 (r.length + 1) (.int .i64 x :: ints r) from hl)
      simp only [List.length_cons] at hOL
      have ha3 := ha.of_eq hbk
      have HST := Lib.hid HD.out.step
      clear hl ha hbk HD
      by_cases hr2 : 1 < r.length
      · obtain ⟨y, z, r2, rfl⟩ : ∃ y z r2, r = y :: z :: r2 := by
          match r, hr2 with
          | y :: z :: r2, _ => exact ⟨y, z, r2, rfl⟩
        obtain ⟨a2, c2, hsl2, hl4, hbk2⟩ := win_cut ul_ints sizeOf_int (show Win wr w.heap.size (.slice (some a) (y :: z :: r2).length c) ((z :: r2).length + 1) (.int .i64 y :: ints (z :: r2)) from hl3)
        obtain ⟨g3, off3, cap3, he3, hg3, hgl3, hnc3, hcell3⟩ := Win.head (show Win wr w.heap.size (.slice (some a) (y :: z :: r2).length c) ((z :: r2).length + 1) (.int .i64 y :: ints (z :: r2)) from hl3)
        injection he3 with he4 he5 he6
        injection he4 with he4
        subst he4
        subst he6
        clear he5
        simp only [List.length_cons] at *
        go_wp2_with (at_builtin; refine wpList_append_own_at _ rfl (.tmp 18) (.tmp 22) 22 rfl w.heap.size 2 i0 (.int .i64 0) 1 8 Try.underlying22 hi hz0 hz1 hz2 rfl (by decide) _ O.length (ints O) rfl (ho.alloc _) ⟨wr.heap.size, 0, none⟩ 1 1 [.int .i64 x] rfl rfl (new_one _ _ _) (int_one _) (by unfold maxLen; omega) (by omega) (by simp; omega) ?_; intro v' w2 hown2 hgr2 _ hblk2)
        have hw2 := (hl4.alloc _).grown hgr2 (ha3.of_eq hbk2)
        have hc2 : w2.cell? ⟨g3, off3, none⟩ = some (.int .i64 y) := by
          have := Win.src ((hl3.alloc _).grown hgr2 ha3) 0 _ rfl
          rwa [Addr.add_lit, Nat.add_zero] at this
        have ha2 := (ha3.of_eq hbk2).grow (hl4.alloc (.cells #[.int .i64 x] 2)) hblk2 (Nat.le_refl _)
        have hb2 := step_below hb ho hgr2
        have hs2 := hb2.size
        clear hl4 hl3 ha3 hbk2 hgr2 hblk2 hcell3 hcell hsl ho hb hsb
        have hpos : (0 : Int) < (r2.length : Int) + 1 + 1 := by omega
        go_region_law ((refine step_append_win _ (by rfl) (.tmp 30) (.tmp 34) 22 (by rfl) w.heap.size 2 i0 (.int .i64 0) 8 Try.underlying22 hi hz0 hz1 hz2 rfl (.slice (some a2) (r2.length + 1) c2) (r2.length + 1) (ints (z :: r2)) (by rfl) (by exact hw2.alloc _) ⟨w2.heap.size, 0, none⟩ 1 1 [.int .i64 y] (by rfl) rfl (by exact new_one w2 (.int .i64 y) 2) (int_one _) (by unfold maxLen; omega) (by omega) (by simp; omega) ?_; intro v3 w3 hw3 hgr3 hblk3))
        go_wp2_with fail
        have hown3 := (hown2.alloc (.cells #[.int .i64 y] 2)).kept (show (w2.alloc (.cells #[.int .i64 y] 2)).grownBy w3 _ from ⟨hgr3.os, hgr3.tape, hgr3.output, hgr3.size, hgr3.block⟩) ha2.symm
        have ha4 := ha2.turn (hown2.alloc (.cells #[.int .i64 y] 2)) hblk3 (Nat.le_refl _)
        have hb4 : Below w.heap.size w w3 := (hb2.alloc hs2 (.cells #[.int .i64 y] 2)).trans (below_win (hw2.alloc _) (show (w2.alloc (.cells #[.int .i64 y] 2)).grownBy w3 _ from ⟨hgr3.os, hgr3.tape, hgr3.output, hgr3.size, hgr3.block⟩) (Nat.le_refl _) (by simp; omega))
        rw [rot_two] at hw3
        go_roundw
        case rel =>
          (repeat apply Exists.intro)
          refine ⟨⟨O ++ [x], rot (y :: z :: r2), HST.out, ?_, ?_, ha4, hb4⟩, rfl⟩
          · rw [ints_snoc, List.length_append]; exact hown3
          · rw [rot_two_len]; exact hw3
        case measure =>
          show sliceLen v3 < sliceLen (.slice (some ⟨g, off, none⟩) (r2.length + 1 + 1 + 1) cap)
          rw [hw3.slen]
          show r2.length + 1 + 1 < r2.length + 1 + 1 + 1
          omega
      · have hr3 : r.length ≤ 1 := by omega
        clear hr2
        have HRT := Lib.hid (rot_short hr3)
        go_wp2_with (at_builtin; refine wpList_append_own_at _ rfl (.tmp 18) (.tmp 22) 22 rfl w.heap.size 2 i0 (.int .i64 0) 1 8 Try.underlying22 hi hz0 hz1 hz2 rfl (by decide) _ O.length (ints O) rfl (ho.alloc _) ⟨wr.heap.size, 0, none⟩ 1 1 [.int .i64 x] rfl rfl (new_one _ _ _) (int_one _) (by unfold maxLen; omega) (by omega) (by simp; omega) ?_; intro v' w2 hown2 hgr2 _ hblk2)
        have hw2 := (hl3.alloc _).grown hgr2 ha3
        have ha2 := ha3.grow (hl3.alloc (.cells #[.int .i64 x] 2)) hblk2 (Nat.le_refl _)
        have hb2 := step_below hb ho hgr2
        go_roundw
        case rel => exact ⟨O ++ [x], rot r, HST.out, by rw [ints_snoc, List.length_append]; exact hown2, by rw [HRT.out]; exact hw2, ha2, hb2⟩
        case measure => simp [sliceLen]
end Go.Proofs.Ytajbepbggfbmpaa
