/- DownUnder of the reference. -/
import Derived.Test.YtajbepbggfbmpaaWDown
set_option linter.unusedVariables false
set_option linter.unusedSimpArgs false
namespace Go.Proofs.Ytajbepbggfbmpaa
open Go.RowKit

/-- What is kept while blocks from wo's end on are turned. -/
structure Kp (w wo W : World) (out : Value) (k : Nat) (xs : List Value) (p : Addr) (y : Value) : Prop where
  below : Below w.heap.size w W
  own : W.ownsRow w.heap.size 2 1 out k xs
  cell : W.cell? p = some y
  size : wo.heap.size ≤ W.heap.size
section
variable {w wo W W' : World} {out : Value} {k : Nat} {xs : List Value} {p : Addr} {y : Value}
theorem Kp.alloc (h : Kp w wo W out k xs p y) (hw : w.heap.size ≤ wo.heap.size) (hp : p.block < wo.heap.size) (o : Obj) : Kp w wo (W.alloc o) out k xs p y :=
  ⟨h.below.alloc (Nat.le_trans hw h.size) o, h.own.alloc o, by rw [World.cell?_alloc_lt W o p (Nat.lt_of_lt_of_le hp h.size)]; exact h.cell, by have := h.size; simp; omega⟩
theorem Kp.grown {row : Option Nat} (h : Kp w wo W out k xs p y) (hw : w.heap.size ≤ wo.heap.size) (hp : p.block < wo.heap.size) (ho : ∀ g, out.ownBlock = some g → g < wo.heap.size) (hg : W.grownBy W' row) (hr : ∀ g, row = some g → wo.heap.size ≤ g) : Kp w wo W' out k xs p y := by
  refine ⟨h.below.grown hg (Nat.le_trans hw h.size) fun g e => Nat.le_trans hw (hr g e), h.own.kept hg ?_, ?_, Nat.le_trans h.size hg.size⟩
  · cases hv : out.ownBlock with
    | none => exact .inl rfl
    | some g => right; intro e; have h1 := ho g hv; have h2 := hr g e.symm; omega
  · refine (World.cell?_of_block (hg.block p.block (Nat.lt_of_lt_of_le hp h.size) ?_)).trans h.cell
    intro e
    have := hr _ e.symm
    omega
end

theorem grown_of_drew {w w' : World} {row : Option Nat} (h : w.drew.grownBy w' row) : w.grownBy w' row := ⟨h.os, h.tape, h.output, h.size, h.block⟩
theorem new_still {W w' : World} {b : Nat} {x : Value} {row : Option Nat} (hb : W.cell? ⟨b, 0, none⟩ = some x) (hlt : b < W.heap.size) (hg : W.grownBy w' row) (hne : some b ≠ row) :
    ∀ j u, [x][j]? = some u → w'.cell? ((⟨b, 0, none⟩ : Addr).add j) = some u := by
  intro j u h
  match j, h with
  | 0, h =>
    simp only [List.getElem?_cons_zero, Option.some.injEq] at h
    subst h
    exact (World.cell?_of_block (a := ⟨b, 0, none⟩) (hg.block b hlt hne)).trans hb
  | j + 1, h => simp at h
theorem new_still2 {W w' : World} {b N : Nat} {x : Value} (hg : W.grownBy w' (Value.slice (some ⟨N, 0, none⟩) 0 0).ownBlock) (hb : W.cell? ⟨b, 0, none⟩ = some x) (hlt : b < W.heap.size) (hne : b ≠ N) :
    ∀ j u, [x][j]? = some u → w'.cell? ((⟨b, 0, none⟩ : Addr).add j) = some u := new_still hb hlt hg (by simp [Value.ownBlock]; exact hne)
theorem cell_new (w : World) (x : Value) (e : TypeId) : (w.alloc (.cells #[x] e)).cell? ⟨w.heap.size, 0, none⟩ = some x := by
  rw [World.cell?_alloc_at _ _ _ _ rfl]; rfl
theorem Apart.of_ge {u v : Value} {N : Nat} (hu : ∀ g, u.ownBlock = some g → N ≤ g) (hv : ∀ g, v.ownBlock = some g → g < N) : Apart u v := by
  cases h : u.ownBlock with
  | none => exact .inl h
  | some g => right; intro e; have h1 := hu g h; have h2 := hv g (e.symm.trans h); omega

theorem win_empty {w : World} {B N e : Nat} (hN : w.heap.size = N) (hB : B ≤ N) : Win (w.alloc (.cells #[] e)) B (.slice (some ⟨N, 0, none⟩) 0 0) 0 [] := by
  subst hN
  exact .base_le (.of_own (own_empty _ _)) hB
theorem cell_new_at {w : World} {x : Value} {N e : Nat} (hN : w.heap.size = N) : (w.alloc (.cells #[x] e)).cell? ⟨N, 0, none⟩ = some x := by
  subst hN
  exact cell_new w x e
theorem ge_row {B N : Nat} (h : B ≤ N) : ∀ q, (Value.slice (some ⟨N, 0, none⟩) 0 0).ownBlock = some q → B ≤ q := by
  intro q e
  simp [Value.ownBlock] at e
  omega
theorem ge_blk {B N M : Nat} {v : Value} (hv : v.ownBlock = (Value.slice (some ⟨N, 0, none⟩) 0 0).ownBlock ∨ v.ownBlock = some M) (h : B ≤ N) (h2 : B ≤ M) : ∀ q, v.ownBlock = some q → B ≤ q := by
  intro q e
  rcases hv with e2 | e2
  · exact ge_row h q (e2.symm.trans e)
  · have := e2.symm.trans e
    cases this
    exact h2
theorem ge_blk2 {B M : Nat} {u v : Value} (hv : v.ownBlock = u.ownBlock ∨ v.ownBlock = some M) (h : ∀ q, u.ownBlock = some q → B ≤ q) (h2 : B ≤ M) : ∀ q, v.ownBlock = some q → B ≤ q := by
  intro q e
  rcases hv with e2 | e2
  · exact h q (e2.symm.trans e)
  · have := e2.symm.trans e
    cases this
    exact h2

set_option maxHeartbeats 4000000 in
theorem specDown_yes (n : Nat) (h1 : 1 ≤ n) (hn : n ≤ 52) (w : World) : Calls Try.prog 23 #[.int .i64 n] w fun e w' => GivesL 2 (ints (deal n (upto n))) true w e w' := by
  obtain ⟨i0, hi, hz0, hz1, hz2⟩ := info_parts info_int
  have hin := inB_true (n := n) (low := 1) (high := 52) (by omega) (by omega)
  go_enter Try.func23, Try.ntmps23
  go_wp2_with (go_at_call 25; refine (l00In_any _ _ _ _).mono ?_; rw [hin]; rintro e w' ⟨rfl, rfl⟩)
  refine (l02New_any n (by omega) _).mono ?_
  rintro e w1 ⟨v1, rfl, hown1, hb1⟩
  rw [ints_len, upto_len] at hown1
  have hwin1 := Lib.hid (Win.of_own hown1)
  have hs1 := hb1.size
  clear hown1
  go_wp2_with fail
  go_loopw [4, 5] (fun d o wr => ∃ O L : List Int, Dealt n O L ∧ wr.ownsRow w.heap.size 2 1 o O.length (ints O) ∧ Win wr w.heap.size d L.length (ints L) ∧ Apart d o ∧ Below w.heap.size w wr) (fun d _ _ => sliceLen d)
  case atStart =>
    refine ⟨[], upto n, Dealt.start n, own_base (own_empty _ _) hs1, by rw [upto_len]; exact hwin1.out.alloc _, ?_, hb1.alloc hs1 _⟩
    cases hv : v1.ownBlock with
    | none => exact .inl hv
    | some g => right; rw [hv]; intro e; have := (hwin1.out.lt g hv).2; simp [Value.ownBlock] at e; omega
  case round =>
    obtain ⟨O, L, hd, ho, hl, ha, hb⟩ := hrel
    have hsb := hb.size
    have hOL := hd.2
    have HD := Lib.hid hd
    clear hd hwin1 hb1 hs1
    match L, hl, hOL, HD with
    | [], hl, hOL, HD =>
      obtain ⟨A, c, rfl, hc, _⟩ := hl.row
      have HF := Lib.hid HD.out.done
      clear hOL hl ha
      go_wp2_with fail
      go_ret2
      rw [← HF.out]
      exact ⟨_, rfl, by rw [ints_len]; exact ho, hb⟩
    | x :: r, hl, hOL, HD =>
      obtain ⟨a, c, hsl, hl3, hbk⟩ := win_cut ul_ints sizeOf_int (show Win wr w.heap.size u4 (r.length + 1) (.int .i64 x :: ints r) from hl)
      obtain ⟨g, off, cap, rfl, hg, hgl, hncap, hcell⟩ := Win.head (show Win wr w.heap.size u4 (r.length + 1) (.int .i64 x :: ints r) from hl)
      simp only [List.length_cons] at hOL
      have ha3 := ha.of_eq hbk
      have HST := Lib.hid HD.out.step
      clear hl ha hbk HD
      have HA := Lib.hid ha3
      have HL := Lib.hid hl3
      clear ha3 hl3
      by_cases hr2 : 1 < r.length
      · obtain ⟨y, z, r2, rfl⟩ : ∃ y z r2, r = y :: z :: r2 := by
          match r, hr2 with
          | y :: z :: r2, _ => exact ⟨y, z, r2, rfl⟩
        simp only [List.length_cons] at hOL hr2 HL hsl
        go_wp2_with (first | (at_builtin; refine wpList_append_own_at _ rfl (.tmp 15) (.tmp 19) 22 rfl w.heap.size 2 i0 (.int .i64 0) 1 8 Try.underlying22 hi hz0 hz1 hz2 rfl (by decide) _ O.length (ints O) rfl (ho.alloc _) ⟨wr.heap.size, 0, none⟩ 1 1 [.int .i64 x] rfl rfl (new_one _ _ _) (int_one _) (by unfold maxLen; omega) (by omega) (by simp; omega) ?_; intro v' w2 hown2 hgr2 _ hblk2; have hw2 := (HL.out.alloc _).grown hgr2 HA.out; have hb2 := step_below hb ho hgr2; have hs2 := hb2.size) | (at_builtin; refine wpList_append_win _ rfl (.tmp 21) (.tmp 23) 22 rfl w.heap.size 2 i0 (.int .i64 0) 8 Try.underlying22 hi hz0 hz1 hz2 rfl (.slice (some ⟨w2.heap.size, 0, none⟩) 0 0) 0 [] rfl (.base_le (.of_own (own_empty _ _)) hs2) a (r2.length + 1 + 1) c (ints (y :: z :: r2)) rfl (ints_len _) (Win.src (hw2.alloc _)) (ints_one _) (by unfold maxLen; omega) (by omega) (by simp; omega) ?_; intro v3 w3 hw3 hgr3 hblk3; rw [Nat.zero_add, List.nil_append] at hw3; obtain ⟨A3, c3, rfl, hnc3, _⟩ := hw3.row))
        have hown3 := (hown2.alloc (.cells #[] 2)).kept hgr3 (by
          cases hv : v'.ownBlock with
          | none => exact .inl rfl
          | some q => right; intro e; have := (hown2.lt q hv).2; simp [Value.ownBlock] at e; omega)
        have hb3 : Below w.heap.size w w3 := (hb2.alloc hs2 _).grown hgr3 (by simp; omega) (fun q e => by simp [Value.ownBlock] at e; omega)
        have hs3 := hb3.size
        have hob : ∀ q, v'.ownBlock = some q → q < w3.heap.size := fun q hv => (hown3.lt q hv).2
        obtain ⟨a2, c2, hsl2, hl4, hbk2⟩ := win_cut ul_ints sizeOf_int (show Win w3 w.heap.size (.slice A3 (r2.length + 1 + 1) c3) (r2.length + 1 + 1) (.int .i64 y :: ints (z :: r2)) from hw3)
        obtain ⟨g3, off3, cap3, he3, hg3, hgl3, hnc3', hcell3⟩ := Win.head (show Win w3 w.heap.size (.slice A3 (r2.length + 1 + 1) c3) (r2.length + 1 + 1) (.int .i64 y :: ints (z :: r2)) from hw3)
        injection he3 with he4 he5 he6
        subst he4
        subst he6
        clear he5 hgr2 hblk2 hgr3 hblk3 hw2 hb2 hs2 hown2 hcell hsl hb hsb ho
        have HL4 := Lib.hid hl4
        have hpos : (0 : Int) < (r2.length : Int) + 1 + 1 := by omega
        have hne1 : g3 ≠ w3.heap.size := by omega
        have hne2 : g3 ≠ w3.heap.size + 1 := by omega
        clear hl4 hw3
        have HK3 := Lib.hid (show Kp w w3 w3 v' (O.length + 1) (ints O ++ [.int .i64 x]) ⟨g3, off3, none⟩ (.int .i64 y) from ⟨hb3, hown3, hcell3, Nat.le_refl _⟩)
        clear hown3 hb3
        go_region_law (first | ((refine step_append_win _ (by rfl) (.tmp 28) (.tmp 30) 22 (by rfl) w.heap.size 2 i0 (.int .i64 0) 8 Try.underlying22 hi hz0 hz1 hz2 rfl _ 0 [] (by rfl) (by first | exact win_empty rfl hs3 | exact win_empty (by simp) (by omega) | exact .alloc (win_empty rfl hs3) _) a2 (r2.length + 1) c2 (ints (z :: r2)) (by rfl) (ints_len _) (by first | exact (HL4.out.alloc _).src | exact ((HL4.out.alloc _).alloc _).src) (ints_one _) (by unfold maxLen; omega) (by omega) (by simp; omega) ?_; intro v4 w4 hw4 hgr4 hblk4; (have hge4 := ge_blk (B := w3.heap.size) hblk4 (by first | exact Nat.le_refl _ | (simp; done) | (simp; omega)) (by first | exact Nat.le_refl _ | (simp; done) | (simp; omega))); (have hk4 : Kp w w3 w4 v' (O.length + 1) (ints O ++ [.int .i64 x]) ⟨g3, off3, none⟩ (.int .i64 y) := (by first | exact (HK3.out.alloc hs3 hgl3 _).grown hs3 hgl3 hob (grown_of_drew hgr4) (ge_row (by first | exact Nat.le_refl _ | (simp; done) | (simp; omega))) | exact ((HK3.out.alloc hs3 hgl3 _).alloc hs3 hgl3 _).grown hs3 hgl3 hob (grown_of_drew hgr4) (ge_row (by first | exact Nat.le_refl _ | (simp; done) | (simp; omega))))); (have hcell4 := hk4.cell))) | ((refine step_append_win _ (by rfl) (.tmp 31) (.tmp 35) 22 (by rfl) w.heap.size 2 i0 (.int .i64 0) 8 Try.underlying22 hi hz0 hz1 hz2 rfl v4 (0 + (r2.length + 1)) ([] ++ ints (z :: r2)) (by rfl) (by first | exact hw4 | exact hw4.alloc _) _ 1 1 [.int .i64 y] (by rfl) rfl (by first | exact new_one _ _ _ | exact new_still2 (N := w3.heap.size) (grown_of_drew hgr4) (cell_new_at (w := w3.alloc (.cells #[] 2)) (by simp)) (by simp) (by omega) | exact new_still2 (N := w3.heap.size + 1) (grown_of_drew hgr4) ((World.cell?_alloc_lt (w3.alloc (.cells #[.int .i64 y] 2)) (.cells #[] 2) ⟨w3.heap.size, 0, none⟩ (by simp)).trans (cell_new_at (w := w3) rfl)) (by first | (simp; done) | (simp; omega)) (by omega)) (int_one _) (by unfold maxLen; omega) (by omega) (by have := hk4.size; simp; omega) ?_; intro v5 w5 hw5 hgr5 hblk5)))
        all_goals
          have hge5 := ge_blk2 hblk5 hge4 (by have := hk4.size; first | exact this | (simp; omega))
          have hk5 : Kp w w3 w5 v' (O.length + 1) (ints O ++ [.int .i64 x]) ⟨g3, off3, none⟩ (.int .i64 y) := by
            first
              | exact hk4.grown hs3 hgl3 hob (grown_of_drew hgr5) hge4
              | exact (hk4.alloc hs3 hgl3 _).grown hs3 hgl3 hob (grown_of_drew hgr5) hge4
              | exact hk4.grown hs3 hgl3 hob hgr5 hge4
              | exact (hk4.alloc hs3 hgl3 _).grown hs3 hgl3 hob hgr5 hge4
          have ha5 : Apart v5 v' := .of_ge hge5 hob
          rw [List.nil_append, rot_two, Nat.zero_add] at hw5
          go_wp2_with fail
          go_roundw
          case rel =>
            (repeat apply Exists.intro)
            refine ⟨⟨O ++ [x], rot (y :: z :: r2), HST.out, ?_, ?_, ha5, hk5.below⟩, rfl⟩
            · rw [ints_snoc, List.length_append]; exact hk5.own
            · rw [rot_two_len]; exact hw5
          case measure =>
            show sliceLen v5 < sliceLen (.slice (some ⟨g, off, none⟩) (r2.length + 1 + 1 + 1) cap)
            rw [hw5.slen]
            show r2.length + 1 + 1 < r2.length + 1 + 1 + 1
            omega
      · have hr3 : r.length ≤ 1 := by omega
        clear hr2
        have HRT := Lib.hid (rot_short hr3)
        go_wp2_with (first | (at_builtin; refine wpList_append_own_at _ rfl (.tmp 15) (.tmp 19) 22 rfl w.heap.size 2 i0 (.int .i64 0) 1 8 Try.underlying22 hi hz0 hz1 hz2 rfl (by decide) _ O.length (ints O) rfl (ho.alloc _) ⟨wr.heap.size, 0, none⟩ 1 1 [.int .i64 x] rfl rfl (new_one _ _ _) (int_one _) (by unfold maxLen; omega) (by omega) (by simp; omega) ?_; intro v' w2 hown2 hgr2 _ hblk2; have hw2 := (HL.out.alloc _).grown hgr2 HA.out; have hb2 := step_below hb ho hgr2; have hs2 := hb2.size) | (at_builtin; refine wpList_append_win _ rfl (.tmp 21) (.tmp 23) 22 rfl w.heap.size 2 i0 (.int .i64 0) 8 Try.underlying22 hi hz0 hz1 hz2 rfl (.slice (some ⟨w2.heap.size, 0, none⟩) 0 0) 0 [] rfl (.base_le (.of_own (own_empty _ _)) hs2) a r.length c (ints r) rfl (ints_len _) (Win.src (hw2.alloc _)) (ints_one _) (by unfold maxLen; omega) (by omega) (by simp; omega) ?_; intro v3 w3 hw3 hgr3 hblk3; rw [Nat.zero_add, List.nil_append] at hw3; obtain ⟨A3, c3, rfl, hnc3, _⟩ := hw3.row))
        have hown3 := (hown2.alloc (.cells #[] 2)).kept hgr3 (by
          cases hv : v'.ownBlock with
          | none => exact .inl rfl
          | some q => right; intro e; have := (hown2.lt q hv).2; simp [Value.ownBlock] at e; omega)
        have hb3 : Below w.heap.size w w3 := (hb2.alloc hs2 _).grown hgr3 (by simp; omega) (fun q e => by simp [Value.ownBlock] at e; omega)
        have ha3 : Apart (.slice A3 r.length c3) v' := by
          right
          intro e
          rcases hblk3 with e2 | e2
          · have h := (hown2.lt w2.heap.size (e.symm.trans e2)).2; omega
          · have h := (hown2.lt (w2.alloc (.cells #[] 2)).heap.size (e.symm.trans e2)).2; simp at h; omega
        go_roundw
        case rel => exact ⟨O ++ [x], rot r, HST.out, by rw [ints_snoc, List.length_append]; exact hown3, by rw [HRT.out]; exact hw3, ha3, hb3⟩
        case measure => simp [sliceLen]
end Go.Proofs.Ytajbepbggfbmpaa
