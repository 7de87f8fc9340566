/- A slice of one-cell elements as a window on a block of the call's own, wherever it begins; append onto it, a cut at its head. -/
import Derived.Test.YtdbcajiagjeplaaDoorApp
import Derived.ArgAppend
import Derived.Deep.Upon
import Derived.Maps.AppendAt
import Derived.RegionTactic
set_option linter.unusedVariables false
set_option linter.unusedSimpArgs false
namespace Go.Proofs.YtdbcajiagjeplaaDoor
open Go.RowKit

/-- The slice v has the n elements xs; it is nil, or lies in a block from base on, its spare cells are there and not frozen. -/
def Win (w : World) (base : Nat) (v : Value) (n : Nat) (xs : List Value) : Prop :=
  xs.length = n ∧ ((v = .slice none 0 0 ∧ n = 0) ∨ ∃ g off cap, v = .slice (some ⟨g, off, none⟩) n cap ∧ base ≤ g ∧ g < w.heap.size ∧ n ≤ cap ∧ cap ≤ maxLen ∧
    (∀ j u, xs[j]? = some u → w.cell? ⟨g, off + j, none⟩ = some u) ∧ (∀ j, n ≤ j → j < cap → (w.cell? ⟨g, off + j, none⟩).isSome = true ∧ w.frozen? ⟨g, off + j, none⟩ = false))

section
variable {w w' : World} {base n : Nat} {v : Value} {xs : List Value}
theorem Win.len (h : Win w base v n xs) : xs.length = n := h.1
theorem Win.lt (h : Win w base v n xs) : ∀ k, v.ownBlock = some k → base ≤ k ∧ k < w.heap.size := by
  intro k hk
  rcases h.2 with ⟨rfl, _⟩ | ⟨g, off, cap, rfl, hb, hg, _⟩
  · simp [Value.ownBlock] at hk
  · simp [Value.ownBlock] at hk
    subst hk
    exact ⟨hb, hg⟩
theorem Win.base_le (h : Win w base v n xs) {base' : Nat} (hb : base' ≤ base) : Win w base' v n xs :=
  ⟨h.1, h.2.imp id fun ⟨g, off, cap, h1, h2, h3⟩ => ⟨g, off, cap, h1, Nat.le_trans hb h2, h3⟩⟩
theorem Win.carry (h : Win w base v n xs) (hs : w.heap.size ≤ w'.heap.size) (hk : ∀ k, v.ownBlock = some k → w'.heap[k]? = w.heap[k]?) : Win w' base v n xs := by
  refine ⟨h.1, ?_⟩
  rcases h.2 with hn | ⟨g, off, cap, rfl, hb, hg, hnc, hcm, hc, hf⟩
  · exact .inl hn
  · have e : w'.heap[g]? = w.heap[g]? := hk g (by simp [Value.ownBlock])
    refine .inr ⟨g, off, cap, rfl, hb, by omega, hnc, hcm, fun j u hu => ?_, fun j h1 h2 => ?_⟩
    · exact (World.cell?_of_block (a := ⟨g, off + j, none⟩) e).trans (hc j u hu)
    · rw [World.cell?_of_block (a := ⟨g, off + j, none⟩) e, World.frozen?_of_block (a := ⟨g, off + j, none⟩) e]
      exact hf j h1 h2
theorem Win.grown {row : Option Nat} (h : Win w base v n xs) (hg : w.grownBy w' row) (hne : v.ownBlock = none ∨ v.ownBlock ≠ row) : Win w' base v n xs :=
  h.carry hg.size fun k hk => hg.block k (h.lt k hk).2 (by rcases hne with e | e <;> rw [hk] at e; cases e; exact e)
theorem Win.alloc (h : Win w base v n xs) (o : Obj) : Win (w.alloc o) base v n xs := h.carry (by simp) fun k hk => Below.heap_alloc w o k (h.lt k hk).2
theorem Win.drew (h : Win w base v n xs) : Win w.drew base v n xs := h
theorem Win.drewN (h : Win w base v n xs) (k : Nat) : Win (w.drewN k) base v n xs := h
theorem Win.below (h : Win w base v n xs) (hb : Below w.heap.size w w') : Win w' base v n xs := h.carry hb.size fun k hk => hb.block k (h.lt k hk).2
theorem Win.of_own {e : TypeId} (h : w.ownsRow base e 1 v n xs) : Win w base v n xs := by
  refine ⟨own_len h, ?_⟩
  rcases h.2 with hn | ⟨g, cap, cur, rfl, hb, hg, hnc, hcm, hcs, htake⟩
  · exact .inl hn
  · have hlt : g < w.heap.size := (Array.getElem?_eq_some_iff.1 hg).1
    refine .inr ⟨g, 0, cap, rfl, hb, hlt, hnc, hcm, fun j u hu => ?_, fun j h1 h2 => ?_⟩
    · have hj : j < n := by
        have := own_len h
        rcases Nat.lt_or_ge j xs.length with h3 | h3
        · omega
        · rw [List.getElem?_eq_none h3] at hu; cases hu
      rw [Nat.zero_add, h.cellAt j (by omega)]; exact hu
    · rw [Nat.zero_add, cell_of_row w g j cur e (0, 0) hg]
      refine ⟨?_, ?_⟩
      · rw [Array.getElem?_eq_getElem (by omega)]; rfl
      · simp [World.frozen?, hg]
theorem Win.row (h : Win w base v n xs) : ∃ A c, v = .slice A n c ∧ n ≤ c ∧ Row w w.heap.size A n (fun j => xs.getD j undef) := by
  rcases h.2 with ⟨rfl, rfl⟩ | ⟨g, off, cap, rfl, hb, hg, hnc, hcm, hc, hf⟩
  · exact ⟨none, 0, rfl, Nat.le_refl _, fun h => absurd h (by omega)⟩
  · refine ⟨_, _, rfl, hnc, fun hn => ⟨g, off, rfl, hg, fun j hj => hc j _ ?_⟩⟩
    have hl : j < xs.length := by rw [h.1]; omega
    simp [List.getD_eq_getElem?_getD, List.getElem?_eq_getElem hl]
end

theorem tape_setCells (b : Nat) : ∀ (vs : List Value) (o : Nat) (w : World), (w.setCells b o vs).tape = w.tape
  | [], _, _ => rfl
  | v :: r, o, w => by rw [World.setCells, tape_setCells b r]; rfl
theorem size_setCells (b : Nat) : ∀ (vs : List Value) (o : Nat) (w : World), (w.setCells b o vs).heap.size = w.heap.size
  | [], _, _ => rfl
  | v :: r, o, w => by rw [World.setCells, size_setCells b r]; simp [World.setCell]
theorem grown_setCells (w : World) (g o : Nat) (vs : List Value) : w.grownBy (w.setCells g o vs) (some g) :=
  ⟨World.os_setCells w g o vs, tape_setCells g vs o w, World.output_setCells w g o vs, by rw [size_setCells]; exact Nat.le_refl _,
   fun k hk hne => World.heap_setCells_other w g o vs hk (fun e => hne (by rw [e]))⟩

section
variable {P : Program} (w : World)

/-- append onto a window. -/
theorem run_append_win (base : Nat) (t ty e : TypeId) (i : TypeInfo) (z : Value) (bytes : Nat) (ht : P.underlying t = some (.slice e)) (hi : P.info? e = some i) (hz : i.zero = some z)
    (hsize : i.size = 1) (hby : i.bytes = bytes) (hzs : z.cells.size = 1)
    (v : Value) (n : Nat) (xs : List Value) (hwin : Win w base v n xs)
    (a : Addr) (m c : Nat) (news : List Value) (hl : news.length = m) (hnews : ∀ j u, news[j]? = some u → w.cell? (a.add j) = some u) (h1 : ∀ u ∈ news, u.oneCell' = true)
    (h63 : n + m ≤ maxLen) (hbytes : (n + m) * bytes ≤ 140737488355328) (hbase : base ≤ w.heap.size) :
    ∃ v' w', (Builtin.append_ #[t, t] ty #[v, .slice (some a) m c]).run P w = .ok v' w' ∧ Win w' base v' (n + m) (xs ++ news) ∧ w.grownBy w' v.ownBlock ∧
      (v'.ownBlock = v.ownBlock ∨ v'.ownBlock = some w.heap.size) := by
  have hl1 : news.length = m * 1 := by omega
  rcases hwin.2 with ⟨rfl, rfl⟩ | ⟨g, off, cap, rfl, hb, hg, hnc, hcm, hc, hf⟩
  · have hx : xs = [] := List.eq_nil_of_length_eq_zero hwin.1
    subst hx
    obtain ⟨v', w', hrun, h2, h3, _, h5⟩ := run_append_own_at (P := P) w base t ty e i z 1 bytes ht hi hz hsize hby hzs (by omega) (.slice none 0 0) 0 [] (World.ownsRow_nil _ _ _ _) a m c news hl1 hnews h1 h63 hbytes hbase
    exact ⟨v', w', hrun, .of_own h2, h3, h5⟩
  · by_cases hroom : n + m ≤ cap
    · have hsp : ∀ j, j < news.length → (w.cell? ⟨g, off + n + j, none⟩).isSome = true ∧ w.frozen? ⟨g, off + n + j, none⟩ = false := fun j hj => by
        have := hf (n + j) (by omega) (by omega)
        rwa [← Nat.add_assoc] at this
      have hr := run_append_room_cells (P := P) w t ty e i ht hi g off n cap a m c news (by rw [hsize]; exact hl1) hnews h1 hroom (fun j hj => by rw [hsize, Nat.mul_one]; exact (hsp j hj).1) (fun j hj => by rw [hsize, Nat.mul_one]; exact (hsp j hj).2)
      rw [hsize, Nat.mul_one] at hr
      refine ⟨_, _, hr, ⟨by rw [List.length_append, hwin.1, hl], .inr ⟨g, off, cap, rfl, hb, by rw [size_setCells]; exact hg, hroom, hcm, fun j u hu => ?_, fun j h1 h2 => ?_⟩⟩, grown_setCells _ _ _ _, .inl rfl⟩
      · by_cases hj : j < n
        · rw [List.getElem?_append_left (by rw [hwin.1]; exact hj)] at hu
          rw [World.cell?_setCells_out g news (off + n) w _ (fun _ _ => .inl (by simp; omega))]
          exact hc j u hu
        · rw [List.getElem?_append_right (by rw [hwin.1]; omega), hwin.1] at hu
          have hj2 : j - n < news.length := by
            rcases Nat.lt_or_ge (j - n) news.length with h3 | h3
            · exact h3
            · rw [List.getElem?_eq_none h3] at hu; cases hu
          have := World.cell?_setCells_in g news (off + n) w (fun i hi => (hsp i hi).1) (j - n) hj2
          rw [show off + n + (j - n) = off + j by omega] at this
          rw [this]
          rw [List.getElem?_eq_getElem hj2] at hu
          exact hu
      · rw [World.cell?_setCells_out g news (off + n) w _ (fun _ _ => .inr (by simp; omega)), World.frozen?_setCells]
        exact hf j (by omega) h2
    · obtain ⟨v', w', hrun, h2, h3⟩ := run_append_arg_grows (P := P) w t ty e i z 1 bytes ht hi hz hsize hby hzs (by omega) ⟨g, off, none⟩ n cap xs (by rw [hwin.1]; omega) (fun j u hu => by rw [Addr.add_lit]; exact hc j u hu) a m c news hl1 hnews (by omega) h63 hbytes
      have hown := Win.of_own h2
      have hr2 := run_append_grow (P := P) w t ty e i z ht hi hz ⟨g, off, none⟩ n cap xs (by rw [hwin.1, hsize]; omega) (fun j u hu => by rw [Addr.add_lit]; exact hc j u hu) a m c news (by rw [hsize]; exact hl1) hnews (by omega) (by unfold maxLen at h63; omega) (growslice_fits (by omega) (by rw [hby]; exact hbytes))
      have hv : Value.slice (some ⟨w.heap.size, 0, none⟩) (n + m) (grownCap w (n + m) cap e) = v' := by
        have := hr2.symm.trans hrun
        injection this
      refine ⟨v', w', hrun, hown.base_le hbase, ⟨h3.os, h3.tape, h3.output, h3.size, fun k hk _ => h3.block k hk (by simp)⟩, .inr ?_⟩
      rw [← hv]; rfl

theorem wp_append_win {o : Oper} {a : Act} {K : Act → World → Prop} {Q : Exit → Act → World → Prop} (s x : Operand) (t : TypeId)
    (ho : o.op = .call { callee := .builtin .append, args := #[s, x], argTypes := #[t, t] })
    (base : Nat) (e : TypeId) (i : TypeInfo) (z : Value) (bytes : Nat) (ht : P.underlying t = some (.slice e)) (hi : P.info? e = some i) (hz : i.zero = some z)
    (hsize : i.size = 1) (hby : i.bytes = bytes) (hzs : z.cells.size = 1)
    (v : Value) (n : Nat) (xs : List Value) (hs : a.eval s = v) (hwin : Win w base v n xs)
    (ad : Addr) (m c : Nat) (news : List Value) (hx : a.eval x = .slice (some ad) m c) (hl : news.length = m) (hnews : ∀ j u, news[j]? = some u → w.cell? (ad.add j) = some u) (h1 : ∀ u ∈ news, u.oneCell' = true)
    (h63 : n + m ≤ maxLen) (hbytes : (n + m) * bytes ≤ 140737488355328) (hbase : base ≤ w.heap.size)
    (h : ∀ v' w', Win w' base v' (n + m) (xs ++ news) → w.grownBy w' v.ownBlock → (v'.ownBlock = v.ownBlock ∨ v'.ownBlock = some w.heap.size) → K (a.put o.dst v') w') : o.wp P a w K Q := by
  obtain ⟨v', w', hrun, h2, h3, h4⟩ := run_append_win (P := P) w base t o.type e i z bytes ht hi hz hsize hby hzs v n xs hwin ad m c news hl hnews h1 h63 hbytes hbase
  unfold Oper.wp execOp
  simp only [ho, resolve, invoke, builtin, Sem.run_bind, Sem.run_pure, Result.andThen_ok, List.map_toArray, List.map_cons, List.map_nil, hs, hx, hrun]
  exact h v' w' h2 h3 h4

theorem wpList_append_win {ops : Array Oper} {rest : List Oper} {o : Oper} {a : Act} {Q : Exit → Act → World → Prop} (hgd : o.guard = none) (s x : Operand) (t : TypeId)
    (ho : o.op = .call { callee := .builtin .append, args := #[s, x], argTypes := #[t, t] })
    (base : Nat) (e : TypeId) (i : TypeInfo) (z : Value) (bytes : Nat) (ht : P.underlying t = some (.slice e)) (hi : P.info? e = some i) (hz : i.zero = some z)
    (hsize : i.size = 1) (hby : i.bytes = bytes) (hzs : z.cells.size = 1)
    (v : Value) (n : Nat) (xs : List Value) (hs : a.eval s = v) (hwin : Win w base v n xs)
    (ad : Addr) (m c : Nat) (news : List Value) (hx : a.eval x = .slice (some ad) m c) (hl : news.length = m) (hnews : ∀ j u, news[j]? = some u → w.cell? (ad.add j) = some u) (h1 : ∀ u ∈ news, u.oneCell' = true)
    (h63 : n + m ≤ maxLen) (hbytes : (n + m) * bytes ≤ 140737488355328) (hbase : base ≤ w.heap.size)
    (h : ∀ v' w', Win w' base v' (n + m) (xs ++ news) → w.grownBy w' v.ownBlock → (v'.ownBlock = v.ownBlock ∨ v'.ownBlock = some w.heap.size) → wpList P ops Q rest (a.put o.dst v') w') : wpList P ops Q (o :: rest) a w :=
  wpList_plain hgd fun _ hK => wp_append_win w s x t ho base e i z bytes ht hi hz hsize hby hzs v n xs hs hwin ad m c news hx hl hnews h1 h63 hbytes hbase fun v' w' h2 h3 h4 => hK _ _ (h v' w' h2 h3 h4)

theorem step_append_win {ops : Array Oper} {o : Oper} {a : Act} {K : Act → World → Prop} {Q : Exit → Act → World → Prop} {E : Prop} (hgd : o.guard = none) (s x : Operand) (t : TypeId)
    (ho : o.op = .call { callee := .builtin .append, args := #[s, x], argTypes := #[t, t] })
    (base : Nat) (e : TypeId) (i : TypeInfo) (z : Value) (bytes : Nat) (ht : P.underlying t = some (.slice e)) (hi : P.info? e = some i) (hz : i.zero = some z)
    (hsize : i.size = 1) (hby : i.bytes = bytes) (hzs : z.cells.size = 1)
    (v : Value) (n : Nat) (xs : List Value) (hs : a.eval s = v) (hwin : Win w base v n xs)
    (ad : Addr) (m c : Nat) (news : List Value) (hx : a.eval x = .slice (some ad) m c) (hl : news.length = m) (hnews : ∀ j u, news[j]? = some u → w.cell? (ad.add j) = some u) (h1 : ∀ u ∈ news, u.oneCell' = true)
    (h63 : n + m ≤ maxLen) (hbytes : (n + m) * bytes ≤ 140737488355328) (hbase : base ≤ w.heap.size)
    (h : ∀ v' w', Win w' base v' (n + m) (xs ++ news) → w.grownBy w' v.ownBlock → (v'.ownBlock = v.ownBlock ∨ v'.ownBlock = some w.heap.size) → K (a.put o.dst v') w') :
    if Region.wanted o (yielded ops a.tmps) = true then Oper.wp P o a w K Q else E := by
  have hw : Region.wanted o (yielded ops a.tmps) = true := by simp [Region.wanted, hgd]
  rw [if_pos hw]
  exact wp_append_win w s x t ho base e i z bytes ht hi hz hsize hby hzs v n xs hs hwin ad m c news hx hl hnews h1 h63 hbytes hbase h
end

/-- A cut at the head: 's[1:]'. -/
theorem win_cut {P : Program} {t : TypeId} (ht : P.underlying t = some (.slice (P.elem t))) (hs : ∀ W, (sizeOf (P.elem t)).run P W = .ok 1 W) {w : World} {base n : Nat} {v x : Value} {xs : List Value} (h : Win w base v (n + 1) (x :: xs)) :
    ∃ a c, (∀ W, (Instr.slice t v (some (.int .i64 1)) none none).run P W = .ok (.slice (some a) n c) W) ∧ Win w base (.slice (some a) n c) n xs ∧ (Value.slice (some a) n c).ownBlock = v.ownBlock := by
  rcases h.2 with ⟨_, h0⟩ | ⟨g, off, cap, rfl, hb, hg, hnc, hcm, hc, hf⟩
  · omega
  · by_cases hcap : cap = 1
    · refine ⟨⟨g, off, none⟩, cap - 1, fun W => ?_, ⟨by have := h.1; simp at this; omega, .inr ⟨g, off, cap - 1, rfl, hb, hg, by omega, by omega, fun j u hu => ?_, fun j h1 h2 => by omega⟩⟩, rfl⟩
      · rw [run_slice_l W t _ _ _ ht .i64 1 (by omega) (by omega), hs]
        simp [Result.andThen, sliced, hcap]
      · have : n = 0 := by omega
        subst this
        have h1 := h.1
        simp at h1
        subst h1
        simp at hu
    · refine ⟨⟨g, off + 1, none⟩, cap - 1, fun W => ?_, ⟨by have := h.1; simp at this; omega, .inr ⟨g, off + 1, cap - 1, rfl, hb, hg, by omega, by omega, fun j u hu => ?_, fun j h1 h2 => ?_⟩⟩, rfl⟩
      · rw [run_slice_l W t _ _ _ ht .i64 1 (by omega) (by omega), hs]
        simp [Result.andThen, sliced, hcap, Addr.add]
      · have := hc (j + 1) u (by simpa using hu)
        rwa [show off + (j + 1) = off + 1 + j by omega] at this
      · have := hf (j + 1) (by omega) (by omega)
        rwa [show off + (j + 1) = off + 1 + j by omega] at this
end Go.Proofs.YtdbcajiagjeplaaDoor
