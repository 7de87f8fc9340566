/- A law's arguments: read again behind the call; slices of one-cell elements, opened. -/
import Derived.Test.YtecncnkbgfjdcaaZRow
import Derived.OpenShut
import Derived.ChangeStays
import Derived.ChangeArms
import Derived.ChangeShapes
import Derived.ReadAgain
set_option linter.unusedVariables false
set_option linter.unusedSimpArgs false
namespace Go.Proofs.Ytecncnkbgfjdcaa
open Go.RowKit Go.ChangeShapes Go.WideShapes

theorem laidOut : laidOutB Try.prog = true := by kernel_rfl
theorem mapsRowed' : mapsRowed Try.prog = true := by kernel_rfl
theorem slicesFull : ((List.range Try.prog.types.size).all fun t => match Try.prog.underlying t with | some (.slice e) => decide (0 < Try.prog.cellsOf e) | _ => true) = true := by kernel_rfl

section
variable {H : Type} {enc : TypeId × Value → H} {W W' : World}

theorem arg_stays {t : TypeId} {v : Value} {d : DataW H} {ps : List MemPlace} (h : DataW.Trod enc Try.prog W 0 (fun _ => true) true t v d ps) (ht : t < Try.prog.types.size)
    (hsame : ∀ p ∈ ps, W.sameAt W' p) (sp : Nat → Bool) (hs : ∀ p ∈ ps, sp p.block = true) : DataW.Trod enc Try.prog W' 0 sp true t v d ps := by
  obtain ⟨n, hn⟩ := h
  exact ⟨n, DataW.trod_stays (kids_rows laidOut mapsRowed') (fun {t e} ht hu => slices_full_of Try.prog slicesFull t e ht hu) (fun h => by cases h) ht hn hsame hs⟩

theorem args_stay : ∀ {ts : List TypeId} {vs : List Value} {ds : List (DataW H)} {ps : List MemPlace}, DataW.TrodAll enc Try.prog W 0 (fun _ => true) true ts vs ds ps → (∀ t ∈ ts, t < Try.prog.types.size) →
    (∀ p ∈ ps, W.sameAt W' p) → ∀ sp : Nat → Bool, (∀ p ∈ ps, sp p.block = true) → DataW.TrodAll enc Try.prog W' 0 sp true ts vs ds ps
  | [], _, _, _, h, _, _, _, _ => by
    obtain ⟨rfl, rfl, rfl⟩ := trodAll_nil h
    exact trodAll_mk0
  | t :: ts, _, _, _, h, ht, hsame, sp, hs => by
    obtain ⟨v, vs1, d, ds1, a, b, rfl, rfl, rfl, h1, h2⟩ := trodAll_cons h
    exact trodAll_cons_mk (arg_stays h1 (ht t (by simp)) (fun p hp => hsame p (by simp [hp])) sp (fun p hp => hs p (by simp [hp])))
      (args_stay h2 (fun u hu => ht u (by simp [hu])) (fun p hp => hsame p (by simp [hp])) sp (fun p hp => hs p (by simp [hp])))

/-- A slice of elements of one cell, opened: its cells, each of which reads as an element. -/
theorem open_cells {t e : TypeId} {v : Value} {d : DataW H} {ps : List MemPlace} (ht : Try.prog.underlying t = some (.slice e)) (hc : Try.prog.cellsOf e = 1) (hval : Value.okWide Try.prog W .any 0 t v)
    (h : DataW.Trod enc Try.prog W 0 (fun _ => true) true t v d ps) :
    ∃ A n c, v = .slice A n c ∧ n ≤ c ∧ c ≤ maxLen ∧ (0 < n → ∃ b off, A = some ⟨b, off, none⟩ ∧ b < W.heap.size ∧
      ∀ j, j < n → ∃ u k y, W.cell? ⟨b, off + j, none⟩ = some u ∧ DataW.trod enc Try.prog W 0 (fun _ => true) true k e [u] = some y) := by
  obtain ⟨fuel, hf⟩ := h
  obtain ⟨A, n, c, rfl⟩ := okWide_slice ht hval
  rcases DataW.trod_slice ht hf with ⟨h1, _⟩ | ⟨a, len, cap, elems, rest, k, _, h1, _, _, hl, hm, hlen, hel, _, _⟩
  · simp [Value.cells] at h1
    obtain ⟨rfl, rfl, rfl⟩ := h1
    exact ⟨none, 0, 0, rfl, Nat.le_refl _, Nat.zero_le _, fun h => absurd h (by omega)⟩
  · simp [Value.cells] at h1
    obtain ⟨rfl, rfl, rfl⟩ := h1
    refine ⟨_, _, _, rfl, hl, hm, fun hn => ?_⟩
    have each : ∀ j, j < n → ∃ u y, W.cell? (a.add j) = some u ∧ DataW.trod enc Try.prog W 0 (fun _ => true) true k e [u] = some y := by
      intro j hj
      have h2 := hel j hj
      rw [hc, Nat.mul_one, List.getElem?_eq_getElem (by omega)] at h2
      obtain ⟨cs, h3, h4⟩ := Option.bind_eq_some_iff.1 h2
      obtain ⟨_, h5, h6⟩ := World.cells?_some h3
      match cs, h5 with
      | [u], _ =>
        have h7 := h6 0 (by omega)
        have h8 : ((a.add j).add 0) = a.add j := by unfold Addr.add; simp
        rw [h8] at h7
        exact ⟨u, _, by simpa using h7, h4⟩
    have h0 := each 0 hn
    obtain ⟨u, _, hu, _⟩ := h0
    have ha0 : a.add 0 = a := by unfold Addr.add; simp
    rw [ha0] at hu
    have hspot : a.spot = none := by
      unfold World.cell? at hu
      split at hu
      · split at hu
        · cases hu
        · rename_i hs; simpa using hs
      · cases hu
    have hlt : a.block < W.heap.size := World.block_lt_of_cell? W a hu
    obtain ⟨b, off, sp⟩ := a
    simp only at hspot hlt
    subst hspot
    refine ⟨b, off, rfl, hlt, fun j hj => ?_⟩
    obtain ⟨u, y, h1, h2⟩ := each j hj
    rw [Addr.add_lit] at h1
    exact ⟨u, k, y, h1, h2⟩

/-- What a cell of an integer type is, if it can be read. -/
theorem cell_int {q : Nat} {e : TypeId} {k : IntKind} {u : Value} {y : DataW H × List MemPlace} (he : Try.prog.underlying e = some (.int k)) (h : DataW.trod enc Try.prog W 0 (fun _ => true) true q e [u] = some y) :
    ∃ n, u = .int k n ∧ (Lit.int k n).wf = true := by
  cases q with
  | zero => simp [DataW.trod] at h
  | succ q =>
    unfold DataW.trod at h
    rw [he] at h
    cases u <;> simp at h
    obtain ⟨⟨rfl, h2⟩, _⟩ := h
    exact ⟨_, rfl, h2⟩
theorem cell_float {q : Nat} {e : TypeId} {k : FloatKind} {u : Value} {y : DataW H × List MemPlace} (he : Try.prog.underlying e = some (.float k)) (h : DataW.trod enc Try.prog W 0 (fun _ => true) true q e [u] = some y) :
    ∃ b, u = .float k b ∧ (Lit.float k b).wf = true := by
  cases q with
  | zero => simp [DataW.trod] at h
  | succ q =>
    unfold DataW.trod at h
    rw [he] at h
    cases u <;> simp at h
    obtain ⟨⟨rfl, h2⟩, _⟩ := h
    exact ⟨_, rfl, h2⟩

def asInt : Value → Int | .int _ n => n | _ => 0
def asFloat : Value → Nat | .float _ n => n | _ => 0

/-- A []int64 that came in. -/
theorem open_islice {t e : TypeId} {v : Value} {d : DataW H} {ps : List MemPlace} (ht : Try.prog.underlying t = some (.slice e)) (hc : Try.prog.cellsOf e = 1) (he : Try.prog.underlying e = some (.int .i64)) (hval : Value.okWide Try.prog W .any 0 t v)
    (h : DataW.Trod enc Try.prog W 0 (fun _ => true) true t v d ps) :
    ∃ A n c, ∃ f : Nat → Int, v = .slice A n c ∧ n ≤ c ∧ c ≤ maxLen ∧ Row W W.heap.size A n (fun j => .int .i64 (f j)) ∧ ∀ j, j < n → (Lit.int .i64 (f j)).wf = true := by
  obtain ⟨A, n, c, rfl, h1, h2, h3⟩ := open_cells ht hc hval h
  by_cases hn : 0 < n
  · obtain ⟨b, off, rfl, hlt, hcell⟩ := h3 hn
    have hex : ∀ j, j < n → ∃ m, W.cell? ⟨b, off + j, none⟩ = some (.int .i64 m) ∧ (Lit.int .i64 m).wf = true := by
      intro j hj
      obtain ⟨u, k, y, hu, hy⟩ := hcell j hj
      obtain ⟨m, rfl, hw⟩ := cell_int he hy
      exact ⟨m, hu, hw⟩
    refine ⟨_, n, c, fun j => asInt ((W.cell? ⟨b, off + j, none⟩).getD undef), rfl, h1, h2, fun _ => ⟨b, off, rfl, hlt, fun j hj => ?_⟩, fun j hj => ?_⟩
    · obtain ⟨m, hm, _⟩ := hex j hj
      show W.cell? _ = some (.int .i64 (asInt ((W.cell? ⟨b, off + j, none⟩).getD undef)))
      rw [hm]; rfl
    · obtain ⟨m, hm, hw⟩ := hex j hj
      show (Lit.int .i64 (asInt ((W.cell? ⟨b, off + j, none⟩).getD undef))).wf = true
      rw [hm]; exact hw
  · exact ⟨A, n, c, fun _ => 0, rfl, h1, h2, fun h => absurd h hn, fun j hj => absurd hj (by omega)⟩

/-- A []float32 that came in. -/
theorem open_fslice {t e : TypeId} {v : Value} {d : DataW H} {ps : List MemPlace} (ht : Try.prog.underlying t = some (.slice e)) (hc : Try.prog.cellsOf e = 1) (he : Try.prog.underlying e = some (.float .f32)) (hval : Value.okWide Try.prog W .any 0 t v)
    (h : DataW.Trod enc Try.prog W 0 (fun _ => true) true t v d ps) :
    ∃ A n c, ∃ f : Nat → Nat, v = .slice A n c ∧ n ≤ c ∧ c ≤ maxLen ∧ Row W W.heap.size A n (fun j => .float .f32 (f j)) ∧ ∀ j, j < n → f j < 4294967296 := by
  obtain ⟨A, n, c, rfl, h1, h2, h3⟩ := open_cells ht hc hval h
  by_cases hn : 0 < n
  · obtain ⟨b, off, rfl, hlt, hcell⟩ := h3 hn
    have hex : ∀ j, j < n → ∃ m, W.cell? ⟨b, off + j, none⟩ = some (.float .f32 m) ∧ (Lit.float .f32 m).wf = true := by
      intro j hj
      obtain ⟨u, k, y, hu, hy⟩ := hcell j hj
      obtain ⟨m, rfl, hw⟩ := cell_float he hy
      exact ⟨m, hu, hw⟩
    refine ⟨_, n, c, fun j => asFloat ((W.cell? ⟨b, off + j, none⟩).getD undef), rfl, h1, h2, fun _ => ⟨b, off, rfl, hlt, fun j hj => ?_⟩, fun j hj => ?_⟩
    · obtain ⟨m, hm, _⟩ := hex j hj
      show W.cell? _ = some (.float .f32 (asFloat ((W.cell? ⟨b, off + j, none⟩).getD undef)))
      rw [hm]; rfl
    · obtain ⟨m, hm, hw⟩ := hex j hj
      show asFloat ((W.cell? ⟨b, off + j, none⟩).getD undef) < 4294967296
      rw [hm]
      have : m < 4294967296 := by simpa [Lit.wf] using hw
      exact this
  · exact ⟨A, n, c, fun _ => 0, rfl, h1, h2, fun h => absurd h hn, fun j hj => absurd hj (by omega)⟩
end
end Go.Proofs.Ytecncnkbgfjdcaa
