/- ListText of the program. -/
import Derived.Test.YtdbcajiagjeplaaDoorWText2
set_option linter.unusedVariables false
set_option linter.unusedSimpArgs false
namespace Go.Proofs.YtdbcajiagjeplaaDoor
open Go.RowKit Go.Lib

theorem join_txt (f : Nat → Int) : ∀ k : Nat, join ((List.range (k + 1)).map fun j => itoa (f j)) [44] = txt f k := by
  have key : ∀ k : Nat, joinTail [44] ((List.range k).map fun j => itoa (f (j + 1))) = (txt f k).drop (itoa (f 0)).length ∧ txt f k = itoa (f 0) ++ (txt f k).drop (itoa (f 0)).length := by
    intro k
    induction k with
    | zero => simp [joinTail, txt]
    | succ k ih =>
      have e : txt f (k + 1) = itoa (f 0) ++ ((txt f k).drop (itoa (f 0)).length ++ 44 :: itoa (f (k + 1))) := by
        show txt f k ++ 44 :: itoa (f (k + 1)) = _
        rw [← List.append_assoc, ← ih.2]
      have e2 : (txt f (k + 1)).drop (itoa (f 0)).length = (txt f k).drop (itoa (f 0)).length ++ 44 :: itoa (f (k + 1)) := by
        rw [e, List.drop_left]
      refine ⟨?_, by rw [e2]; exact e⟩
      rw [List.range_succ, List.map_append, List.map_cons, List.map_nil, joinTail_snoc, ih.1, e2]
      rfl
  intro k
  rw [List.range_succ_eq_map, List.map_cons, join_cons, List.map_map, (key k).2, ← (key k).1]
  rfl
theorem listOrNone_any (v : Value) (f : Nat → Int) (n : Nat) (hn : n ≤ 64) (hv : ∀ j, j < n → valB (f j) = true) (w : World) (B : Nat) (hB : B ≤ w.heap.size) (h : w.ownsRow B 9 1 v n (strs f n)) :
    Calls Tryd.prog 44 #[v] w fun e w' => e = .returned (.string ⟨(txtL f n).toArray⟩) ∧ Below w.heap.size w w' := by
  obtain ⟨A, c, rfl, hr⟩ := own_row h
  have hnc := own_cap h
  match n, hn, hv, hr, h, hnc with
  | 0, hn, hv, hr, h, hnc =>
    go_enter Tryd.func44, Tryd.ntmps44
    go_wp2_with fail
    go_ret
    exact ⟨rfl, Below.refl _ _⟩
  | k + 1, hn, hv, hr, h, hnc =>
    obtain ⟨b, off, rfl, hb, hc⟩ := hr (by omega)
    have hmap : ((List.range (k + 1)).map fun j => (⟨(itoa (f j)).toArray⟩ : ByteArray)).map (·.data.toList) = (List.range (k + 1)).map fun j => itoa (f j) := by
      rw [List.map_map]; apply List.map_congr_left; intro j _; simp
    have hj := Tryd.strings_Join b off c ((List.range (k + 1)).map fun j => (⟨(itoa (f j)).toArray⟩ : ByteArray)) ⟨#[44]⟩ w (fun j x hx => by
      obtain ⟨hl, rfl⟩ := List.getElem?_eq_some_iff.1 hx
      simp only [List.length_map, List.length_range] at hl
      rw [hc j hl]
      simp [strs, strV, List.getD_eq_getElem?_getD, hl]) hb (by simp; omega) (by simpa using hnc) (by
      rw [hmap, show (⟨#[44]⟩ : ByteArray).data.toList = [44] from rfl, join_txt]
      have := txt_len (f := f) (k := k) (fun j hj => hv j (by omega))
      omega)
    rw [hmap, show (⟨#[44]⟩ : ByteArray).data.toList = [44] from rfl, join_txt] at hj
    simp only [List.length_map, List.length_range] at hj
    have g1 : ((k : Int) + 1 == 0) = false := by simp; omega
    go_enter Tryd.func44, Tryd.ntmps44
    go_wp2_with fail
    refine hj.mono ?_
    rintro e w' ⟨rfl, hb2⟩
    go_wp2_with fail
    go_ret
    exact ⟨rfl, hb2⟩
end Go.Proofs.YtdbcajiagjeplaaDoor
