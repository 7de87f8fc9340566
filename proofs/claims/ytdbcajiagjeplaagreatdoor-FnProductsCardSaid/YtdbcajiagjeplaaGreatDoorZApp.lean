/- append of one element onto a row of the call's own; what a function that returns a list and a Bool leaves. -/
import Derived.Test.YtdbcajiagjeplaaGreatDoorZRow
import Derived.Laws.AppendOwn
import Derived.Laws.OwnMore
set_option linter.unusedVariables false
set_option linter.unusedSimpArgs false
namespace Go.Proofs.YtdbcajiagjeplaaGreatDoor
open Go.RowKit

theorem new_one (w : World) (x : Value) (e : TypeId) : ∀ j u, [x][j]? = some u → (w.alloc (.cells #[x] e)).cell? ((⟨w.heap.size, 0, none⟩ : Addr).add j) = some u := by
  intro j u h
  match j, h with
  | 0, h =>
    simp only [List.getElem?_cons_zero, Option.some.injEq] at h
    subst h
    show (w.alloc (.cells #[x] e)).cell? ⟨w.heap.size, 0, none⟩ = some x
    rw [World.cell?_alloc_at _ _ _ _ rfl]; rfl
  | j + 1, h => simp at h

theorem int_one (x : Int) : ∀ u ∈ [Value.int .i64 x], u.oneCell' = true := by intro u hu; simp only [List.mem_singleton] at hu; subst hu; rfl

/-- A new row without elements. -/
theorem own_empty (w : World) (e : TypeId) : (w.alloc (.cells #[] e)).ownsRow w.heap.size e 1 (.slice (some ⟨w.heap.size, 0, none⟩) 0 0) 0 [] :=
  ⟨rfl, .inr ⟨w.heap.size, 0, #[], rfl, Nat.le_refl _, heap_alloc_new w _, Nat.le_refl _, Nat.zero_le _, rfl, rfl⟩⟩

/-- The pair of a new list and a Bool is returned; what was there stands. -/
def GivesL (e : TypeId) (l : List Value) (ok : Bool) (w : World) (en : Ending) (w' : World) : Prop :=
  ∃ v, en = .returned (.tuple #[v, .bool ok]) ∧ w'.ownsRow w.heap.size e 1 v l.length l ∧ Below w.heap.size w w'

/-- A new list is returned. -/
def GivesV (e : TypeId) (l : List Value) (w : World) (en : Ending) (w' : World) : Prop :=
  ∃ v, en = .returned v ∧ w'.ownsRow w.heap.size e 1 v l.length l ∧ Below w.heap.size w w'

theorem givesL_nil (e : TypeId) (w : World) (n : Nat) : GivesL e [] false w (.returned (.tuple #[.slice none 0 0, .bool false])) (w.drewN n) :=
  ⟨_, rfl, World.ownsRow_nil _ _ _ _, below_drewN_self _ _⟩

theorem step_below {W wr w1 : World} {e k : Nat} {v : Value} {xs : List Value} {o : Obj} (hb : Below W.heap.size W wr) (hown : wr.ownsRow W.heap.size e 1 v k xs) (hg : (wr.alloc o).grownBy w1 v.ownBlock) : Below W.heap.size W w1 :=
  (hb.alloc hb.size o).grown hg (by have := hb.size; simp; omega) fun j hj => (hown.lt j hj).1

def intv (n : Int) : Value := .int .i64 n
def ints (l : List Int) : List Value := l.map intv
theorem ints_len (l : List Int) : (ints l).length = l.length := by simp [ints]
theorem ints_getD (l : List Int) (j : Nat) (h : j < l.length) : (ints l).getD j undef = .int .i64 (l.getD j 0) := by
  simp [ints, intv, List.getD_eq_getElem?_getD, List.getElem?_eq_getElem h]
theorem ints_snoc (l : List Int) (x : Int) : ints (l ++ [x]) = ints l ++ [.int .i64 x] := by simp [ints, intv]
end Go.Proofs.YtdbcajiagjeplaaGreatDoor
