/- ListText of the program. -/
import Derived.Test.YtdbcajiagjeplaaDoorWText
import Derived.Test.YtdbcajiagjeplaaDoorWRead2
import Derived.Test.YtdbcajiagjeplaaDoorShelfJ
import Derived.Lib.Join
set_option linter.unusedVariables false
set_option linter.unusedSimpArgs false
namespace Go.Proofs.YtdbcajiagjeplaaDoor
open Go.RowKit Go.Lib

def strV (l : List UInt8) : Value := .string ⟨l.toArray⟩
def strs (f : Nat → Int) (i : Nat) : List Value := (List.range i).map fun j => strV (itoa (f j))
theorem strs_len (f : Nat → Int) (i : Nat) : (strs f i).length = i := by simp [strs]
theorem strs_succ (f : Nat → Int) (i : Nat) : strs f (i + 1) = strs f i ++ [strV (itoa (f i))] := by simp [strs, List.range_succ]
theorem str_one (x : ByteArray) : ∀ u ∈ [Value.string x], u.oneCell' = true := by intro u hu; simp only [List.mem_singleton] at hu; subst hu; rfl
theorem info_str : (Tryd.prog.info? 9).map (fun i => (i.zero, i.size, i.bytes)) = some (some (.string ⟨#[]⟩), 1, 16) := by kernel_rfl

/-- What ListText answers. -/
def RetT (f : Nat → Int) (n : Nat) (w : World) (e : Ending) (w' : World) : Prop :=
  e = .returned (.tuple #[.string (if okL f n then ⟨(txtL f n).toArray⟩ else ⟨#[]⟩), .bool (okL f n)]) ∧ Below w.heap.size w w'

theorem joinTail_snoc (sep : List UInt8) (r : List (List UInt8)) (x : List UInt8) : joinTail sep (r ++ [x]) = joinTail sep r ++ (sep ++ x) := by simp [joinTail]
theorem specListText_any (A : Option Addr) (n c : Nat) (f : Nat → Int) (hn : n ≤ 2097152) (w : World) (h : I64R w w.heap.size A n f) :
    Calls Tryd.prog 15 #[.slice A n c] w fun e w' => RetT f n w e w' := by
  unfold RetT
  cases hok : okL f n with
  | false =>
    go_enter Tryd.func15, Tryd.ntmps15
    go_wp2_with fail
    refine (specList_any A n c f hn w _ h).mono ?_
    rw [hok]
    rintro e w' ⟨rfl, rfl⟩
    go_wp2_with fail
    go_ret2
    exact ⟨rfl, Below.refl _ _⟩
  | true =>
    have hall : ∀ j, j < n → valB (f j) = true := by
      intro j hj
      cases hv : valB (f j) with
      | true => rfl
      | false => rw [okL_false hj hv] at hok; cases hok
    have h64 : n ≤ 64 := by
      rw [okL_true hall] at hok
      exact of_decide_eq_true hok
    go_enter Tryd.func15, Tryd.ntmps15
    go_wp2_with fail
    refine (specList_any A n c f hn w _ h).mono ?_
    rw [hok]
    rintro e w' ⟨rfl, rfl⟩
    go_wp2_with fail
    refine (specText_any A n c f h64 hall _ h).mono ?_
    rintro e w2 ⟨rfl, hb⟩
    go_wp2_with fail
    go_ret2
    exact ⟨rfl, hb⟩
end Go.Proofs.YtdbcajiagjeplaaDoor
