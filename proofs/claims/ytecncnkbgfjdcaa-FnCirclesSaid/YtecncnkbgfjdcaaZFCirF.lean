/- The phasors of 64ths of a turn: their words; the checks of their products. -/
import Derived.Test.YtecncnkbgfjdcaaZFAng
import Derived.Laws.Cover3
set_option linter.unusedVariables false
set_option linter.unusedSimpArgs false
namespace Go.Proofs.Ytecncnkbgfjdcaa
open Ieee near

/-- The float32 words of the sines of 0, 1, .. 16 64ths of a turn. -/
def C17 : List Nat := [0, 1036565814, 1044891074, 1049927729, 1053028117, 1056004842, 1057896922, 1059219353, 1060439283, 1061544963,
  1062525745, 1063372184, 1064076126, 1064630795, 1065030846, 1065272429, 1065353216]
def sg32 (x : Nat) : Nat := if x = 0 then 0 else x + 2147483648
def pR (k : Nat) : Nat :=
  match k / 16 % 4 with
  | 0 => C17.getD (16 - k % 16) 0
  | 1 => sg32 (C17.getD (k % 16) 0)
  | 2 => sg32 (C17.getD (16 - k % 16) 0)
  | _ => C17.getD (k % 16) 0
def pI (k : Nat) : Nat :=
  match k / 16 % 4 with
  | 0 => C17.getD (k % 16) 0
  | 1 => C17.getD (16 - k % 16) 0
  | 2 => sg32 (C17.getD (k % 16) 0)
  | _ => sg32 (C17.getD (16 - k % 16) 0)
/-- A float32 word that is a normal number or nought, widened. -/
def widN (x : Nat) : Nat := if x % 2147483648 = 0 then x / 2147483648 * 9223372036854775808 else x / 2147483648 * 9223372036854775808 + (x % 2147483648 + 896 * 8388608) * 536870912
def wid (x : Nat) : Nat := FloatKind.f64.encode (FloatKind.f32.decode x)
def nar (x : Nat) : Nat := FloatKind.f32.encode (FloatKind.f64.decode x)
def num32 (x : Nat) : Bool := !(FloatKind.f32.decode x).isNaN
theorem p_wide : ∀ k, k < 64 → wid (pR k) = widN (pR k) ∧ wid (pI k) = widN (pI k) ∧ num32 (pR k) = true ∧ num32 (pI k) = true ∧ pR k < 4294967296 ∧ pI k < 4294967296 := by decide +kernel
def gapW (a b : Nat) : Option Nat := if (FloatKind.f64.format.order a b == some .lt) = true then floatBits .sub .f64 b a else floatBits .sub .f64 a b
def leB (x y : Nat) : Bool := FloatKind.f64.format.order x y == some .lt || FloatKind.f64.format.order x y == some .eq
def tol4 : Nat := 4547007122018943789
def nearW (u r : Nat) : Bool :=
  !(FloatKind.f64.decode u).isNaN && ubB (some u) 1178 && (match gapW (wid (nar u)) r with | some g => leB g tol4 | none => false)
def mulR (A B C D : Nat) : Option Nat := fop .sub .f64 (fop .mul .f64 (some A) (some C)) (fop .mul .f64 (some B) (some D))
def mulI' (A B C D : Nat) : Option Nat := fop .add .f64 (fop .mul .f64 (some A) (some D)) (fop .mul .f64 (some B) (some C))
def mulChk (A B C D r s : Nat) : Bool :=
  (match mulR A B C D with | some u => nearW u r | none => false) && (match mulI' A B C D with | some v => nearW v s | none => false)
def prodChk (i j : Nat) : Bool := mulChk (widN (pR i)) (widN (pI i)) (widN (pR j)) (widN (pI j)) (widN (pR ((i + j) % 64))) (widN (pI ((i + j) % 64)))
def prodRow (i : Nat) : Bool := (List.range (i + 1)).all fun j => prodChk i j

theorem sum_comm (a b : Datum) : a.sum b = b.sum a := by
  cases a with
  | nan => cases b <;> rfl
  | infinity s => cases b with
    | nan => rfl
    | infinity t => cases s <;> cases t <;> rfl
    | number t n j => rfl
  | number s m i => cases b with
    | nan => rfl
    | infinity t => rfl
    | number t n j =>
      unfold Datum.sum
      dsimp only
      rw [Int.min_comm i j, Int.add_comm (signed s _ _), Bool.and_comm s t]
theorem product_comm (a b : Datum) : a.product b = b.product a := by
  cases a with
  | nan => cases b <;> rfl
  | infinity s => cases b with
    | nan => rfl
    | infinity t => unfold Datum.product; dsimp only; rw [Bool.xor_comm]
    | number t n j => rfl
  | number s m i => cases b with
    | nan => rfl
    | infinity t => rfl
    | number t n j => unfold Datum.product; dsimp only; rw [Bool.xor_comm, Nat.mul_comm, Int.add_comm]
theorem fmul_comm (x y : Nat) : fop .mul .f64 (some x) (some y) = fop .mul .f64 (some y) (some x) := by
  show ((FloatKind.f64.decode x).product (FloatKind.f64.decode y)).map FloatKind.f64.format.write = ((FloatKind.f64.decode y).product (FloatKind.f64.decode x)).map FloatKind.f64.format.write
  rw [product_comm]
theorem fadd_comm (x y : Option Nat) : fop .add .f64 x y = fop .add .f64 y x := by
  cases x with
  | none => cases y <;> rfl
  | some x => cases y with
    | none => rfl
    | some y =>
      show ((FloatKind.f64.decode x).sum (FloatKind.f64.decode y)).map FloatKind.f64.format.write = ((FloatKind.f64.decode y).sum (FloatKind.f64.decode x)).map FloatKind.f64.format.write
      rw [sum_comm]
theorem mulChk_swap (A B C D r s : Nat) : mulChk A B C D r s = mulChk C D A B r s := by
  unfold mulChk mulR mulI'
  rw [fmul_comm A C, fmul_comm B D, fmul_comm A D, fmul_comm B C, fadd_comm (fop .mul .f64 (some D) (some A))]
theorem prod_all (hc : ∀ i, i < 64 → prodRow i = true) {i j : Nat} (hi : i < 64) (hj : j < 64) : prodChk i j = true := by
  have key : ∀ i j, i < 64 → j ≤ i → prodChk i j = true := by
    intro i j h1 h2
    have := hc i h1
    unfold prodRow at this
    rw [List.all_eq_true] at this
    exact this j (List.mem_range.2 (by omega))
  rcases Nat.le_total j i with h | h
  · exact key i j hi h
  · have := key j i hj h
    unfold prodChk at this ⊢
    rw [mulChk_swap, Nat.add_comm i j]
    exact this
end Go.Proofs.Ytecncnkbgfjdcaa
