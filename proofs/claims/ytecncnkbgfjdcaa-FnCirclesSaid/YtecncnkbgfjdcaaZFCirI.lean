/- The powers and the turns of the phasors; the law's other numbers. -/
import Derived.Test.YtecncnkbgfjdcaaZFCirH
import Derived.Test.YtecncnkbgfjdcaaZFCirW
import Derived.Laws.FloatArith
set_option linter.unusedVariables false
set_option linter.unusedSimpArgs false
namespace Go.Proofs.Ytecncnkbgfjdcaa
open Ieee near

def pow64 (A B : Nat) : Option Nat := fop .add .f64 (fop .mul .f64 (some A) (some A)) (fop .mul .f64 (some B) (some B))
def powU (m : Nat) : Nat := (pow64 (widN (pR m)) (widN (pI m))).getD 0
theorem pow_all : ∀ m : Nat, m < 64 → pow64 (widN (pR m)) (widN (pI m)) = some (powU m) ∧ nearW (powU m) 4607182418800017408 = true := by decide +kernel
def tx1 (a : Nat) : Nat := (floatBits .mul .f64 (wid (angW (a % 64))) 4634204016564240384).getD 0
def tx2 (a : Nat) : Nat := (floatBits .sub .f64 (tx1 a) (FloatKind.f64.nearest ((a : Int) - 128))).getD 0
def tx3 (a : Nat) : Nat := (floatBits .add .f64 (tx2 a) 4666723447345250304).getD 0
def tw (a : Nat) : Int := (floatToIntVal .f64 (tx3 a) .i64).getD 0
def tg (a : Nat) : Nat := (gapW (tx2 a) (FloatKind.f64.nearest (tw a - 10000))).getD 0
theorem turn_all : ∀ a : Nat, a < 256 → floatBits .mul .f64 (wid (angW (a % 64))) 4634204016564240384 = some (tx1 a) ∧ floatBits .sub .f64 (tx1 a) (FloatKind.f64.nearest ((a : Int) - 128)) = some (tx2 a) ∧ floatBits .add .f64 (tx2 a) 4666723447345250304 = some (tx3 a)
    ∧ floatToIntVal .f64 (tx3 a) .i64 = some (tw a) ∧ gapW (tx2 a) (FloatKind.f64.nearest (tw a - 10000)) = some (tg a) ∧ (FloatKind.f64.format.order (tg a) 4562254508917369340 == some .gt) = false ∧ Int.tmod (tw a - 10000) 64 = 0 ∧ -20000 ≤ tw a ∧ tw a ≤ 20000 := by decide +kernel
def rgp (m : Nat) : Nat := (gapW (wid (pR m)) 0).getD 0
theorem real_all : ∀ m : Nat, m < 64 → m % 16 = 0 → gapW (wid (pR m)) 0 = some (rgp m) ∧ ((FloatKind.f64.format.order (rgp m) 0 != some .eq) = false ∨ ((FloatKind.f64.format.order (rgp m) 0 != some .eq) = true ∧ (FloatKind.f64.format.order (rgp m) 4607182418800017408 != some .eq) = false)) := by decide +kernel
theorem eighth_all : ∀ j : Nat, j < 200 → floatBits .quo .f32 (FloatKind.f32.nearest (1 + (j : Int))) 1090519040 = some (w32 ((j + 1) * 8)) := by decide +kernel
theorem sixteen_all : ∀ a : Nat, a < 256 → (Int.tmod ((a : Int) - 128) 16 == 0) = decide (a % 64 % 16 = 0) := by decide +kernel
end Go.Proofs.Ytecncnkbgfjdcaa
