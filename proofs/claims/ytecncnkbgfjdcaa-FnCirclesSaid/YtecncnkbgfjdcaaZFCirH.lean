/- The phasors of 64ths of a turn: what is determined of them; their powers and angles. -/
import Derived.Test.YtecncnkbgfjdcaaZFCirF
import Derived.Test.YtecncnkbgfjdcaaZFQuart
set_option linter.unusedVariables false
set_option linter.unusedSimpArgs false
namespace Go.Proofs.Ytecncnkbgfjdcaa
open Ieee near

/-- The words of n / 64. -/
def kx (n : Int) : Nat := (floatBits .quo .f64 (FloatKind.f64.nearest n) 4634204016564240384).getD 0
def cutT (x : Nat) : Nat :=
  let tr := FloatKind.f64.encode ((FloatKind.f64.decode x).integral .zero)
  let W := if (FloatKind.f64.format.order tr 0 == some .eq) = true then 0 else tr
  (floatBits .sub .f64 x W).getD 0
def upT (t : Nat) : Nat := if (FloatKind.f64.format.order t 0 == some .lt) = true then (floatBits .add .f64 t 4607182418800017408).getD 0 else t
theorem cut_t0 {x : Nat} {n : Int} {tr W t0 : Nat} {z : Bool} (h : Cut x n tr W t0 z) : t0 = cutT x := by
  have h1 := h.sub
  have h2 := h.word
  have h3 := h.zero
  unfold cutT
  dsimp only
  rw [h.trunc, h3]
  rw [h2] at h1
  rw [h1]; rfl
theorem prep_t1 {t0 u1 t1 u2 t2 u3 t3 : Nat} {b1 b2 b3 : Bool} (h : Prep t0 u1 t1 u2 t2 u3 t3 b1 b2 b3) : t1 = upT t0 := by
  have h1 := h.e1
  have h2 := h.a1
  have h3 := h.c1
  unfold upT
  rw [h3, h2]
  exact h1
theorem kx_all : ∀ n : Nat, n < 512 → floatBits .quo .f64 (FloatKind.f64.nearest ((n : Int) - 256)) 4634204016564240384 = some (kx ((n : Int) - 256)) ∧ kx ((n : Int) - 256) < 18446744073709551616 ∧ rg FloatKind.f64.format (kx ((n : Int) - 256)) < 4841369599423283200 ∧ upT (cutT (kx ((n : Int) - 256))) = kx ((n % 64 : Nat) : Int) := by decide +kernel
/-- The sines. -/
def S17 : List Nat := [0, 4591727299969791020, 4596196889902818826, 4598900923775164165, 4600565431771507043, 4602163548591158843, 4603179351334086856, 4603889326261607894, 4604544271217802188, 4605137878724712256, 4605664432017547683, 4606118860100255152, 4606496786581982536, 4606794571824115171, 4607009347991985359, 4607139046673687962, 4607182418800017604]
def s64 (j : Nat) : Nat := S17.getD j 0
def n64 (j : Nat) : Nat := (floatBits .sub .f64 0 (s64 j)).getD 0
theorem sine_all : ∀ j : Nat, j < 17 → sineT (sP1 (some (cutT (kx (j : Int))))) = some (s64 j) ∧ ubB (some (kx (j : Int))) 1077 = true ∧ (FloatKind.f64.decode (kx (j : Int))).isNaN = false ∧ ubB (some (s64 j)) 1176 = true ∧ rg FloatKind.f64.format (s64 j) < 9218868437227405312
    ∧ floatBits .sub .f64 0 (s64 j) = some (n64 j) ∧ ubB (some (n64 j)) 1176 = true ∧ rg FloatKind.f64.format (n64 j) < 9218868437227405312 := by decide +kernel
theorem turn_quart : ∀ m : Nat, m < 64 → m / 16 ≤ 8 ∧ (∀ j, j < m / 16 → qGe (qIter (kx (m : Int)) j) = true ∧ floatBits .sub .f64 (qIter (kx (m : Int)) j) 4598175219545276416 = some (qIter (kx (m : Int)) (j + 1))) ∧ qGe (qIter (kx (m : Int)) (m / 16)) = false
    ∧ rg FloatKind.f64.format (qIter (kx (m : Int)) (m / 16)) < 9218868437227405312 ∧ ubB (some (qIter (kx (m : Int)) (m / 16))) 1075 = true ∧ qIter (kx (m : Int)) (m / 16) = kx ((m % 16 : Nat) : Int) ∧ floatBits .sub .f64 4598175219545276416 (kx ((m % 16 : Nat) : Int)) = some (kx ((16 - m % 16 : Nat) : Int)) := by decide +kernel
theorem nar_all : ∀ j : Nat, j < 17 → nar (s64 j) = C17.getD j 0 ∧ nar (n64 j) = sg32 (C17.getD j 0) := by decide +kernel

/-- Their angles. -/
def A64 : List Nat := [0, 1015021568, 1023410176, 1027604479, 1031798784, 1033895936, 1035993088, 1038090240, 1040187392, 1041235968, 1042284544, 1043333120, 1044381696, 1045430272, 1046478848, 1047527424, 1048576000, 1049100288, 1049624576, 1050148864, 1050673152, 1051197440, 1051721728, 1052246016, 1052770304, 1053294592, 1053818880, 1054343168, 1054867456, 1055391744, 1055916032, 1056440320, 1056964608, 3203923968, 3203399680, 3202875392, 3202351104, 3201826816, 3201302528, 3200778240, 3200253952, 3199729664, 3199205376, 3198681088, 3198156800, 3197632512, 3197108224, 3196583936, 3196059648, 3195011072, 3193962496, 3192913920, 3191865344, 3190816768, 3189768192, 3188719616, 3187671040, 3185573888, 3183476736, 3181379584, 3179282432, 3175088127, 3170893824, 3162505216]
def angW (m : Nat) : Nat := A64.getD m 0
def angV (y x : Nat) : Option Nat :=
  let a := rg FloatKind.f64.format (wid y)
  let b := rg FloatKind.f64.format (wid x)
  fnarrow (aA (decide (b < a)) (FloatKind.f32.format.order x 0 == some .lt) (FloatKind.f32.format.order y 0 == some .lt) (if decide (b < a) = true then fop .quo .f64 (some b) (some a) else fop .quo .f64 (some a) (some b)))
theorem ang_all : ∀ m : Nat, m < 64 → angV (pI m) (pR m) = some (angW m) := by decide +kernel
theorem ang_i : angV 1065353216 0 = some 1048576000 := by decide +kernel
theorem ang_fin : ∀ m : Nat, m < 64 → rg FloatKind.f32.format (pR m) < 2139095040 ∧ rg FloatKind.f32.format (pI m) < 2139095040 ∧ ¬ (rg FloatKind.f32.format (pR m) = 0 ∧ rg FloatKind.f32.format (pI m) = 0) := by decide +kernel
theorem angW_all : ∀ m : Nat, m < 64 → num32 (angW m) = true ∧ angW m < 4294967296 := by decide +kernel
end Go.Proofs.Ytecncnkbgfjdcaa
