/- Powers on values: what the program's exponential reckons at eighths from -8 to 8. -/
import Derived.Test.YtecglaggmheokaaWLogN
set_option linter.unusedVariables false
set_option linter.unusedSimpArgs false
namespace Go.Proofs.Ytecglaggmheokaa
open Ieee near

/-- (n - 64) / 8 as a float32's word. -/
def xs (n : Nat) : Nat := (floatBits .quo .f32 (FloatKind.f32.nearest ((n : Int) - 64)) 1090519040).getD 0
def xy (n : Nat) : Nat := FloatKind.f64.encode (FloatKind.f32.decode (xs n))
def eP (t : Option Nat) : Nat → Option Nat
  | 0 => some one64
  | j + 1 => fop .add .f64 (some one64) (fop .quo .f64 (fop .mul .f64 t (eP t j)) (some (fl (12 - (j : Int)))))
def eQ (p : Option Nat) : Nat → Option Nat
  | 0 => p
  | j + 1 => fop .mul .f64 (eQ p j) (eQ p j)
def expV (y : Option Nat) : Option Nat := eQ (eP (fop .quo .f64 y (some 4643211215818981376)) 12) 8

def sq (a : Option Nat) : Option Nat := a.bind fun x => floatBits .mul .f64 x x
def sqs : Nat → Option Nat → Option Nat
  | 0, a => a
  | j + 1, a => sqs j (sq a)
/-- The exponentials of the eighths, as float32 words. -/
def exT : Array Nat := #[967827720, 969362444, 971101513, 973072137, 974191837, 975457003, 976890623, 978515128, 980355933, 981954487, 983136307, 984475485, 985992972, 987712511, 989661003, 990862339, 992113296, 993530815, 995137075, 996957207, 998632019, 999800566, 1001124704, 1002625149, 1004325375, 1006251984, 1007534039, 1008770946, 1010172546, 1011760767, 1013560457, 1015310670, 1016466094, 1017775360, 1019258954, 1020940085, 1022845057, 1024206924, 1025429940, 1026815799, 1028386182, 1030165660, 1031990428, 1033132876, 1034427438, 1035894369, 1037556620, 1039440198, 1040880981, 1042090262, 1043460556, 1045013303, 1046772796, 1048671281, 1049800898, 1051080921, 1052531378, 1054174960, 1056037383, 1057556197, 1058751896, 1060106801, 1061642109, 1063381841, 1065353216, 1066470146, 1067735794, 1069169961, 1070795084, 1072636591, 1074232558, 1075414828, 1076754516, 1078272582, 1079992775, 1081942010, 1083140607, 1084392041, 1085810101, 1087416973, 1089237798, 1090910051, 1092079044, 1093403686, 1094904703, 1096605577, 1098532920, 1099812267, 1101049646, 1102451780, 1104040606, 1105840981, 1107588665, 1108744529, 1110054295, 1111538453, 1113220225, 1115125923, 1116485113, 1117708595, 1119094981, 1120665963, 1122446119, 1124268386, 1125411269, 1126706325, 1128173815, 1129836699, 1131720994, 1133159130, 1134368872, 1135739688, 1137293027, 1139053190, 1140949202, 1142079249, 1143359761, 1144810770, 1146454979, 1148318112, 1149834307, 1151030462, 1152385883, 1153921776, 1155662171, 1157631101, 1158748457, 1160014587, 1161449300]
def ex (n : Nat) : Nat := exT.getD n 0
set_option maxRecDepth 100000 in
theorem ex_all : ∀ n : Nat, n < 129 → fnarrow (sqs 8 (eP (fop .quo .f64 (some (xy n)) (some 4643211215818981376)) 12)) = some (ex n) := by decide +kernel
theorem sq_eq (a : Option Nat) : fop .mul .f64 a a = sq a := by cases a <;> rfl
theorem eQ_sqs (p : Option Nat) : eQ p 8 = sqs 8 p := by
  unfold eQ sqs
  rw [sq_eq]
  show sq (eQ p 7) = sqs 7 (sq p)
  unfold eQ sqs
  rw [sq_eq]
  show sq (sq (eQ p 6)) = sqs 6 (sq (sq p))
  unfold eQ sqs
  rw [sq_eq]
  show sq (sq (sq (eQ p 5))) = sqs 5 (sq (sq (sq p)))
  unfold eQ sqs
  rw [sq_eq]
  show sq (sq (sq (sq (eQ p 4)))) = sqs 4 (sq (sq (sq (sq p))))
  unfold eQ sqs
  rw [sq_eq]
  show sq (sq (sq (sq (sq (eQ p 3))))) = sqs 3 (sq (sq (sq (sq (sq p)))))
  unfold eQ sqs
  rw [sq_eq]
  show sq (sq (sq (sq (sq (sq (eQ p 2)))))) = sqs 2 (sq (sq (sq (sq (sq (sq p))))))
  unfold eQ sqs
  rw [sq_eq]
  show sq (sq (sq (sq (sq (sq (sq (eQ p 1))))))) = sqs 1 (sq (sq (sq (sq (sq (sq (sq p)))))))
  unfold eQ sqs
  rw [sq_eq]
  rfl
theorem ex_val (n : Nat) (h : n < 129) : fnarrow (expV (some (xy n))) = some (ex n) := by
  unfold expV
  rw [eQ_sqs]
  exact ex_all n h
theorem ex_inf : ∀ n : Nat, n < 129 → (FloatKind.f32.decode (ex n)).isInfinity = false := by decide +kernel
theorem ex_fits (n : Nat) (h : n < 129) : fitsNarrow (expV (some (xy n))) := by
  intro b hb _ _
  have h1 := ex_val n h
  rw [hb] at h1
  rw [show FloatKind.f32.encode (FloatKind.f64.decode b) = ex n from Option.some.inj h1]
  exact ex_inf n h
theorem xs_wide : ∀ n : Nat, n < 129 → fwide (val .f32 (xs n)) = some (xy n) := by decide +kernel
theorem xy_val : ∀ n : Nat, n < 129 → val .f64 (xy n) = some (xy n) := by decide +kernel
theorem xy_top : ∀ n : Nat, n < 129 → (FloatKind.f64.format.order (xy n) 4641240890982006784 == some .gt) = false := by decide +kernel
theorem xy_low : ∀ n : Nat, n < 129 → (FloatKind.f64.format.order (xy n) 13864612927836782592 == some .lt) = false := by decide +kernel
theorem xs_int : ∀ k : Nat, k < 65 → floatBits .quo .f32 (FloatKind.f32.nearest ((k : Int) - 32)) 1090519040 = some (xs (k + 32)) := by decide +kernel
theorem ex_pos : ∀ k : Nat, k < 65 → (FloatKind.f32.format.order (ex (k + 32)) 0 == some .gt) = true := by decide +kernel
theorem ex_one : ex 64 = 1065353216 ∧ xs 64 = 0 := by decide +kernel
theorem e_ge : ∀ j : Nat, j < 12 → (FloatKind.f64.format.order (fl (12 - (j : Int))) 4607182418800017408 == some .gt || FloatKind.f64.format.order (fl (12 - (j : Int))) 4607182418800017408 == some .eq) = true := by decide +kernel
theorem e_end : (FloatKind.f64.format.order (fl (12 - ((12 : Nat) : Int))) 4607182418800017408 == some .gt || FloatKind.f64.format.order (fl (12 - ((12 : Nat) : Int))) 4607182418800017408 == some .eq) = false := by decide +kernel
theorem e_dec : ∀ j : Nat, j < 12 → floatBits .sub .f64 (fl (12 - (j : Int))) 4607182418800017408 = some (fl (12 - ((j + 1 : Nat) : Int))) := by decide +kernel
theorem e_val : ∀ j : Nat, j < 13 → val .f64 (fl (12 - (j : Int))) = some (fl (12 - (j : Int))) := by decide +kernel
theorem e_start : 4622945017495814144 = fl (12 - ((0 : Nat) : Int)) := by decide +kernel
theorem val_256 : val .f64 4643211215818981376 = some 4643211215818981376 := by decide +kernel
/-- The distance of two values. -/
def gapV (a b : Option Nat) : Option Nat := if fcmp .f64 a b == some .lt then fop .sub .f64 b a else fop .sub .f64 a b
def exw (n : Nat) : Nat := FloatKind.f64.encode (FloatKind.f32.decode (ex n))
theorem ex_wide : ∀ n : Nat, n < 129 → fwide (val .f32 (ex n)) = some (exw n) := by decide +kernel
theorem exw_val : ∀ n : Nat, n < 129 → val .f64 (exw n) = some (exw n) := by decide +kernel
theorem ex_log : ∀ k : Nat, k < 65 → (fcmp .f64 (gapV (fwide (LN (ex (k + 32)))) (some (xy (k + 32)))) (some 4562254508917369340) == some .lt) = true := by decide +kernel
theorem log_one : LN 1065353216 = some 0 := by decide +kernel
theorem val_001 : val .f64 4562254508917369340 = some 4562254508917369340 := by decide +kernel
end Go.Proofs.Ytecglaggmheokaa
