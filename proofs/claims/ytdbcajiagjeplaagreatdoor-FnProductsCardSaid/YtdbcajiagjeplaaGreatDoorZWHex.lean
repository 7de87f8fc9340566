/- The hexadecimal text of a number: the reference. -/
import Derived.Test.YtdbcajiagjeplaaGreatDoorZFHex2
import Derived.Test.YtdbcajiagjeplaaGreatDoorZWNum
import Derived.Test.YtdbcajiagjeplaaGreatDoorZApp
import Derived.Deep.DeepMust
import Derived.Laws.BitsLemmas
import Derived.IntWalk
import Derived.Laws.IdiomStrings
import Derived.OpenShut
set_option linter.unusedVariables false
set_option linter.unusedSimpArgs false
namespace Go.Proofs.YtdbcajiagjeplaaGreatDoor
open Go.RowKit

def bitsN (v : Option Nat) : Nat := match v with | none => 2143289344 | some b => b
theorem bitsZ_nat (v : Option Nat) : bitsZ v = (bitsN v : Int) := by cases v <;> rfl
theorem bitsN_lt {x : Nat} (hx : x < 4294967296) : bitsN (val .f32 x) < 4294967296 := by
  cases h : val .f32 x with
  | none => decide
  | some b =>
    obtain ⟨rfl, _⟩ := val_eq_some h
    exact hx
theorem info_u8 : (Tryz.prog.info? 5).map (fun i => (i.zero, i.size, i.bytes)) = some (some (.int .u8 0), 1, 1) := by kernel_rfl
theorem u8_one (x : Int) : ∀ u ∈ [Value.int .u8 x], u.oneCell' = true := by intro u hu; simp only [List.mem_singleton] at hu; subst hu; rfl
def bv (c : UInt8) : Value := .int .u8 (c.toNat : Int)
abbrev hexB : ByteArray := ⟨#[48, 49, 50, 51, 52, 53, 54, 55, 56, 57, 97, 98, 99, 100, 101, 102]⟩
theorem hexB_at : ∀ (d : Nat) (h : d < hexB.size), hexB[d]'h = hdig d := by
  have key : ∀ d : Fin 16, hexB[d.val]'d.isLt = hdig d.val := by decide
  exact fun d h => key ⟨d, h⟩
theorem and15 (x : Nat) (h : x < 4294967296) : bits .and .i64 (x : Int) 15 = ((x % 16 : Nat) : Int) := by
  have h1 : (BitVec.ofInt 64 (x : Int)).toNat = x := by rw [BitVec.ofInt_natCast, BitVec.toNat_ofNat]; exact Nat.mod_eq_of_lt (by omega)
  have h2 : (BitVec.ofInt 64 (15 : Int)).toNat = 15 := by decide
  show IntKind.i64.wrap ((BitVec.ofInt 64 (x : Int) &&& BitVec.ofInt 64 15).toNat : Int) = _
  rw [BitVec.toNat_and, h1, h2, show (15 : Nat) = 2 ^ 4 - 1 from rfl, Nat.and_two_pow_sub_one_eq_mod, IntWalk.i64_in _ (by omega)]
theorem and15' (x q : Nat) (h : x < 4294967296) : ∃ d : Nat, bits .and .i64 ((x : Int) / (q : Int)) 15 = (d : Int) ∧ d = x / q % 16 ∧ d < 16 := by
  refine ⟨x / q % 16, ?_, rfl, Nat.mod_lt _ (by decide)⟩
  have h1 := and15 (x / q) (Nat.lt_of_le_of_lt (Nat.div_le_self x q) h)
  rw [← h1, Int.natCast_ediv]
end Go.Proofs.YtdbcajiagjeplaaGreatDoor
