/-
  No cell of these rows narrows 'for every input' (looked for: loops, veiled, ifaces, maps, wideKeys, modest, calm, conditions, laid).
  DERIVED. THE GIVEN ROWS OF THIS SEAT. 6 by the template 'for every input the law returns true; each argument reads behind the call as it read before'; 0 by the template 'total and deterministic' (their statements: YtajbepbggfbmpaaTotals.lean).
  GIVEN WITH THE SEED: the statements are not yours to turn. If you find one false, say at which input.
  Laid BY PROGRAM, IN A SANDBOX (cutbox-rows.mjs): the forced cells as the released guide's own fill.sh prints them over the translation 611294ed81fc1f53… (all of the seat's roots in one cut). By AI agents, Wed Nov 11 2026. No macro, syntax, notation, axiom, sorry.
-/
import Derived.Test.YtajbepbggfbmpaaChecked
import GoSem.Claim
import GoSem.ClaimJoined
import GoSem.ClaimMapViews
import Derived.JoinedTies
import Derived.KernelRfl
namespace Go.Proofs.Ytajbepbggfbmpaa
/- THE CELL 'sum', in the pinned program and in every row, IS THE sha256 OF THE DUMP (.gsa) THAT YtajbepbggfbmpaaProg.lean LOADS. Nothing in Lean hashes anything: it is a label: what it is worth is what the hold of that sum in a sandbox is worth. -/
noncomputable def Try.pinned : Pinned := { name := "ytajbepbggfbmpaa", sum := "611294ed81fc1f530a706bb320dac436a7ed2946191206dde72ac3bf70191163", checked := Try.checked }
namespace Rows
def none {H : Type} : Left H := { results := [], args := [] }

/-- 'laws.FnExactNewDeck': WHATEVER THE INPUT: true; the input reads as it did. -/
def fnExactNewDeckSpec : ChangeSpec := { name := "fnExactNewDeck", fn := fun _ => fun
  | [d] => { results := [.lit (.bool true)], args := [d] }
  | _ => none }
def fnExactNewDeckRow : OpenClaim := { program := "ytajbepbggfbmpaa", sum := "611294ed81fc1f530a706bb320dac436a7ed2946191206dde72ac3bf70191163", func := "loop.example/g01401/laws.FnExactNewDeck", spec := "fnExactNewDeck", apart := false }
def FnExactNewDeckSaid : Prop := fnExactNewDeckRow.holds Try.pinned (OpenSpec.ofChange fnExactNewDeckSpec)

/-- ITS FALSE NEIGHBOUR: 'it returns false'. Refute it at one input. -/
def fnExactNewDeckWrong : ChangeSpec := { name := "fnExactNewDeck", fn := fun _ => fun
  | [d] => { results := [.lit (.bool false)], args := [d] }
  | _ => none }
def FnExactNewDeckWrongFalsely : Prop := fnExactNewDeckRow.holds Try.pinned (OpenSpec.ofChange fnExactNewDeckWrong)

/-- 'laws.FnExactIsDeck': WHATEVER THE INPUT: true; the input reads as it did. -/
def fnExactIsDeckSpec : ChangeSpec := { name := "fnExactIsDeck", fn := fun _ => fun
  | [d] => { results := [.lit (.bool true)], args := [d] }
  | _ => none }
def fnExactIsDeckRow : OpenClaim := { program := "ytajbepbggfbmpaa", sum := "611294ed81fc1f530a706bb320dac436a7ed2946191206dde72ac3bf70191163", func := "loop.example/g01401/laws.FnExactIsDeck", spec := "fnExactIsDeck", apart := false }
def FnExactIsDeckSaid : Prop := fnExactIsDeckRow.holds Try.pinned (OpenSpec.ofChange fnExactIsDeckSpec)

/-- ITS FALSE NEIGHBOUR: 'it returns false'. Refute it at one input. -/
def fnExactIsDeckWrong : ChangeSpec := { name := "fnExactIsDeck", fn := fun _ => fun
  | [d] => { results := [.lit (.bool false)], args := [d] }
  | _ => none }
def FnExactIsDeckWrongFalsely : Prop := fnExactIsDeckRow.holds Try.pinned (OpenSpec.ofChange fnExactIsDeckWrong)

/-- 'laws.FnExactDescentCounts': WHATEVER THE INPUT: true; the input reads as it did. -/
def fnExactDescentCountsSpec : ChangeSpec := { name := "fnExactDescentCounts", fn := fun _ => fun
  | [d] => { results := [.lit (.bool true)], args := [d] }
  | _ => none }
def fnExactDescentCountsRow : OpenClaim := { program := "ytajbepbggfbmpaa", sum := "611294ed81fc1f530a706bb320dac436a7ed2946191206dde72ac3bf70191163", func := "loop.example/g01401/laws.FnExactDescentCounts", spec := "fnExactDescentCounts", apart := false }
def FnExactDescentCountsSaid : Prop := fnExactDescentCountsRow.holds Try.pinned (OpenSpec.ofChange fnExactDescentCountsSpec)

/-- ITS FALSE NEIGHBOUR: 'it returns false'. Refute it at one input. -/
def fnExactDescentCountsWrong : ChangeSpec := { name := "fnExactDescentCounts", fn := fun _ => fun
  | [d] => { results := [.lit (.bool false)], args := [d] }
  | _ => none }
def FnExactDescentCountsWrongFalsely : Prop := fnExactDescentCountsRow.holds Try.pinned (OpenSpec.ofChange fnExactDescentCountsWrong)

/-- 'laws.FnExactWordAt': WHATEVER THE INPUT: true; the input reads as it did. -/
def fnExactWordAtSpec : ChangeSpec := { name := "fnExactWordAt", fn := fun _ => fun
  | [d1, d2] => { results := [.lit (.bool true)], args := [d1, d2] }
  | _ => none }
def fnExactWordAtRow : OpenClaim := { program := "ytajbepbggfbmpaa", sum := "611294ed81fc1f530a706bb320dac436a7ed2946191206dde72ac3bf70191163", func := "loop.example/g01401/laws.FnExactWordAt", spec := "fnExactWordAt", unfollowed := true, recurses := true, apart := false }
def FnExactWordAtSaid : Prop := fnExactWordAtRow.holds Try.pinned (OpenSpec.ofChange fnExactWordAtSpec)

/-- ITS FALSE NEIGHBOUR: 'it returns false'. Refute it at one input. -/
def fnExactWordAtWrong : ChangeSpec := { name := "fnExactWordAt", fn := fun _ => fun
  | [d1, d2] => { results := [.lit (.bool false)], args := [d1, d2] }
  | _ => none }
def FnExactWordAtWrongFalsely : Prop := fnExactWordAtRow.holds Try.pinned (OpenSpec.ofChange fnExactWordAtWrong)

/-- 'laws.FnExactBitRing': WHATEVER THE INPUT: true; the input reads as it did. -/
def fnExactBitRingSpec : ChangeSpec := { name := "fnExactBitRing", fn := fun _ => fun
  | [d] => { results := [.lit (.bool true)], args := [d] }
  | _ => none }
def fnExactBitRingRow : OpenClaim := { program := "ytajbepbggfbmpaa", sum := "611294ed81fc1f530a706bb320dac436a7ed2946191206dde72ac3bf70191163", func := "loop.example/g01401/laws.FnExactBitRing", spec := "fnExactBitRing", apart := false }
def FnExactBitRingSaid : Prop := fnExactBitRingRow.holds Try.pinned (OpenSpec.ofChange fnExactBitRingSpec)

/-- ITS FALSE NEIGHBOUR: 'it returns false'. Refute it at one input. -/
def fnExactBitRingWrong : ChangeSpec := { name := "fnExactBitRing", fn := fun _ => fun
  | [d] => { results := [.lit (.bool false)], args := [d] }
  | _ => none }
def FnExactBitRingWrongFalsely : Prop := fnExactBitRingRow.holds Try.pinned (OpenSpec.ofChange fnExactBitRingWrong)

/-- 'laws.FnExactDownUnder': WHATEVER THE INPUT: true; the input reads as it did. -/
def fnExactDownUnderSpec : ChangeSpec := { name := "fnExactDownUnder", fn := fun _ => fun
  | [d] => { results := [.lit (.bool true)], args := [d] }
  | _ => none }
def fnExactDownUnderRow : OpenClaim := { program := "ytajbepbggfbmpaa", sum := "611294ed81fc1f530a706bb320dac436a7ed2946191206dde72ac3bf70191163", func := "loop.example/g01401/laws.FnExactDownUnder", spec := "fnExactDownUnder", apart := false }
def FnExactDownUnderSaid : Prop := fnExactDownUnderRow.holds Try.pinned (OpenSpec.ofChange fnExactDownUnderSpec)

/-- ITS FALSE NEIGHBOUR: 'it returns false'. Refute it at one input. -/
def fnExactDownUnderWrong : ChangeSpec := { name := "fnExactDownUnder", fn := fun _ => fun
  | [d] => { results := [.lit (.bool false)], args := [d] }
  | _ => none }
def FnExactDownUnderWrongFalsely : Prop := fnExactDownUnderRow.holds Try.pinned (OpenSpec.ofChange fnExactDownUnderWrong)

/- THE SECOND FORM. 'bulk': how many values and letters a reading holds, each counted each time it is reached (what is shared counts as often as it is met; a slice's spare places count too). A statement '..UptoSaid' is the law's where the arguments, and the package variables that the reading takes, are together of bulk at most 1048576: NARROWER than '..Said'. Prove '..Said' where nothing that the law and all that it calls make is longer than what came in: it says more and counts as full. Else prove '..UptoSaid'. A law counts once. -/
mutual
def uptoBulk {H : Type} : DataW H → Nat
  | .lit (.string bytes) => bytes.length + 1
  | .lit _ => 1
  | .nil => 1
  | .ptr d => uptoBulk d + 1
  | .slice elems spare => uptoBulkAll elems + uptoBulkAll spare + 1
  | .agg parts => uptoBulkAll parts + 1
  | .iface _ d => uptoBulk d + 1
  | .map entries => uptoBulkEntries entries + 1
  | .held _ => 1
def uptoBulkAll {H : Type} : List (DataW H) → Nat
  | [] => 0
  | d :: r => uptoBulk d + uptoBulkAll r
def uptoBulkEntries {H : Type} : List (Lit × DataW H) → Nat
  | [] => 0
  | x :: r => uptoBulkEntry x + uptoBulkEntries r
def uptoBulkEntry {H : Type} : Lit × DataW H → Nat
  | (.string bytes, d) => bytes.length + uptoBulk d + 1
  | (_, d) => uptoBulk d + 1
 end
def uptoSmall : (H : Type) → List (DataW H) → Bool := fun _ ds => decide (uptoBulkAll ds ≤ 1048576)
def OpenSpec.upto (s : _root_.Go.ChangeSpec) : _root_.Go.OpenSpec := { _root_.Go.OpenSpec.ofChange s with cond := some uptoSmall }

/-- 'laws.FnExactNewDeck', WHERE WHAT IT READS IS OF BULK AT MOST 1048576: true; the input reads as it did. -/
def fnExactNewDeckUptoRow : OpenClaim := { program := "ytajbepbggfbmpaa", sum := "611294ed81fc1f530a706bb320dac436a7ed2946191206dde72ac3bf70191163", func := "loop.example/g01401/laws.FnExactNewDeck", spec := "fnExactNewDeck", apart := false, narrowed := true }
def FnExactNewDeckUptoSaid : Prop := fnExactNewDeckUptoRow.holds Try.pinned (OpenSpec.upto fnExactNewDeckSpec)

/-- 'laws.FnExactIsDeck', WHERE WHAT IT READS IS OF BULK AT MOST 1048576: true; the input reads as it did. -/
def fnExactIsDeckUptoRow : OpenClaim := { program := "ytajbepbggfbmpaa", sum := "611294ed81fc1f530a706bb320dac436a7ed2946191206dde72ac3bf70191163", func := "loop.example/g01401/laws.FnExactIsDeck", spec := "fnExactIsDeck", apart := false, narrowed := true }
def FnExactIsDeckUptoSaid : Prop := fnExactIsDeckUptoRow.holds Try.pinned (OpenSpec.upto fnExactIsDeckSpec)

/-- 'laws.FnExactDescentCounts', WHERE WHAT IT READS IS OF BULK AT MOST 1048576: true; the input reads as it did. -/
def fnExactDescentCountsUptoRow : OpenClaim := { program := "ytajbepbggfbmpaa", sum := "611294ed81fc1f530a706bb320dac436a7ed2946191206dde72ac3bf70191163", func := "loop.example/g01401/laws.FnExactDescentCounts", spec := "fnExactDescentCounts", apart := false, narrowed := true }
def FnExactDescentCountsUptoSaid : Prop := fnExactDescentCountsUptoRow.holds Try.pinned (OpenSpec.upto fnExactDescentCountsSpec)

/-- 'laws.FnExactWordAt', WHERE WHAT IT READS IS OF BULK AT MOST 1048576: true; the input reads as it did. -/
def fnExactWordAtUptoRow : OpenClaim := { program := "ytajbepbggfbmpaa", sum := "611294ed81fc1f530a706bb320dac436a7ed2946191206dde72ac3bf70191163", func := "loop.example/g01401/laws.FnExactWordAt", spec := "fnExactWordAt", unfollowed := true, recurses := true, apart := false, narrowed := true }
def FnExactWordAtUptoSaid : Prop := fnExactWordAtUptoRow.holds Try.pinned (OpenSpec.upto fnExactWordAtSpec)

/-- 'laws.FnExactBitRing', WHERE WHAT IT READS IS OF BULK AT MOST 1048576: true; the input reads as it did. -/
def fnExactBitRingUptoRow : OpenClaim := { program := "ytajbepbggfbmpaa", sum := "611294ed81fc1f530a706bb320dac436a7ed2946191206dde72ac3bf70191163", func := "loop.example/g01401/laws.FnExactBitRing", spec := "fnExactBitRing", apart := false, narrowed := true }
def FnExactBitRingUptoSaid : Prop := fnExactBitRingUptoRow.holds Try.pinned (OpenSpec.upto fnExactBitRingSpec)

/-- 'laws.FnExactDownUnder', WHERE WHAT IT READS IS OF BULK AT MOST 1048576: true; the input reads as it did. -/
def fnExactDownUnderUptoRow : OpenClaim := { program := "ytajbepbggfbmpaa", sum := "611294ed81fc1f530a706bb320dac436a7ed2946191206dde72ac3bf70191163", func := "loop.example/g01401/laws.FnExactDownUnder", spec := "fnExactDownUnder", apart := false, narrowed := true }
def FnExactDownUnderUptoSaid : Prop := fnExactDownUnderUptoRow.holds Try.pinned (OpenSpec.upto fnExactDownUnderSpec)

end Rows
end Go.Proofs.Ytajbepbggfbmpaa
