/-
  No cell of these rows narrows 'for every input' (looked for: loops, veiled, ifaces, maps, wideKeys, modest, calm, conditions, laid).
  DERIVED. THE GIVEN ROWS OF THIS SEAT. 6 by the template 'for every input the law returns true; each argument reads behind the call as it read before'; 0 by the template 'total and deterministic' (their statements: YtfpjeianlfhmnaaTotals.lean).
  GIVEN WITH THE SEED: the statements are not yours to turn. If you find one false, say at which input.
  Laid BY PROGRAM, IN A SANDBOX (cutbox-rows.mjs): the forced cells as the released guide's own fill.sh prints them over the translation 1f36e1680356d3be… (all of the seat's roots in one cut). By AI agents, Wed Nov 11 2026. No macro, syntax, notation, axiom, sorry.
-/
import Derived.Test.YtfpjeianlfhmnaaChecked
import GoSem.Claim
import GoSem.ClaimJoined
import GoSem.ClaimMapViews
import Derived.JoinedTies
import Derived.KernelRfl
namespace Go.Proofs.Ytfpjeianlfhmnaa
/- THE CELL 'sum', in the pinned program and in every row, IS THE sha256 OF THE DUMP (.gsa) THAT YtfpjeianlfhmnaaProg.lean LOADS. Nothing in Lean hashes anything: it is a label: what it is worth is what the hold of that sum in a sandbox is worth. -/
noncomputable def Try.pinned : Pinned := { name := "ytfpjeianlfhmnaa", sum := "1f36e1680356d3be5324673e3eb6deb5e3aa61d16c674c5727fc74275af3f9e6", checked := Try.checked }
namespace Rows
def none {H : Type} : Left H := { results := [], args := [] }

/-- 'pledgelaw11.OpTurns': WHATEVER THE INPUT: true; the input reads as it did. -/
def opTurnsSpec : ChangeSpec := { name := "opTurns", fn := fun _ => fun
  | [d] => { results := [.lit (.bool true)], args := [d] }
  | _ => none }
def opTurnsRow : OpenClaim := { program := "ytfpjeianlfhmnaa", sum := "1f36e1680356d3be5324673e3eb6deb5e3aa61d16c674c5727fc74275af3f9e6", func := "pledge/pledgelaw11.OpTurns", spec := "opTurns", inPlace := ["math/bits.Add64"], unfollowed := true, recurses := true, plainKeys := false, apart := false }
def OpTurnsSaid : Prop := opTurnsRow.holds Try.pinned (OpenSpec.ofChange opTurnsSpec)

/-- ITS FALSE NEIGHBOUR: 'it returns false'. Refute it at one input. -/
def opTurnsWrong : ChangeSpec := { name := "opTurns", fn := fun _ => fun
  | [d] => { results := [.lit (.bool false)], args := [d] }
  | _ => none }
def OpTurnsWrongFalsely : Prop := opTurnsRow.holds Try.pinned (OpenSpec.ofChange opTurnsWrong)

/-- 'pledgelaw11.OpParts': WHATEVER THE INPUT: true; the input reads as it did. -/
def opPartsSpec : ChangeSpec := { name := "opParts", fn := fun _ => fun
  | [d1, d2, d3] => { results := [.lit (.bool true)], args := [d1, d2, d3] }
  | _ => none }
def opPartsRow : OpenClaim := { program := "ytfpjeianlfhmnaa", sum := "1f36e1680356d3be5324673e3eb6deb5e3aa61d16c674c5727fc74275af3f9e6", func := "pledge/pledgelaw11.OpParts", spec := "opParts", inPlace := ["math/bits.Add64"], unfollowed := true, recurses := true, plainKeys := false, apart := false }
def OpPartsSaid : Prop := opPartsRow.holds Try.pinned (OpenSpec.ofChange opPartsSpec)

/-- ITS FALSE NEIGHBOUR: 'it returns false'. Refute it at one input. -/
def opPartsWrong : ChangeSpec := { name := "opParts", fn := fun _ => fun
  | [d1, d2, d3] => { results := [.lit (.bool false)], args := [d1, d2, d3] }
  | _ => none }
def OpPartsWrongFalsely : Prop := opPartsRow.holds Try.pinned (OpenSpec.ofChange opPartsWrong)

/-- 'pledgelaw11.OpNets': WHATEVER THE INPUT: true; the input reads as it did. -/
def opNetsSpec : ChangeSpec := { name := "opNets", fn := fun _ => fun
  | [d] => { results := [.lit (.bool true)], args := [d] }
  | _ => none }
def opNetsRow : OpenClaim := { program := "ytfpjeianlfhmnaa", sum := "1f36e1680356d3be5324673e3eb6deb5e3aa61d16c674c5727fc74275af3f9e6", func := "pledge/pledgelaw11.OpNets", spec := "opNets", inPlace := ["math/bits.Add64"], unfollowed := true, recurses := true, plainKeys := false, apart := false }
def OpNetsSaid : Prop := opNetsRow.holds Try.pinned (OpenSpec.ofChange opNetsSpec)

/-- ITS FALSE NEIGHBOUR: 'it returns false'. Refute it at one input. -/
def opNetsWrong : ChangeSpec := { name := "opNets", fn := fun _ => fun
  | [d] => { results := [.lit (.bool false)], args := [d] }
  | _ => none }
def OpNetsWrongFalsely : Prop := opNetsRow.holds Try.pinned (OpenSpec.ofChange opNetsWrong)

/-- 'pledgelaw11.OpUndoes': WHATEVER THE INPUT: true; the input reads as it did. -/
def opUndoesSpec : ChangeSpec := { name := "opUndoes", fn := fun _ => fun
  | [d] => { results := [.lit (.bool true)], args := [d] }
  | _ => none }
def opUndoesRow : OpenClaim := { program := "ytfpjeianlfhmnaa", sum := "1f36e1680356d3be5324673e3eb6deb5e3aa61d16c674c5727fc74275af3f9e6", func := "pledge/pledgelaw11.OpUndoes", spec := "opUndoes", inPlace := ["math/bits.Add64"], unfollowed := true, recurses := true, plainKeys := false, apart := false }
def OpUndoesSaid : Prop := opUndoesRow.holds Try.pinned (OpenSpec.ofChange opUndoesSpec)

/-- ITS FALSE NEIGHBOUR: 'it returns false'. Refute it at one input. -/
def opUndoesWrong : ChangeSpec := { name := "opUndoes", fn := fun _ => fun
  | [d] => { results := [.lit (.bool false)], args := [d] }
  | _ => none }
def OpUndoesWrongFalsely : Prop := opUndoesRow.holds Try.pinned (OpenSpec.ofChange opUndoesWrong)

/-- 'pledgelaw12.StepPairs': WHATEVER THE INPUT: true; the input reads as it did. -/
def stepPairsSpec : ChangeSpec := { name := "stepPairs", fn := fun _ => fun
  | [d1, d2] => { results := [.lit (.bool true)], args := [d1, d2] }
  | _ => none }
def stepPairsRow : OpenClaim := { program := "ytfpjeianlfhmnaa", sum := "1f36e1680356d3be5324673e3eb6deb5e3aa61d16c674c5727fc74275af3f9e6", func := "pledge/pledgelaw12.StepPairs", spec := "stepPairs", inPlace := ["math/bits.Add64"], unfollowed := true, recurses := true, plainKeys := false, apart := false }
def StepPairsSaid : Prop := stepPairsRow.holds Try.pinned (OpenSpec.ofChange stepPairsSpec)

/-- ITS FALSE NEIGHBOUR: 'it returns false'. Refute it at one input. -/
def stepPairsWrong : ChangeSpec := { name := "stepPairs", fn := fun _ => fun
  | [d1, d2] => { results := [.lit (.bool false)], args := [d1, d2] }
  | _ => none }
def StepPairsWrongFalsely : Prop := stepPairsRow.holds Try.pinned (OpenSpec.ofChange stepPairsWrong)

/-- 'pledgelaw12.StepUndoes': WHATEVER THE INPUT: true; the input reads as it did. -/
def stepUndoesSpec : ChangeSpec := { name := "stepUndoes", fn := fun _ => fun
  | [d1, d2, d3] => { results := [.lit (.bool true)], args := [d1, d2, d3] }
  | _ => none }
def stepUndoesRow : OpenClaim := { program := "ytfpjeianlfhmnaa", sum := "1f36e1680356d3be5324673e3eb6deb5e3aa61d16c674c5727fc74275af3f9e6", func := "pledge/pledgelaw12.StepUndoes", spec := "stepUndoes", inPlace := ["math/bits.Add64"], unfollowed := true, recurses := true, plainKeys := false, apart := false }
def StepUndoesSaid : Prop := stepUndoesRow.holds Try.pinned (OpenSpec.ofChange stepUndoesSpec)

/-- ITS FALSE NEIGHBOUR: 'it returns false'. Refute it at one input. -/
def stepUndoesWrong : ChangeSpec := { name := "stepUndoes", fn := fun _ => fun
  | [d1, d2, d3] => { results := [.lit (.bool false)], args := [d1, d2, d3] }
  | _ => none }
def StepUndoesWrongFalsely : Prop := stepUndoesRow.holds Try.pinned (OpenSpec.ofChange stepUndoesWrong)

/- THE SECOND FORM. 'bulk': how many values and letters a reading holds, each counted each time it is reached (what is shared counts as often as it is met; a slice's spare places count too). A statement '..UptoSaid' is the law's where the arguments, and the package variables that the reading takes, are together of bulk at most 1048576: NARROWER than '..Said'. Prove '..Said' where nothing that the law and all that it calls make is longer than what came in: it says more and counts as full. Else prove '..UptoSaid'. A law counts once. -/
mutual
def uptoBulk {H : Type} : DataW H → Nat
  | .lit (.string bytes) => bytes.length + 1
  | .lit _ => 1
  | .nil => 1
  | .ptr d => uptoBulk d + 1
  | .slice elems spare => uptoBulkAll elems + uptoBulkAll spare + 1
  | .agg parts => uptoBulkAll parts + 1
  | .iface _ d => uptoBulk d + 1
  | .map entries => uptoBulkEntries entries + 1
  | .held _ => 1
def uptoBulkAll {H : Type} : List (DataW H) → Nat
  | [] => 0
  | d :: r => uptoBulk d + uptoBulkAll r
def uptoBulkEntries {H : Type} : List (Lit × DataW H) → Nat
  | [] => 0
  | x :: r => uptoBulkEntry x + uptoBulkEntries r
def uptoBulkEntry {H : Type} : Lit × DataW H → Nat
  | (.string bytes, d) => bytes.length + uptoBulk d + 1
  | (_, d) => uptoBulk d + 1
 end
def uptoSmall : (H : Type) → List (DataW H) → Bool := fun _ ds => decide (uptoBulkAll ds ≤ 1048576)
def OpenSpec.upto (s : _root_.Go.ChangeSpec) : _root_.Go.OpenSpec := { _root_.Go.OpenSpec.ofChange s with cond := some uptoSmall }

/-- 'pledgelaw11.OpTurns', WHERE WHAT IT READS IS OF BULK AT MOST 1048576: true; the input reads as it did. -/
def opTurnsUptoRow : OpenClaim := { program := "ytfpjeianlfhmnaa", sum := "1f36e1680356d3be5324673e3eb6deb5e3aa61d16c674c5727fc74275af3f9e6", func := "pledge/pledgelaw11.OpTurns", spec := "opTurns", inPlace := ["math/bits.Add64"], unfollowed := true, recurses := true, plainKeys := false, apart := false, narrowed := true }
def OpTurnsUptoSaid : Prop := opTurnsUptoRow.holds Try.pinned (OpenSpec.upto opTurnsSpec)

/-- 'pledgelaw11.OpParts', WHERE WHAT IT READS IS OF BULK AT MOST 1048576: true; the input reads as it did. -/
def opPartsUptoRow : OpenClaim := { program := "ytfpjeianlfhmnaa", sum := "1f36e1680356d3be5324673e3eb6deb5e3aa61d16c674c5727fc74275af3f9e6", func := "pledge/pledgelaw11.OpParts", spec := "opParts", inPlace := ["math/bits.Add64"], unfollowed := true, recurses := true, plainKeys := false, apart := false, narrowed := true }
def OpPartsUptoSaid : Prop := opPartsUptoRow.holds Try.pinned (OpenSpec.upto opPartsSpec)

/-- 'pledgelaw11.OpNets', WHERE WHAT IT READS IS OF BULK AT MOST 1048576: true; the input reads as it did. -/
def opNetsUptoRow : OpenClaim := { program := "ytfpjeianlfhmnaa", sum := "1f36e1680356d3be5324673e3eb6deb5e3aa61d16c674c5727fc74275af3f9e6", func := "pledge/pledgelaw11.OpNets", spec := "opNets", inPlace := ["math/bits.Add64"], unfollowed := true, recurses := true, plainKeys := false, apart := false, narrowed := true }
def OpNetsUptoSaid : Prop := opNetsUptoRow.holds Try.pinned (OpenSpec.upto opNetsSpec)

/-- 'pledgelaw11.OpUndoes', WHERE WHAT IT READS IS OF BULK AT MOST 1048576: true; the input reads as it did. -/
def opUndoesUptoRow : OpenClaim := { program := "ytfpjeianlfhmnaa", sum := "1f36e1680356d3be5324673e3eb6deb5e3aa61d16c674c5727fc74275af3f9e6", func := "pledge/pledgelaw11.OpUndoes", spec := "opUndoes", inPlace := ["math/bits.Add64"], unfollowed := true, recurses := true, plainKeys := false, apart := false, narrowed := true }
def OpUndoesUptoSaid : Prop := opUndoesUptoRow.holds Try.pinned (OpenSpec.upto opUndoesSpec)

/-- 'pledgelaw12.StepPairs', WHERE WHAT IT READS IS OF BULK AT MOST 1048576: true; the input reads as it did. -/
def stepPairsUptoRow : OpenClaim := { program := "ytfpjeianlfhmnaa", sum := "1f36e1680356d3be5324673e3eb6deb5e3aa61d16c674c5727fc74275af3f9e6", func := "pledge/pledgelaw12.StepPairs", spec := "stepPairs", inPlace := ["math/bits.Add64"], unfollowed := true, recurses := true, plainKeys := false, apart := false, narrowed := true }
def StepPairsUptoSaid : Prop := stepPairsUptoRow.holds Try.pinned (OpenSpec.upto stepPairsSpec)

/-- 'pledgelaw12.StepUndoes', WHERE WHAT IT READS IS OF BULK AT MOST 1048576: true; the input reads as it did. -/
def stepUndoesUptoRow : OpenClaim := { program := "ytfpjeianlfhmnaa", sum := "1f36e1680356d3be5324673e3eb6deb5e3aa61d16c674c5727fc74275af3f9e6", func := "pledge/pledgelaw12.StepUndoes", spec := "stepUndoes", inPlace := ["math/bits.Add64"], unfollowed := true, recurses := true, plainKeys := false, apart := false, narrowed := true }
def StepUndoesUptoSaid : Prop := stepUndoesUptoRow.holds Try.pinned (OpenSpec.upto stepUndoesSpec)

end Rows
end Go.Proofs.Ytfpjeianlfhmnaa
