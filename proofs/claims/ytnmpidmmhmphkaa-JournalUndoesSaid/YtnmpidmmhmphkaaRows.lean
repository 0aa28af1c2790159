/-
  No cell of these rows narrows 'for every input' (looked for: loops, veiled, ifaces, maps, wideKeys, modest, calm, conditions, laid).
  DERIVED. THE GIVEN ROWS OF THIS SEAT. 6 by the template 'for every input the law returns true; each argument reads behind the call as it read before'; 0 by the template 'total and deterministic' (their statements: YtnmpidmmhmphkaaTotals.lean).
  GIVEN WITH THE SEED: the statements are not yours to turn. If you find one false, say at which input.
  Laid BY PROGRAM, IN A SANDBOX (cutbox-rows.mjs): the forced cells as the released guide's own fill.sh prints them over the translation 2ce32f2ca2373a48… (all of the seat's roots in one cut). By AI agents, Wed Nov 11 2026. No macro, syntax, notation, axiom, sorry.
-/
import Derived.Test.YtnmpidmmhmphkaaChecked
import GoSem.Claim
import GoSem.ClaimJoined
import GoSem.ClaimMapViews
import Derived.JoinedTies
import Derived.KernelRfl
namespace Go.Proofs.Ytnmpidmmhmphkaa
/- THE CELL 'sum', in the pinned program and in every row, IS THE sha256 OF THE DUMP (.gsa) THAT YtnmpidmmhmphkaaProg.lean LOADS. Nothing in Lean hashes anything: it is a label: what it is worth is what the hold of that sum in a sandbox is worth. -/
noncomputable def Try.pinned : Pinned := { name := "ytnmpidmmhmphkaa", sum := "2ce32f2ca2373a48f8ea18af1c889a0fc75809c4438e307f3314a9c6d930c152", checked := Try.checked }
namespace Rows
def none {H : Type} : Left H := { results := [], args := [] }

/-- 'pledgelaw18.FundUndoes': WHATEVER THE INPUT: true; the input reads as it did. -/
def fundUndoesSpec : ChangeSpec := { name := "fundUndoes", fn := fun _ => fun
  | [d1, d2, d3] => { results := [.lit (.bool true)], args := [d1, d2, d3] }
  | _ => none }
def fundUndoesRow : OpenClaim := { program := "ytnmpidmmhmphkaa", sum := "2ce32f2ca2373a48f8ea18af1c889a0fc75809c4438e307f3314a9c6d930c152", func := "pledge/pledgelaw18.FundUndoes", spec := "fundUndoes", unfollowed := true, recurses := true, plainKeys := false, apart := false }
def FundUndoesSaid : Prop := fundUndoesRow.holds Try.pinned (OpenSpec.ofChange fundUndoesSpec)

/-- ITS FALSE NEIGHBOUR: 'it returns false'. Refute it at one input. -/
def fundUndoesWrong : ChangeSpec := { name := "fundUndoes", fn := fun _ => fun
  | [d1, d2, d3] => { results := [.lit (.bool false)], args := [d1, d2, d3] }
  | _ => none }
def FundUndoesWrongFalsely : Prop := fundUndoesRow.holds Try.pinned (OpenSpec.ofChange fundUndoesWrong)

/-- 'pledgelaw18.FundPlays': WHATEVER THE INPUT: true; the input reads as it did. -/
def fundPlaysSpec : ChangeSpec := { name := "fundPlays", fn := fun _ => fun
  | [d1, d2] => { results := [.lit (.bool true)], args := [d1, d2] }
  | _ => none }
def fundPlaysRow : OpenClaim := { program := "ytnmpidmmhmphkaa", sum := "2ce32f2ca2373a48f8ea18af1c889a0fc75809c4438e307f3314a9c6d930c152", func := "pledge/pledgelaw18.FundPlays", spec := "fundPlays", unfollowed := true, recurses := true, plainKeys := false, apart := false }
def FundPlaysSaid : Prop := fundPlaysRow.holds Try.pinned (OpenSpec.ofChange fundPlaysSpec)

/-- ITS FALSE NEIGHBOUR: 'it returns false'. Refute it at one input. -/
def fundPlaysWrong : ChangeSpec := { name := "fundPlays", fn := fun _ => fun
  | [d1, d2] => { results := [.lit (.bool false)], args := [d1, d2] }
  | _ => none }
def FundPlaysWrongFalsely : Prop := fundPlaysRow.holds Try.pinned (OpenSpec.ofChange fundPlaysWrong)

/-- 'pledgelaw19.JournalUndoes': WHATEVER THE INPUT: true; the input reads as it did. -/
def journalUndoesSpec : ChangeSpec := { name := "journalUndoes", fn := fun _ => fun
  | [d1, d2, d3] => { results := [.lit (.bool true)], args := [d1, d2, d3] }
  | _ => none }
def journalUndoesRow : OpenClaim := { program := "ytnmpidmmhmphkaa", sum := "2ce32f2ca2373a48f8ea18af1c889a0fc75809c4438e307f3314a9c6d930c152", func := "pledge/pledgelaw19.JournalUndoes", spec := "journalUndoes", inPlace := ["math/bits.Add64"], unfollowed := true, recurses := true, plainKeys := false, apart := false }
def JournalUndoesSaid : Prop := journalUndoesRow.holds Try.pinned (OpenSpec.ofChange journalUndoesSpec)

/-- ITS FALSE NEIGHBOUR: 'it returns false'. Refute it at one input. -/
def journalUndoesWrong : ChangeSpec := { name := "journalUndoes", fn := fun _ => fun
  | [d1, d2, d3] => { results := [.lit (.bool false)], args := [d1, d2, d3] }
  | _ => none }
def JournalUndoesWrongFalsely : Prop := journalUndoesRow.holds Try.pinned (OpenSpec.ofChange journalUndoesWrong)

/-- 'pledgelaw19.JournalAsks': WHATEVER THE INPUT: true; the input reads as it did. -/
def journalAsksSpec : ChangeSpec := { name := "journalAsks", fn := fun _ => fun
  | [d1, d2, d3] => { results := [.lit (.bool true)], args := [d1, d2, d3] }
  | _ => none }
def journalAsksRow : OpenClaim := { program := "ytnmpidmmhmphkaa", sum := "2ce32f2ca2373a48f8ea18af1c889a0fc75809c4438e307f3314a9c6d930c152", func := "pledge/pledgelaw19.JournalAsks", spec := "journalAsks", inPlace := ["math/bits.Add64"], unfollowed := true, recurses := true, plainKeys := false, apart := false }
def JournalAsksSaid : Prop := journalAsksRow.holds Try.pinned (OpenSpec.ofChange journalAsksSpec)

/-- ITS FALSE NEIGHBOUR: 'it returns false'. Refute it at one input. -/
def journalAsksWrong : ChangeSpec := { name := "journalAsks", fn := fun _ => fun
  | [d1, d2, d3] => { results := [.lit (.bool false)], args := [d1, d2, d3] }
  | _ => none }
def JournalAsksWrongFalsely : Prop := journalAsksRow.holds Try.pinned (OpenSpec.ofChange journalAsksWrong)

/-- 'pledgelaw19.JournalApart': WHATEVER THE INPUT: true; the input reads as it did. -/
def journalApartSpec : ChangeSpec := { name := "journalApart", fn := fun _ => fun
  | [d1, d2] => { results := [.lit (.bool true)], args := [d1, d2] }
  | _ => none }
def journalApartRow : OpenClaim := { program := "ytnmpidmmhmphkaa", sum := "2ce32f2ca2373a48f8ea18af1c889a0fc75809c4438e307f3314a9c6d930c152", func := "pledge/pledgelaw19.JournalApart", spec := "journalApart", inPlace := ["math/bits.Add64"], unfollowed := true, recurses := true, plainKeys := false, apart := false }
def JournalApartSaid : Prop := journalApartRow.holds Try.pinned (OpenSpec.ofChange journalApartSpec)

/-- ITS FALSE NEIGHBOUR: 'it returns false'. Refute it at one input. -/
def journalApartWrong : ChangeSpec := { name := "journalApart", fn := fun _ => fun
  | [d1, d2] => { results := [.lit (.bool false)], args := [d1, d2] }
  | _ => none }
def JournalApartWrongFalsely : Prop := journalApartRow.holds Try.pinned (OpenSpec.ofChange journalApartWrong)

/-- 'pledgelaw19.JournalNil': WHATEVER THE INPUT: true; the input reads as it did. -/
def journalNilSpec : ChangeSpec := { name := "journalNil", fn := fun _ => fun
  | [d1, d2] => { results := [.lit (.bool true)], args := [d1, d2] }
  | _ => none }
def journalNilRow : OpenClaim := { program := "ytnmpidmmhmphkaa", sum := "2ce32f2ca2373a48f8ea18af1c889a0fc75809c4438e307f3314a9c6d930c152", func := "pledge/pledgelaw19.JournalNil", spec := "journalNil", inPlace := ["math/bits.Add64"], unfollowed := true, recurses := true, plainKeys := false, apart := false }
def JournalNilSaid : Prop := journalNilRow.holds Try.pinned (OpenSpec.ofChange journalNilSpec)

/-- ITS FALSE NEIGHBOUR: 'it returns false'. Refute it at one input. -/
def journalNilWrong : ChangeSpec := { name := "journalNil", fn := fun _ => fun
  | [d1, d2] => { results := [.lit (.bool false)], args := [d1, d2] }
  | _ => none }
def JournalNilWrongFalsely : Prop := journalNilRow.holds Try.pinned (OpenSpec.ofChange journalNilWrong)

/- THE SECOND FORM. 'bulk': how many values and letters a reading holds, each counted each time it is reached (what is shared counts as often as it is met; a slice's spare places count too). A statement '..UptoSaid' is the law's where the arguments, and the package variables that the reading takes, are together of bulk at most 1048576: NARROWER than '..Said'. Prove '..Said' where nothing that the law and all that it calls make is longer than what came in: it says more and counts as full. Else prove '..UptoSaid'. A law counts once. -/
mutual
def uptoBulk {H : Type} : DataW H → Nat
  | .lit (.string bytes) => bytes.length + 1
  | .lit _ => 1
  | .nil => 1
  | .ptr d => uptoBulk d + 1
  | .slice elems spare => uptoBulkAll elems + uptoBulkAll spare + 1
  | .agg parts => uptoBulkAll parts + 1
  | .iface _ d => uptoBulk d + 1
  | .map entries => uptoBulkEntries entries + 1
  | .held _ => 1
def uptoBulkAll {H : Type} : List (DataW H) → Nat
  | [] => 0
  | d :: r => uptoBulk d + uptoBulkAll r
def uptoBulkEntries {H : Type} : List (Lit × DataW H) → Nat
  | [] => 0
  | x :: r => uptoBulkEntry x + uptoBulkEntries r
def uptoBulkEntry {H : Type} : Lit × DataW H → Nat
  | (.string bytes, d) => bytes.length + uptoBulk d + 1
  | (_, d) => uptoBulk d + 1
 end
def uptoSmall : (H : Type) → List (DataW H) → Bool := fun _ ds => decide (uptoBulkAll ds ≤ 1048576)
def OpenSpec.upto (s : _root_.Go.ChangeSpec) : _root_.Go.OpenSpec := { _root_.Go.OpenSpec.ofChange s with cond := some uptoSmall }

/-- 'pledgelaw18.FundUndoes', WHERE WHAT IT READS IS OF BULK AT MOST 1048576: true; the input reads as it did. -/
def fundUndoesUptoRow : OpenClaim := { program := "ytnmpidmmhmphkaa", sum := "2ce32f2ca2373a48f8ea18af1c889a0fc75809c4438e307f3314a9c6d930c152", func := "pledge/pledgelaw18.FundUndoes", spec := "fundUndoes", unfollowed := true, recurses := true, plainKeys := false, apart := false, narrowed := true }
def FundUndoesUptoSaid : Prop := fundUndoesUptoRow.holds Try.pinned (OpenSpec.upto fundUndoesSpec)

/-- 'pledgelaw18.FundPlays', WHERE WHAT IT READS IS OF BULK AT MOST 1048576: true; the input reads as it did. -/
def fundPlaysUptoRow : OpenClaim := { program := "ytnmpidmmhmphkaa", sum := "2ce32f2ca2373a48f8ea18af1c889a0fc75809c4438e307f3314a9c6d930c152", func := "pledge/pledgelaw18.FundPlays", spec := "fundPlays", unfollowed := true, recurses := true, plainKeys := false, apart := false, narrowed := true }
def FundPlaysUptoSaid : Prop := fundPlaysUptoRow.holds Try.pinned (OpenSpec.upto fundPlaysSpec)

/-- 'pledgelaw19.JournalUndoes', WHERE WHAT IT READS IS OF BULK AT MOST 1048576: true; the input reads as it did. -/
def journalUndoesUptoRow : OpenClaim := { program := "ytnmpidmmhmphkaa", sum := "2ce32f2ca2373a48f8ea18af1c889a0fc75809c4438e307f3314a9c6d930c152", func := "pledge/pledgelaw19.JournalUndoes", spec := "journalUndoes", inPlace := ["math/bits.Add64"], unfollowed := true, recurses := true, plainKeys := false, apart := false, narrowed := true }
def JournalUndoesUptoSaid : Prop := journalUndoesUptoRow.holds Try.pinned (OpenSpec.upto journalUndoesSpec)

/-- 'pledgelaw19.JournalAsks', WHERE WHAT IT READS IS OF BULK AT MOST 1048576: true; the input reads as it did. -/
def journalAsksUptoRow : OpenClaim := { program := "ytnmpidmmhmphkaa", sum := "2ce32f2ca2373a48f8ea18af1c889a0fc75809c4438e307f3314a9c6d930c152", func := "pledge/pledgelaw19.JournalAsks", spec := "journalAsks", inPlace := ["math/bits.Add64"], unfollowed := true, recurses := true, plainKeys := false, apart := false, narrowed := true }
def JournalAsksUptoSaid : Prop := journalAsksUptoRow.holds Try.pinned (OpenSpec.upto journalAsksSpec)

/-- 'pledgelaw19.JournalApart', WHERE WHAT IT READS IS OF BULK AT MOST 1048576: true; the input reads as it did. -/
def journalApartUptoRow : OpenClaim := { program := "ytnmpidmmhmphkaa", sum := "2ce32f2ca2373a48f8ea18af1c889a0fc75809c4438e307f3314a9c6d930c152", func := "pledge/pledgelaw19.JournalApart", spec := "journalApart", inPlace := ["math/bits.Add64"], unfollowed := true, recurses := true, plainKeys := false, apart := false, narrowed := true }
def JournalApartUptoSaid : Prop := journalApartUptoRow.holds Try.pinned (OpenSpec.upto journalApartSpec)

/-- 'pledgelaw19.JournalNil', WHERE WHAT IT READS IS OF BULK AT MOST 1048576: true; the input reads as it did. -/
def journalNilUptoRow : OpenClaim := { program := "ytnmpidmmhmphkaa", sum := "2ce32f2ca2373a48f8ea18af1c889a0fc75809c4438e307f3314a9c6d930c152", func := "pledge/pledgelaw19.JournalNil", spec := "journalNil", inPlace := ["math/bits.Add64"], unfollowed := true, recurses := true, plainKeys := false, apart := false, narrowed := true }
def JournalNilUptoSaid : Prop := journalNilUptoRow.holds Try.pinned (OpenSpec.upto journalNilSpec)

end Rows
end Go.Proofs.Ytnmpidmmhmphkaa
