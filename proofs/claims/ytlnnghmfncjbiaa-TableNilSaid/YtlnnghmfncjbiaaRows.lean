/-
  No cell of these rows narrows 'for every input' (looked for: loops, veiled, ifaces, maps, wideKeys, modest, calm, conditions, laid).
  DERIVED. THE GIVEN ROWS OF THIS SEAT. 6 by the template 'for every input the law returns true; each argument reads behind the call as it read before'; 0 by the template 'total and deterministic' (their statements: YtlnnghmfncjbiaaTotals.lean).
  GIVEN WITH THE SEED: the statements are not yours to turn. If you find one false, say at which input.
  Laid BY PROGRAM, IN A SANDBOX (cutbox-rows.mjs): the forced cells as the released guide's own fill.sh prints them over the translation 48b52367c3756f5c… (all of the seat's roots in one cut). By AI agents, Wed Nov 11 2026. No macro, syntax, notation, axiom, sorry.
-/
import Derived.Test.YtlnnghmfncjbiaaChecked
import GoSem.Claim
import GoSem.ClaimJoined
import GoSem.ClaimMapViews
import Derived.JoinedTies
import Derived.KernelRfl
namespace Go.Proofs.Ytlnnghmfncjbiaa
/- THE CELL 'sum', in the pinned program and in every row, IS THE sha256 OF THE DUMP (.gsa) THAT YtlnnghmfncjbiaaProg.lean LOADS. Nothing in Lean hashes anything: it is a label: what it is worth is what the hold of that sum in a sandbox is worth. -/
noncomputable def Try.pinned : Pinned := { name := "ytlnnghmfncjbiaa", sum := "48b52367c3756f5c06d6dd6948351196d7ec50f74f3f4e392535bf352dc6335d", checked := Try.checked }
namespace Rows
def none {H : Type} : Left H := { results := [], args := [] }

/-- 'pledgelaw05.TablePlays': WHATEVER THE INPUT: true; the input reads as it did. -/
def tablePlaysSpec : ChangeSpec := { name := "tablePlays", fn := fun _ => fun
  | [d1, d2] => { results := [.lit (.bool true)], args := [d1, d2] }
  | _ => none }
def tablePlaysRow : OpenClaim := { program := "ytlnnghmfncjbiaa", sum := "48b52367c3756f5c06d6dd6948351196d7ec50f74f3f4e392535bf352dc6335d", func := "pledge/pledgelaw05.TablePlays", spec := "tablePlays", unfollowed := true, recurses := true, plainKeys := false, apart := false }
def TablePlaysSaid : Prop := tablePlaysRow.holds Try.pinned (OpenSpec.ofChange tablePlaysSpec)

/-- ITS FALSE NEIGHBOUR: 'it returns false'. Refute it at one input. -/
def tablePlaysWrong : ChangeSpec := { name := "tablePlays", fn := fun _ => fun
  | [d1, d2] => { results := [.lit (.bool false)], args := [d1, d2] }
  | _ => none }
def TablePlaysWrongFalsely : Prop := tablePlaysRow.holds Try.pinned (OpenSpec.ofChange tablePlaysWrong)

/-- 'pledgelaw05.TableApart': WHATEVER THE INPUT: true; the input reads as it did. -/
def tableApartSpec : ChangeSpec := { name := "tableApart", fn := fun _ => fun
  | [d1, d2] => { results := [.lit (.bool true)], args := [d1, d2] }
  | _ => none }
def tableApartRow : OpenClaim := { program := "ytlnnghmfncjbiaa", sum := "48b52367c3756f5c06d6dd6948351196d7ec50f74f3f4e392535bf352dc6335d", func := "pledge/pledgelaw05.TableApart", spec := "tableApart", unfollowed := true, recurses := true, plainKeys := false, apart := false }
def TableApartSaid : Prop := tableApartRow.holds Try.pinned (OpenSpec.ofChange tableApartSpec)

/-- ITS FALSE NEIGHBOUR: 'it returns false'. Refute it at one input. -/
def tableApartWrong : ChangeSpec := { name := "tableApart", fn := fun _ => fun
  | [d1, d2] => { results := [.lit (.bool false)], args := [d1, d2] }
  | _ => none }
def TableApartWrongFalsely : Prop := tableApartRow.holds Try.pinned (OpenSpec.ofChange tableApartWrong)

/-- 'pledgelaw05.TableNil': WHATEVER THE INPUT: true; the input reads as it did. -/
def tableNilSpec : ChangeSpec := { name := "tableNil", fn := fun _ => fun
  | [d] => { results := [.lit (.bool true)], args := [d] }
  | _ => none }
def tableNilRow : OpenClaim := { program := "ytlnnghmfncjbiaa", sum := "48b52367c3756f5c06d6dd6948351196d7ec50f74f3f4e392535bf352dc6335d", func := "pledge/pledgelaw05.TableNil", spec := "tableNil", unfollowed := true, recurses := true, plainKeys := false, apart := false }
def TableNilSaid : Prop := tableNilRow.holds Try.pinned (OpenSpec.ofChange tableNilSpec)

/-- ITS FALSE NEIGHBOUR: 'it returns false'. Refute it at one input. -/
def tableNilWrong : ChangeSpec := { name := "tableNil", fn := fun _ => fun
  | [d] => { results := [.lit (.bool false)], args := [d] }
  | _ => none }
def TableNilWrongFalsely : Prop := tableNilRow.holds Try.pinned (OpenSpec.ofChange tableNilWrong)

/-- 'pledgelaw18.FundTries': WHATEVER THE INPUT: true; the input reads as it did. -/
def fundTriesSpec : ChangeSpec := { name := "fundTries", fn := fun _ => fun
  | [d1, d2] => { results := [.lit (.bool true)], args := [d1, d2] }
  | _ => none }
def fundTriesRow : OpenClaim := { program := "ytlnnghmfncjbiaa", sum := "48b52367c3756f5c06d6dd6948351196d7ec50f74f3f4e392535bf352dc6335d", func := "pledge/pledgelaw18.FundTries", spec := "fundTries", unfollowed := true, recurses := true, plainKeys := false, apart := false }
def FundTriesSaid : Prop := fundTriesRow.holds Try.pinned (OpenSpec.ofChange fundTriesSpec)

/-- ITS FALSE NEIGHBOUR: 'it returns false'. Refute it at one input. -/
def fundTriesWrong : ChangeSpec := { name := "fundTries", fn := fun _ => fun
  | [d1, d2] => { results := [.lit (.bool false)], args := [d1, d2] }
  | _ => none }
def FundTriesWrongFalsely : Prop := fundTriesRow.holds Try.pinned (OpenSpec.ofChange fundTriesWrong)

/-- 'pledgelaw18.FundSets': WHATEVER THE INPUT: true; the input reads as it did. -/
def fundSetsSpec : ChangeSpec := { name := "fundSets", fn := fun _ => fun
  | [d1, d2, d3] => { results := [.lit (.bool true)], args := [d1, d2, d3] }
  | _ => none }
def fundSetsRow : OpenClaim := { program := "ytlnnghmfncjbiaa", sum := "48b52367c3756f5c06d6dd6948351196d7ec50f74f3f4e392535bf352dc6335d", func := "pledge/pledgelaw18.FundSets", spec := "fundSets", unfollowed := true, recurses := true, plainKeys := false, apart := false }
def FundSetsSaid : Prop := fundSetsRow.holds Try.pinned (OpenSpec.ofChange fundSetsSpec)

/-- ITS FALSE NEIGHBOUR: 'it returns false'. Refute it at one input. -/
def fundSetsWrong : ChangeSpec := { name := "fundSets", fn := fun _ => fun
  | [d1, d2, d3] => { results := [.lit (.bool false)], args := [d1, d2, d3] }
  | _ => none }
def FundSetsWrongFalsely : Prop := fundSetsRow.holds Try.pinned (OpenSpec.ofChange fundSetsWrong)

/-- 'pledgelaw18.FundNil': WHATEVER THE INPUT: true; the input reads as it did. -/
def fundNilSpec : ChangeSpec := { name := "fundNil", fn := fun _ => fun
  | [d1, d2] => { results := [.lit (.bool true)], args := [d1, d2] }
  | _ => none }
def fundNilRow : OpenClaim := { program := "ytlnnghmfncjbiaa", sum := "48b52367c3756f5c06d6dd6948351196d7ec50f74f3f4e392535bf352dc6335d", func := "pledge/pledgelaw18.FundNil", spec := "fundNil", unfollowed := true, recurses := true, plainKeys := false, apart := false }
def FundNilSaid : Prop := fundNilRow.holds Try.pinned (OpenSpec.ofChange fundNilSpec)

/-- ITS FALSE NEIGHBOUR: 'it returns false'. Refute it at one input. -/
def fundNilWrong : ChangeSpec := { name := "fundNil", fn := fun _ => fun
  | [d1, d2] => { results := [.lit (.bool false)], args := [d1, d2] }
  | _ => none }
def FundNilWrongFalsely : Prop := fundNilRow.holds Try.pinned (OpenSpec.ofChange fundNilWrong)

/- THE SECOND FORM. 'bulk': how many values and letters a reading holds, each counted each time it is reached (what is shared counts as often as it is met; a slice's spare places count too). A statement '..UptoSaid' is the law's where the arguments, and the package variables that the reading takes, are together of bulk at most 1048576: NARROWER than '..Said'. Prove '..Said' where nothing that the law and all that it calls make is longer than what came in: it says more and counts as full. Else prove '..UptoSaid'. A law counts once. -/
mutual
def uptoBulk {H : Type} : DataW H → Nat
  | .lit (.string bytes) => bytes.length + 1
  | .lit _ => 1
  | .nil => 1
  | .ptr d => uptoBulk d + 1
  | .slice elems spare => uptoBulkAll elems + uptoBulkAll spare + 1
  | .agg parts => uptoBulkAll parts + 1
  | .iface _ d => uptoBulk d + 1
  | .map entries => uptoBulkEntries entries + 1
  | .held _ => 1
def uptoBulkAll {H : Type} : List (DataW H) → Nat
  | [] => 0
  | d :: r => uptoBulk d + uptoBulkAll r
def uptoBulkEntries {H : Type} : List (Lit × DataW H) → Nat
  | [] => 0
  | x :: r => uptoBulkEntry x + uptoBulkEntries r
def uptoBulkEntry {H : Type} : Lit × DataW H → Nat
  | (.string bytes, d) => bytes.length + uptoBulk d + 1
  | (_, d) => uptoBulk d + 1
 end
def uptoSmall : (H : Type) → List (DataW H) → Bool := fun _ ds => decide (uptoBulkAll ds ≤ 1048576)
def OpenSpec.upto (s : _root_.Go.ChangeSpec) : _root_.Go.OpenSpec := { _root_.Go.OpenSpec.ofChange s with cond := some uptoSmall }

/-- 'pledgelaw05.TablePlays', WHERE WHAT IT READS IS OF BULK AT MOST 1048576: true; the input reads as it did. -/
def tablePlaysUptoRow : OpenClaim := { program := "ytlnnghmfncjbiaa", sum := "48b52367c3756f5c06d6dd6948351196d7ec50f74f3f4e392535bf352dc6335d", func := "pledge/pledgelaw05.TablePlays", spec := "tablePlays", unfollowed := true, recurses := true, plainKeys := false, apart := false, narrowed := true }
def TablePlaysUptoSaid : Prop := tablePlaysUptoRow.holds Try.pinned (OpenSpec.upto tablePlaysSpec)

/-- 'pledgelaw05.TableApart', WHERE WHAT IT READS IS OF BULK AT MOST 1048576: true; the input reads as it did. -/
def tableApartUptoRow : OpenClaim := { program := "ytlnnghmfncjbiaa", sum := "48b52367c3756f5c06d6dd6948351196d7ec50f74f3f4e392535bf352dc6335d", func := "pledge/pledgelaw05.TableApart", spec := "tableApart", unfollowed := true, recurses := true, plainKeys := false, apart := false, narrowed := true }
def TableApartUptoSaid : Prop := tableApartUptoRow.holds Try.pinned (OpenSpec.upto tableApartSpec)

/-- 'pledgelaw05.TableNil', WHERE WHAT IT READS IS OF BULK AT MOST 1048576: true; the input reads as it did. -/
def tableNilUptoRow : OpenClaim := { program := "ytlnnghmfncjbiaa", sum := "48b52367c3756f5c06d6dd6948351196d7ec50f74f3f4e392535bf352dc6335d", func := "pledge/pledgelaw05.TableNil", spec := "tableNil", unfollowed := true, recurses := true, plainKeys := false, apart := false, narrowed := true }
def TableNilUptoSaid : Prop := tableNilUptoRow.holds Try.pinned (OpenSpec.upto tableNilSpec)

/-- 'pledgelaw18.FundTries', WHERE WHAT IT READS IS OF BULK AT MOST 1048576: true; the input reads as it did. -/
def fundTriesUptoRow : OpenClaim := { program := "ytlnnghmfncjbiaa", sum := "48b52367c3756f5c06d6dd6948351196d7ec50f74f3f4e392535bf352dc6335d", func := "pledge/pledgelaw18.FundTries", spec := "fundTries", unfollowed := true, recurses := true, plainKeys := false, apart := false, narrowed := true }
def FundTriesUptoSaid : Prop := fundTriesUptoRow.holds Try.pinned (OpenSpec.upto fundTriesSpec)

/-- 'pledgelaw18.FundSets', WHERE WHAT IT READS IS OF BULK AT MOST 1048576: true; the input reads as it did. -/
def fundSetsUptoRow : OpenClaim := { program := "ytlnnghmfncjbiaa", sum := "48b52367c3756f5c06d6dd6948351196d7ec50f74f3f4e392535bf352dc6335d", func := "pledge/pledgelaw18.FundSets", spec := "fundSets", unfollowed := true, recurses := true, plainKeys := false, apart := false, narrowed := true }
def FundSetsUptoSaid : Prop := fundSetsUptoRow.holds Try.pinned (OpenSpec.upto fundSetsSpec)

/-- 'pledgelaw18.FundNil', WHERE WHAT IT READS IS OF BULK AT MOST 1048576: true; the input reads as it did. -/
def fundNilUptoRow : OpenClaim := { program := "ytlnnghmfncjbiaa", sum := "48b52367c3756f5c06d6dd6948351196d7ec50f74f3f4e392535bf352dc6335d", func := "pledge/pledgelaw18.FundNil", spec := "fundNil", unfollowed := true, recurses := true, plainKeys := false, apart := false, narrowed := true }
def FundNilUptoSaid : Prop := fundNilUptoRow.holds Try.pinned (OpenSpec.upto fundNilSpec)

end Rows
end Go.Proofs.Ytlnnghmfncjbiaa
