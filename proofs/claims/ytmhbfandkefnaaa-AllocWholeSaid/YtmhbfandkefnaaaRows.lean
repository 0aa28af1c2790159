/-
  No cell of these rows narrows 'for every input' (looked for: loops, veiled, ifaces, maps, wideKeys, modest, calm, conditions, laid).
  DERIVED. THE GIVEN ROWS OF THIS SEAT. 15 by the template 'for every input the law returns true; each argument reads behind the call as it read before'; 0 by the template 'total and deterministic' (their statements: YtmhbfandkefnaaaTotals.lean).
  GIVEN WITH THE SEED: the statements are not yours to turn. If you find one false, say at which input.
  Laid BY PROGRAM, IN A SANDBOX (cutbox-rows.mjs): the forced cells as the released guide's own fill.sh prints them over the translation 4f56016baf703d0e… (all of the seat's roots in one cut). By AI agents, Wed Nov 11 2026. No macro, syntax, notation, axiom, sorry.
-/
import Derived.Test.YtmhbfandkefnaaaChecked
import GoSem.Claim
import GoSem.ClaimJoined
import GoSem.ClaimMapViews
import Derived.JoinedTies
import Derived.KernelRfl
namespace Go.Proofs.Ytmhbfandkefnaaa
/- THE CELL 'sum', in the pinned program and in every row, IS THE sha256 OF THE DUMP (.gsa) THAT YtmhbfandkefnaaaProg.lean LOADS. Nothing in Lean hashes anything: it is a label: what it is worth is what the hold of that sum in a sandbox is worth. -/
noncomputable def Try.pinned : Pinned := { name := "ytmhbfandkefnaaa", sum := "4f56016baf703d0e8c95ed609278e8256e9641a1107b50aeb17fd438b1f07f1a", checked := Try.checked }
namespace Rows
def none {H : Type} : Left H := { results := [], args := [] }

/-- 'pledgelaw33.AllocSplits': WHATEVER THE INPUT: true; the input reads as it did. -/
def allocSplitsSpec : ChangeSpec := { name := "allocSplits", fn := fun _ => fun
  | [d1, d2] => { results := [.lit (.bool true)], args := [d1, d2] }
  | _ => none }
def allocSplitsRow : OpenClaim := { program := "ytmhbfandkefnaaa", sum := "4f56016baf703d0e8c95ed609278e8256e9641a1107b50aeb17fd438b1f07f1a", func := "pledge/pledgelaw33.AllocSplits", spec := "allocSplits", apart := false }
def AllocSplitsSaid : Prop := allocSplitsRow.holds Try.pinned (OpenSpec.ofChange allocSplitsSpec)

/-- ITS FALSE NEIGHBOUR: 'it returns false'. Refute it at one input. -/
def allocSplitsWrong : ChangeSpec := { name := "allocSplits", fn := fun _ => fun
  | [d1, d2] => { results := [.lit (.bool false)], args := [d1, d2] }
  | _ => none }
def AllocSplitsWrongFalsely : Prop := allocSplitsRow.holds Try.pinned (OpenSpec.ofChange allocSplitsWrong)

/-- 'pledgelaw33.AllocPrio': WHATEVER THE INPUT: true; the input reads as it did. -/
def allocPrioSpec : ChangeSpec := { name := "allocPrio", fn := fun _ => fun
  | [d1, d2] => { results := [.lit (.bool true)], args := [d1, d2] }
  | _ => none }
def allocPrioRow : OpenClaim := { program := "ytmhbfandkefnaaa", sum := "4f56016baf703d0e8c95ed609278e8256e9641a1107b50aeb17fd438b1f07f1a", func := "pledge/pledgelaw33.AllocPrio", spec := "allocPrio", inPlace := ["math/bits.Add64"], apart := false }
def AllocPrioSaid : Prop := allocPrioRow.holds Try.pinned (OpenSpec.ofChange allocPrioSpec)

/-- ITS FALSE NEIGHBOUR: 'it returns false'. Refute it at one input. -/
def allocPrioWrong : ChangeSpec := { name := "allocPrio", fn := fun _ => fun
  | [d1, d2] => { results := [.lit (.bool false)], args := [d1, d2] }
  | _ => none }
def AllocPrioWrongFalsely : Prop := allocPrioRow.holds Try.pinned (OpenSpec.ofChange allocPrioWrong)

/-- 'pledgelaw12.StepSame': WHATEVER THE INPUT: true; the input reads as it did. -/
def stepSameSpec : ChangeSpec := { name := "stepSame", fn := fun _ => fun
  | [d1, d2] => { results := [.lit (.bool true)], args := [d1, d2] }
  | _ => none }
def stepSameRow : OpenClaim := { program := "ytmhbfandkefnaaa", sum := "4f56016baf703d0e8c95ed609278e8256e9641a1107b50aeb17fd438b1f07f1a", func := "pledge/pledgelaw12.StepSame", spec := "stepSame", unfollowed := true, recurses := true, apart := false }
def StepSameSaid : Prop := stepSameRow.holds Try.pinned (OpenSpec.ofChange stepSameSpec)

/-- ITS FALSE NEIGHBOUR: 'it returns false'. Refute it at one input. -/
def stepSameWrong : ChangeSpec := { name := "stepSame", fn := fun _ => fun
  | [d1, d2] => { results := [.lit (.bool false)], args := [d1, d2] }
  | _ => none }
def StepSameWrongFalsely : Prop := stepSameRow.holds Try.pinned (OpenSpec.ofChange stepSameWrong)

/-- 'pledgelaw12.StepGood': WHATEVER THE INPUT: true; the input reads as it did. -/
def stepGoodSpec : ChangeSpec := { name := "stepGood", fn := fun _ => fun
  | [d1, d2, d3] => { results := [.lit (.bool true)], args := [d1, d2, d3] }
  | _ => none }
def stepGoodRow : OpenClaim := { program := "ytmhbfandkefnaaa", sum := "4f56016baf703d0e8c95ed609278e8256e9641a1107b50aeb17fd438b1f07f1a", func := "pledge/pledgelaw12.StepGood", spec := "stepGood", unfollowed := true, recurses := true, apart := false }
def StepGoodSaid : Prop := stepGoodRow.holds Try.pinned (OpenSpec.ofChange stepGoodSpec)

/-- ITS FALSE NEIGHBOUR: 'it returns false'. Refute it at one input. -/
def stepGoodWrong : ChangeSpec := { name := "stepGood", fn := fun _ => fun
  | [d1, d2, d3] => { results := [.lit (.bool false)], args := [d1, d2, d3] }
  | _ => none }
def StepGoodWrongFalsely : Prop := stepGoodRow.holds Try.pinned (OpenSpec.ofChange stepGoodWrong)

/-- 'pledgelaw12.StepDoes': WHATEVER THE INPUT: true; the input reads as it did. -/
def stepDoesSpec : ChangeSpec := { name := "stepDoes", fn := fun _ => fun
  | [d] => { results := [.lit (.bool true)], args := [d] }
  | _ => none }
def stepDoesRow : OpenClaim := { program := "ytmhbfandkefnaaa", sum := "4f56016baf703d0e8c95ed609278e8256e9641a1107b50aeb17fd438b1f07f1a", func := "pledge/pledgelaw12.StepDoes", spec := "stepDoes", unfollowed := true, recurses := true, apart := false }
def StepDoesSaid : Prop := stepDoesRow.holds Try.pinned (OpenSpec.ofChange stepDoesSpec)

/-- ITS FALSE NEIGHBOUR: 'it returns false'. Refute it at one input. -/
def stepDoesWrong : ChangeSpec := { name := "stepDoes", fn := fun _ => fun
  | [d] => { results := [.lit (.bool false)], args := [d] }
  | _ => none }
def StepDoesWrongFalsely : Prop := stepDoesRow.holds Try.pinned (OpenSpec.ofChange stepDoesWrong)

/-- 'pledgelaw22.OrderAsks': WHATEVER THE INPUT: true; the input reads as it did. -/
def orderAsksSpec : ChangeSpec := { name := "orderAsks", fn := fun _ => fun
  | [d1, d2, d3] => { results := [.lit (.bool true)], args := [d1, d2, d3] }
  | _ => none }
def orderAsksRow : OpenClaim := { program := "ytmhbfandkefnaaa", sum := "4f56016baf703d0e8c95ed609278e8256e9641a1107b50aeb17fd438b1f07f1a", func := "pledge/pledgelaw22.OrderAsks", spec := "orderAsks", inPlace := ["math/bits.Add64"], recurses := true, apart := false }
def OrderAsksSaid : Prop := orderAsksRow.holds Try.pinned (OpenSpec.ofChange orderAsksSpec)

/-- ITS FALSE NEIGHBOUR: 'it returns false'. Refute it at one input. -/
def orderAsksWrong : ChangeSpec := { name := "orderAsks", fn := fun _ => fun
  | [d1, d2, d3] => { results := [.lit (.bool false)], args := [d1, d2, d3] }
  | _ => none }
def OrderAsksWrongFalsely : Prop := orderAsksRow.holds Try.pinned (OpenSpec.ofChange orderAsksWrong)

/-- 'pledgelaw33.AllocPlans': WHATEVER THE INPUT: true; the input reads as it did. -/
def allocPlansSpec : ChangeSpec := { name := "allocPlans", fn := fun _ => fun
  | [d1, d2, d3] => { results := [.lit (.bool true)], args := [d1, d2, d3] }
  | _ => none }
def allocPlansRow : OpenClaim := { program := "ytmhbfandkefnaaa", sum := "4f56016baf703d0e8c95ed609278e8256e9641a1107b50aeb17fd438b1f07f1a", func := "pledge/pledgelaw33.AllocPlans", spec := "allocPlans", inPlace := ["math/bits.Add64"], apart := false }
def AllocPlansSaid : Prop := allocPlansRow.holds Try.pinned (OpenSpec.ofChange allocPlansSpec)

/-- ITS FALSE NEIGHBOUR: 'it returns false'. Refute it at one input. -/
def allocPlansWrong : ChangeSpec := { name := "allocPlans", fn := fun _ => fun
  | [d1, d2, d3] => { results := [.lit (.bool false)], args := [d1, d2, d3] }
  | _ => none }
def AllocPlansWrongFalsely : Prop := allocPlansRow.holds Try.pinned (OpenSpec.ofChange allocPlansWrong)

/-- 'pledgelaw33.AllocWhole': WHATEVER THE INPUT: true; the input reads as it did. -/
def allocWholeSpec : ChangeSpec := { name := "allocWhole", fn := fun _ => fun
  | [d1, d2, d3] => { results := [.lit (.bool true)], args := [d1, d2, d3] }
  | _ => none }
def allocWholeRow : OpenClaim := { program := "ytmhbfandkefnaaa", sum := "4f56016baf703d0e8c95ed609278e8256e9641a1107b50aeb17fd438b1f07f1a", func := "pledge/pledgelaw33.AllocWhole", spec := "allocWhole", inPlace := ["math/bits.Add64"], apart := false }
def AllocWholeSaid : Prop := allocWholeRow.holds Try.pinned (OpenSpec.ofChange allocWholeSpec)

/-- ITS FALSE NEIGHBOUR: 'it returns false'. Refute it at one input. -/
def allocWholeWrong : ChangeSpec := { name := "allocWhole", fn := fun _ => fun
  | [d1, d2, d3] => { results := [.lit (.bool false)], args := [d1, d2, d3] }
  | _ => none }
def AllocWholeWrongFalsely : Prop := allocWholeRow.holds Try.pinned (OpenSpec.ofChange allocWholeWrong)

/-- 'pledgelaw22.OrderPlaces': WHATEVER THE INPUT: true; the input reads as it did. -/
def orderPlacesSpec : ChangeSpec := { name := "orderPlaces", fn := fun _ => fun
  | [d] => { results := [.lit (.bool true)], args := [d] }
  | _ => none }
def orderPlacesRow : OpenClaim := { program := "ytmhbfandkefnaaa", sum := "4f56016baf703d0e8c95ed609278e8256e9641a1107b50aeb17fd438b1f07f1a", func := "pledge/pledgelaw22.OrderPlaces", spec := "orderPlaces", inPlace := ["math/bits.Add64"], recurses := true, apart := false }
def OrderPlacesSaid : Prop := orderPlacesRow.holds Try.pinned (OpenSpec.ofChange orderPlacesSpec)

/-- ITS FALSE NEIGHBOUR: 'it returns false'. Refute it at one input. -/
def orderPlacesWrong : ChangeSpec := { name := "orderPlaces", fn := fun _ => fun
  | [d] => { results := [.lit (.bool false)], args := [d] }
  | _ => none }
def OrderPlacesWrongFalsely : Prop := orderPlacesRow.holds Try.pinned (OpenSpec.ofChange orderPlacesWrong)

/-- 'pledgelaw22.OrderDoes': WHATEVER THE INPUT: true; the input reads as it did. -/
def orderDoesSpec : ChangeSpec := { name := "orderDoes", fn := fun _ => fun
  | [d1, d2, d3] => { results := [.lit (.bool true)], args := [d1, d2, d3] }
  | _ => none }
def orderDoesRow : OpenClaim := { program := "ytmhbfandkefnaaa", sum := "4f56016baf703d0e8c95ed609278e8256e9641a1107b50aeb17fd438b1f07f1a", func := "pledge/pledgelaw22.OrderDoes", spec := "orderDoes", inPlace := ["math/bits.Add64"], recurses := true, apart := false }
def OrderDoesSaid : Prop := orderDoesRow.holds Try.pinned (OpenSpec.ofChange orderDoesSpec)

/-- ITS FALSE NEIGHBOUR: 'it returns false'. Refute it at one input. -/
def orderDoesWrong : ChangeSpec := { name := "orderDoes", fn := fun _ => fun
  | [d1, d2, d3] => { results := [.lit (.bool false)], args := [d1, d2, d3] }
  | _ => none }
def OrderDoesWrongFalsely : Prop := orderDoesRow.holds Try.pinned (OpenSpec.ofChange orderDoesWrong)

/-- 'pledgelaw13.ProgSteps': WHATEVER THE INPUT: true; the input reads as it did. -/
def progStepsSpec : ChangeSpec := { name := "progSteps", fn := fun _ => fun
  | [d] => { results := [.lit (.bool true)], args := [d] }
  | _ => none }
def progStepsRow : OpenClaim := { program := "ytmhbfandkefnaaa", sum := "4f56016baf703d0e8c95ed609278e8256e9641a1107b50aeb17fd438b1f07f1a", func := "pledge/pledgelaw13.ProgSteps", spec := "progSteps", inPlace := ["math/bits.Add64"], recurses := true, apart := false }
def ProgStepsSaid : Prop := progStepsRow.holds Try.pinned (OpenSpec.ofChange progStepsSpec)

/-- ITS FALSE NEIGHBOUR: 'it returns false'. Refute it at one input. -/
def progStepsWrong : ChangeSpec := { name := "progSteps", fn := fun _ => fun
  | [d] => { results := [.lit (.bool false)], args := [d] }
  | _ => none }
def ProgStepsWrongFalsely : Prop := progStepsRow.holds Try.pinned (OpenSpec.ofChange progStepsWrong)

/-- 'pledgelaw22.OrderKeeps': WHATEVER THE INPUT: true; the input reads as it did. -/
def orderKeepsSpec : ChangeSpec := { name := "orderKeeps", fn := fun _ => fun
  | [d1, d2, d3] => { results := [.lit (.bool true)], args := [d1, d2, d3] }
  | _ => none }
def orderKeepsRow : OpenClaim := { program := "ytmhbfandkefnaaa", sum := "4f56016baf703d0e8c95ed609278e8256e9641a1107b50aeb17fd438b1f07f1a", func := "pledge/pledgelaw22.OrderKeeps", spec := "orderKeeps", inPlace := ["math/bits.Add64"], recurses := true, apart := false }
def OrderKeepsSaid : Prop := orderKeepsRow.holds Try.pinned (OpenSpec.ofChange orderKeepsSpec)

/-- ITS FALSE NEIGHBOUR: 'it returns false'. Refute it at one input. -/
def orderKeepsWrong : ChangeSpec := { name := "orderKeeps", fn := fun _ => fun
  | [d1, d2, d3] => { results := [.lit (.bool false)], args := [d1, d2, d3] }
  | _ => none }
def OrderKeepsWrongFalsely : Prop := orderKeepsRow.holds Try.pinned (OpenSpec.ofChange orderKeepsWrong)

/-- 'pledgelaw13.ProgGood': WHATEVER THE INPUT: true; the input reads as it did. -/
def progGoodSpec : ChangeSpec := { name := "progGood", fn := fun _ => fun
  | [d1, d2, d3] => { results := [.lit (.bool true)], args := [d1, d2, d3] }
  | _ => none }
def progGoodRow : OpenClaim := { program := "ytmhbfandkefnaaa", sum := "4f56016baf703d0e8c95ed609278e8256e9641a1107b50aeb17fd438b1f07f1a", func := "pledge/pledgelaw13.ProgGood", spec := "progGood", inPlace := ["math/bits.Add64"], recurses := true, apart := false }
def ProgGoodSaid : Prop := progGoodRow.holds Try.pinned (OpenSpec.ofChange progGoodSpec)

/-- ITS FALSE NEIGHBOUR: 'it returns false'. Refute it at one input. -/
def progGoodWrong : ChangeSpec := { name := "progGood", fn := fun _ => fun
  | [d1, d2, d3] => { results := [.lit (.bool false)], args := [d1, d2, d3] }
  | _ => none }
def ProgGoodWrongFalsely : Prop := progGoodRow.holds Try.pinned (OpenSpec.ofChange progGoodWrong)

/-- 'pledgelaw13.ProgBytes': WHATEVER THE INPUT: true; the input reads as it did. -/
def progBytesSpec : ChangeSpec := { name := "progBytes", fn := fun _ => fun
  | [d1, d2] => { results := [.lit (.bool true)], args := [d1, d2] }
  | _ => none }
def progBytesRow : OpenClaim := { program := "ytmhbfandkefnaaa", sum := "4f56016baf703d0e8c95ed609278e8256e9641a1107b50aeb17fd438b1f07f1a", func := "pledge/pledgelaw13.ProgBytes", spec := "progBytes", inPlace := ["math/bits.Add64"], unfollowed := true, recurses := true, apart := false }
def ProgBytesSaid : Prop := progBytesRow.holds Try.pinned (OpenSpec.ofChange progBytesSpec)

/-- ITS FALSE NEIGHBOUR: 'it returns false'. Refute it at one input. -/
def progBytesWrong : ChangeSpec := { name := "progBytes", fn := fun _ => fun
  | [d1, d2] => { results := [.lit (.bool false)], args := [d1, d2] }
  | _ => none }
def ProgBytesWrongFalsely : Prop := progBytesRow.holds Try.pinned (OpenSpec.ofChange progBytesWrong)

/-- 'pledgelaw13.ProgBack': WHATEVER THE INPUT: true; the input reads as it did. -/
def progBackSpec : ChangeSpec := { name := "progBack", fn := fun _ => fun
  | [d1, d2] => { results := [.lit (.bool true)], args := [d1, d2] }
  | _ => none }
def progBackRow : OpenClaim := { program := "ytmhbfandkefnaaa", sum := "4f56016baf703d0e8c95ed609278e8256e9641a1107b50aeb17fd438b1f07f1a", func := "pledge/pledgelaw13.ProgBack", spec := "progBack", inPlace := ["math/bits.Add64"], unfollowed := true, recurses := true, apart := false }
def ProgBackSaid : Prop := progBackRow.holds Try.pinned (OpenSpec.ofChange progBackSpec)

/-- ITS FALSE NEIGHBOUR: 'it returns false'. Refute it at one input. -/
def progBackWrong : ChangeSpec := { name := "progBack", fn := fun _ => fun
  | [d1, d2] => { results := [.lit (.bool false)], args := [d1, d2] }
  | _ => none }
def ProgBackWrongFalsely : Prop := progBackRow.holds Try.pinned (OpenSpec.ofChange progBackWrong)

/- THE SECOND FORM. 'bulk': how many values and letters a reading holds, each counted each time it is reached (what is shared counts as often as it is met; a slice's spare places count too). A statement '..UptoSaid' is the law's where the arguments, and the package variables that the reading takes, are together of bulk at most 1048576: NARROWER than '..Said'. Prove '..Said' where nothing that the law and all that it calls make is longer than what came in: it says more and counts as full. Else prove '..UptoSaid'. A law counts once. -/
mutual
def uptoBulk {H : Type} : DataW H → Nat
  | .lit (.string bytes) => bytes.length + 1
  | .lit _ => 1
  | .nil => 1
  | .ptr d => uptoBulk d + 1
  | .slice elems spare => uptoBulkAll elems + uptoBulkAll spare + 1
  | .agg parts => uptoBulkAll parts + 1
  | .iface _ d => uptoBulk d + 1
  | .map entries => uptoBulkEntries entries + 1
  | .held _ => 1
def uptoBulkAll {H : Type} : List (DataW H) → Nat
  | [] => 0
  | d :: r => uptoBulk d + uptoBulkAll r
def uptoBulkEntries {H : Type} : List (Lit × DataW H) → Nat
  | [] => 0
  | x :: r => uptoBulkEntry x + uptoBulkEntries r
def uptoBulkEntry {H : Type} : Lit × DataW H → Nat
  | (.string bytes, d) => bytes.length + uptoBulk d + 1
  | (_, d) => uptoBulk d + 1
 end
def uptoSmall : (H : Type) → List (DataW H) → Bool := fun _ ds => decide (uptoBulkAll ds ≤ 1048576)
def OpenSpec.upto (s : _root_.Go.ChangeSpec) : _root_.Go.OpenSpec := { _root_.Go.OpenSpec.ofChange s with cond := some uptoSmall }

/-- 'pledgelaw33.AllocSplits', WHERE WHAT IT READS IS OF BULK AT MOST 1048576: true; the input reads as it did. -/
def allocSplitsUptoRow : OpenClaim := { program := "ytmhbfandkefnaaa", sum := "4f56016baf703d0e8c95ed609278e8256e9641a1107b50aeb17fd438b1f07f1a", func := "pledge/pledgelaw33.AllocSplits", spec := "allocSplits", apart := false, narrowed := true }
def AllocSplitsUptoSaid : Prop := allocSplitsUptoRow.holds Try.pinned (OpenSpec.upto allocSplitsSpec)

/-- 'pledgelaw33.AllocPrio', WHERE WHAT IT READS IS OF BULK AT MOST 1048576: true; the input reads as it did. -/
def allocPrioUptoRow : OpenClaim := { program := "ytmhbfandkefnaaa", sum := "4f56016baf703d0e8c95ed609278e8256e9641a1107b50aeb17fd438b1f07f1a", func := "pledge/pledgelaw33.AllocPrio", spec := "allocPrio", inPlace := ["math/bits.Add64"], apart := false, narrowed := true }
def AllocPrioUptoSaid : Prop := allocPrioUptoRow.holds Try.pinned (OpenSpec.upto allocPrioSpec)

/-- 'pledgelaw12.StepSame', WHERE WHAT IT READS IS OF BULK AT MOST 1048576: true; the input reads as it did. -/
def stepSameUptoRow : OpenClaim := { program := "ytmhbfandkefnaaa", sum := "4f56016baf703d0e8c95ed609278e8256e9641a1107b50aeb17fd438b1f07f1a", func := "pledge/pledgelaw12.StepSame", spec := "stepSame", unfollowed := true, recurses := true, apart := false, narrowed := true }
def StepSameUptoSaid : Prop := stepSameUptoRow.holds Try.pinned (OpenSpec.upto stepSameSpec)

/-- 'pledgelaw12.StepGood', WHERE WHAT IT READS IS OF BULK AT MOST 1048576: true; the input reads as it did. -/
def stepGoodUptoRow : OpenClaim := { program := "ytmhbfandkefnaaa", sum := "4f56016baf703d0e8c95ed609278e8256e9641a1107b50aeb17fd438b1f07f1a", func := "pledge/pledgelaw12.StepGood", spec := "stepGood", unfollowed := true, recurses := true, apart := false, narrowed := true }
def StepGoodUptoSaid : Prop := stepGoodUptoRow.holds Try.pinned (OpenSpec.upto stepGoodSpec)

/-- 'pledgelaw12.StepDoes', WHERE WHAT IT READS IS OF BULK AT MOST 1048576: true; the input reads as it did. -/
def stepDoesUptoRow : OpenClaim := { program := "ytmhbfandkefnaaa", sum := "4f56016baf703d0e8c95ed609278e8256e9641a1107b50aeb17fd438b1f07f1a", func := "pledge/pledgelaw12.StepDoes", spec := "stepDoes", unfollowed := true, recurses := true, apart := false, narrowed := true }
def StepDoesUptoSaid : Prop := stepDoesUptoRow.holds Try.pinned (OpenSpec.upto stepDoesSpec)

/-- 'pledgelaw22.OrderAsks', WHERE WHAT IT READS IS OF BULK AT MOST 1048576: true; the input reads as it did. -/
def orderAsksUptoRow : OpenClaim := { program := "ytmhbfandkefnaaa", sum := "4f56016baf703d0e8c95ed609278e8256e9641a1107b50aeb17fd438b1f07f1a", func := "pledge/pledgelaw22.OrderAsks", spec := "orderAsks", inPlace := ["math/bits.Add64"], recurses := true, apart := false, narrowed := true }
def OrderAsksUptoSaid : Prop := orderAsksUptoRow.holds Try.pinned (OpenSpec.upto orderAsksSpec)

/-- 'pledgelaw33.AllocPlans', WHERE WHAT IT READS IS OF BULK AT MOST 1048576: true; the input reads as it did. -/
def allocPlansUptoRow : OpenClaim := { program := "ytmhbfandkefnaaa", sum := "4f56016baf703d0e8c95ed609278e8256e9641a1107b50aeb17fd438b1f07f1a", func := "pledge/pledgelaw33.AllocPlans", spec := "allocPlans", inPlace := ["math/bits.Add64"], apart := false, narrowed := true }
def AllocPlansUptoSaid : Prop := allocPlansUptoRow.holds Try.pinned (OpenSpec.upto allocPlansSpec)

/-- 'pledgelaw33.AllocWhole', WHERE WHAT IT READS IS OF BULK AT MOST 1048576: true; the input reads as it did. -/
def allocWholeUptoRow : OpenClaim := { program := "ytmhbfandkefnaaa", sum := "4f56016baf703d0e8c95ed609278e8256e9641a1107b50aeb17fd438b1f07f1a", func := "pledge/pledgelaw33.AllocWhole", spec := "allocWhole", inPlace := ["math/bits.Add64"], apart := false, narrowed := true }
def AllocWholeUptoSaid : Prop := allocWholeUptoRow.holds Try.pinned (OpenSpec.upto allocWholeSpec)

/-- 'pledgelaw22.OrderPlaces', WHERE WHAT IT READS IS OF BULK AT MOST 1048576: true; the input reads as it did. -/
def orderPlacesUptoRow : OpenClaim := { program := "ytmhbfandkefnaaa", sum := "4f56016baf703d0e8c95ed609278e8256e9641a1107b50aeb17fd438b1f07f1a", func := "pledge/pledgelaw22.OrderPlaces", spec := "orderPlaces", inPlace := ["math/bits.Add64"], recurses := true, apart := false, narrowed := true }
def OrderPlacesUptoSaid : Prop := orderPlacesUptoRow.holds Try.pinned (OpenSpec.upto orderPlacesSpec)

/-- 'pledgelaw22.OrderDoes', WHERE WHAT IT READS IS OF BULK AT MOST 1048576: true; the input reads as it did. -/
def orderDoesUptoRow : OpenClaim := { program := "ytmhbfandkefnaaa", sum := "4f56016baf703d0e8c95ed609278e8256e9641a1107b50aeb17fd438b1f07f1a", func := "pledge/pledgelaw22.OrderDoes", spec := "orderDoes", inPlace := ["math/bits.Add64"], recurses := true, apart := false, narrowed := true }
def OrderDoesUptoSaid : Prop := orderDoesUptoRow.holds Try.pinned (OpenSpec.upto orderDoesSpec)

/-- 'pledgelaw13.ProgSteps', WHERE WHAT IT READS IS OF BULK AT MOST 1048576: true; the input reads as it did. -/
def progStepsUptoRow : OpenClaim := { program := "ytmhbfandkefnaaa", sum := "4f56016baf703d0e8c95ed609278e8256e9641a1107b50aeb17fd438b1f07f1a", func := "pledge/pledgelaw13.ProgSteps", spec := "progSteps", inPlace := ["math/bits.Add64"], recurses := true, apart := false, narrowed := true }
def ProgStepsUptoSaid : Prop := progStepsUptoRow.holds Try.pinned (OpenSpec.upto progStepsSpec)

/-- 'pledgelaw22.OrderKeeps', WHERE WHAT IT READS IS OF BULK AT MOST 1048576: true; the input reads as it did. -/
def orderKeepsUptoRow : OpenClaim := { program := "ytmhbfandkefnaaa", sum := "4f56016baf703d0e8c95ed609278e8256e9641a1107b50aeb17fd438b1f07f1a", func := "pledge/pledgelaw22.OrderKeeps", spec := "orderKeeps", inPlace := ["math/bits.Add64"], recurses := true, apart := false, narrowed := true }
def OrderKeepsUptoSaid : Prop := orderKeepsUptoRow.holds Try.pinned (OpenSpec.upto orderKeepsSpec)

/-- 'pledgelaw13.ProgGood', WHERE WHAT IT READS IS OF BULK AT MOST 1048576: true; the input reads as it did. -/
def progGoodUptoRow : OpenClaim := { program := "ytmhbfandkefnaaa", sum := "4f56016baf703d0e8c95ed609278e8256e9641a1107b50aeb17fd438b1f07f1a", func := "pledge/pledgelaw13.ProgGood", spec := "progGood", inPlace := ["math/bits.Add64"], recurses := true, apart := false, narrowed := true }
def ProgGoodUptoSaid : Prop := progGoodUptoRow.holds Try.pinned (OpenSpec.upto progGoodSpec)

/-- 'pledgelaw13.ProgBytes', WHERE WHAT IT READS IS OF BULK AT MOST 1048576: true; the input reads as it did. -/
def progBytesUptoRow : OpenClaim := { program := "ytmhbfandkefnaaa", sum := "4f56016baf703d0e8c95ed609278e8256e9641a1107b50aeb17fd438b1f07f1a", func := "pledge/pledgelaw13.ProgBytes", spec := "progBytes", inPlace := ["math/bits.Add64"], unfollowed := true, recurses := true, apart := false, narrowed := true }
def ProgBytesUptoSaid : Prop := progBytesUptoRow.holds Try.pinned (OpenSpec.upto progBytesSpec)

/-- 'pledgelaw13.ProgBack', WHERE WHAT IT READS IS OF BULK AT MOST 1048576: true; the input reads as it did. -/
def progBackUptoRow : OpenClaim := { program := "ytmhbfandkefnaaa", sum := "4f56016baf703d0e8c95ed609278e8256e9641a1107b50aeb17fd438b1f07f1a", func := "pledge/pledgelaw13.ProgBack", spec := "progBack", inPlace := ["math/bits.Add64"], unfollowed := true, recurses := true, apart := false, narrowed := true }
def ProgBackUptoSaid : Prop := progBackUptoRow.holds Try.pinned (OpenSpec.upto progBackSpec)

end Rows
end Go.Proofs.Ytmhbfandkefnaaa
