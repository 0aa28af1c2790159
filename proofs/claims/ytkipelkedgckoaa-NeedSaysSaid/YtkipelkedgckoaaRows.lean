/-
  No cell of these rows narrows 'for every input' (looked for: loops, veiled, ifaces, maps, wideKeys, modest, calm, conditions, laid).
  DERIVED. THE GIVEN ROWS OF THIS SEAT. 4 by the template 'for every input the law returns true; each argument reads behind the call as it read before'; 0 by the template 'total and deterministic' (their statements: YtkipelkedgckoaaTotals.lean).
  GIVEN WITH THE SEED: the statements are not yours to turn. If you find one false, say at which input.
  Laid BY PROGRAM, IN A SANDBOX (cutbox-rows.mjs): the forced cells as the released guide's own fill.sh prints them over the translation 9a76468bc2341818… (all of the seat's roots in one cut). By AI agents, Wed Nov 11 2026. No macro, syntax, notation, axiom, sorry.
-/
import Derived.Test.YtkipelkedgckoaaChecked
import GoSem.Claim
import GoSem.ClaimJoined
import GoSem.ClaimMapViews
import Derived.JoinedTies
import Derived.KernelRfl
namespace Go.Proofs.Ytkipelkedgckoaa
/- THE CELL 'sum', in the pinned program and in every row, IS THE sha256 OF THE DUMP (.gsa) THAT YtkipelkedgckoaaProg.lean LOADS. Nothing in Lean hashes anything: it is a label: what it is worth is what the hold of that sum in a sandbox is worth. -/
noncomputable def Try.pinned : Pinned := { name := "ytkipelkedgckoaa", sum := "9a76468bc23418185733f5baf6401457bdb49edc5d4510f4b4fd61ffc937d35e", checked := Try.checked }
namespace Rows
def none {H : Type} : Left H := { results := [], args := [] }

/-- 'pledgelaw20.CourseDoes': WHATEVER THE INPUT: true; the input reads as it did. -/
def courseDoesSpec : ChangeSpec := { name := "courseDoes", fn := fun _ => fun
  | [d1, d2] => { results := [.lit (.bool true)], args := [d1, d2] }
  | _ => none }
def courseDoesRow : OpenClaim := { program := "ytkipelkedgckoaa", sum := "9a76468bc23418185733f5baf6401457bdb49edc5d4510f4b4fd61ffc937d35e", func := "pledge/pledgelaw20.CourseDoes", spec := "courseDoes", inPlace := ["math/bits.Add64"], unfollowed := true, recurses := true, apart := false }
def CourseDoesSaid : Prop := courseDoesRow.holds Try.pinned (OpenSpec.ofChange courseDoesSpec)

/-- ITS FALSE NEIGHBOUR: 'it returns false'. Refute it at one input. -/
def courseDoesWrong : ChangeSpec := { name := "courseDoes", fn := fun _ => fun
  | [d1, d2] => { results := [.lit (.bool false)], args := [d1, d2] }
  | _ => none }
def CourseDoesWrongFalsely : Prop := courseDoesRow.holds Try.pinned (OpenSpec.ofChange courseDoesWrong)

/-- 'pledgelaw20.CourseSame': WHATEVER THE INPUT: true; the input reads as it did. -/
def courseSameSpec : ChangeSpec := { name := "courseSame", fn := fun _ => fun
  | [d1, d2] => { results := [.lit (.bool true)], args := [d1, d2] }
  | _ => none }
def courseSameRow : OpenClaim := { program := "ytkipelkedgckoaa", sum := "9a76468bc23418185733f5baf6401457bdb49edc5d4510f4b4fd61ffc937d35e", func := "pledge/pledgelaw20.CourseSame", spec := "courseSame", inPlace := ["math/bits.Add64"], unfollowed := true, recurses := true, apart := false }
def CourseSameSaid : Prop := courseSameRow.holds Try.pinned (OpenSpec.ofChange courseSameSpec)

/-- ITS FALSE NEIGHBOUR: 'it returns false'. Refute it at one input. -/
def courseSameWrong : ChangeSpec := { name := "courseSame", fn := fun _ => fun
  | [d1, d2] => { results := [.lit (.bool false)], args := [d1, d2] }
  | _ => none }
def CourseSameWrongFalsely : Prop := courseSameRow.holds Try.pinned (OpenSpec.ofChange courseSameWrong)

/-- 'pledgelaw20.CourseNext': WHATEVER THE INPUT: true; the input reads as it did. -/
def courseNextSpec : ChangeSpec := { name := "courseNext", fn := fun _ => fun
  | [d1, d2, d3] => { results := [.lit (.bool true)], args := [d1, d2, d3] }
  | _ => none }
def courseNextRow : OpenClaim := { program := "ytkipelkedgckoaa", sum := "9a76468bc23418185733f5baf6401457bdb49edc5d4510f4b4fd61ffc937d35e", func := "pledge/pledgelaw20.CourseNext", spec := "courseNext", inPlace := ["math/bits.Add64"], unfollowed := true, recurses := true, apart := false }
def CourseNextSaid : Prop := courseNextRow.holds Try.pinned (OpenSpec.ofChange courseNextSpec)

/-- ITS FALSE NEIGHBOUR: 'it returns false'. Refute it at one input. -/
def courseNextWrong : ChangeSpec := { name := "courseNext", fn := fun _ => fun
  | [d1, d2, d3] => { results := [.lit (.bool false)], args := [d1, d2, d3] }
  | _ => none }
def CourseNextWrongFalsely : Prop := courseNextRow.holds Try.pinned (OpenSpec.ofChange courseNextWrong)

/-- 'pledgelaw21.NeedSays': WHATEVER THE INPUT: true; the input reads as it did. -/
def needSaysSpec : ChangeSpec := { name := "needSays", fn := fun _ => fun
  | [d1, d2, d3] => { results := [.lit (.bool true)], args := [d1, d2, d3] }
  | _ => none }
def needSaysRow : OpenClaim := { program := "ytkipelkedgckoaa", sum := "9a76468bc23418185733f5baf6401457bdb49edc5d4510f4b4fd61ffc937d35e", func := "pledge/pledgelaw21.NeedSays", spec := "needSays", inPlace := ["math/bits.Add64"], unfollowed := true, recurses := true, apart := false }
def NeedSaysSaid : Prop := needSaysRow.holds Try.pinned (OpenSpec.ofChange needSaysSpec)

/-- ITS FALSE NEIGHBOUR: 'it returns false'. Refute it at one input. -/
def needSaysWrong : ChangeSpec := { name := "needSays", fn := fun _ => fun
  | [d1, d2, d3] => { results := [.lit (.bool false)], args := [d1, d2, d3] }
  | _ => none }
def NeedSaysWrongFalsely : Prop := needSaysRow.holds Try.pinned (OpenSpec.ofChange needSaysWrong)

/- THE SECOND FORM. 'bulk': how many values and letters a reading holds, each counted each time it is reached (what is shared counts as often as it is met; a slice's spare places count too). A statement '..UptoSaid' is the law's where the arguments, and the package variables that the reading takes, are together of bulk at most 1048576: NARROWER than '..Said'. Prove '..Said' where nothing that the law and all that it calls make is longer than what came in: it says more and counts as full. Else prove '..UptoSaid'. A law counts once. -/
mutual
def uptoBulk {H : Type} : DataW H → Nat
  | .lit (.string bytes) => bytes.length + 1
  | .lit _ => 1
  | .nil => 1
  | .ptr d => uptoBulk d + 1
  | .slice elems spare => uptoBulkAll elems + uptoBulkAll spare + 1
  | .agg parts => uptoBulkAll parts + 1
  | .iface _ d => uptoBulk d + 1
  | .map entries => uptoBulkEntries entries + 1
  | .held _ => 1
def uptoBulkAll {H : Type} : List (DataW H) → Nat
  | [] => 0
  | d :: r => uptoBulk d + uptoBulkAll r
def uptoBulkEntries {H : Type} : List (Lit × DataW H) → Nat
  | [] => 0
  | x :: r => uptoBulkEntry x + uptoBulkEntries r
def uptoBulkEntry {H : Type} : Lit × DataW H → Nat
  | (.string bytes, d) => bytes.length + uptoBulk d + 1
  | (_, d) => uptoBulk d + 1
 end
def uptoSmall : (H : Type) → List (DataW H) → Bool := fun _ ds => decide (uptoBulkAll ds ≤ 1048576)
def OpenSpec.upto (s : _root_.Go.ChangeSpec) : _root_.Go.OpenSpec := { _root_.Go.OpenSpec.ofChange s with cond := some uptoSmall }

/-- 'pledgelaw20.CourseDoes', WHERE WHAT IT READS IS OF BULK AT MOST 1048576: true; the input reads as it did. -/
def courseDoesUptoRow : OpenClaim := { program := "ytkipelkedgckoaa", sum := "9a76468bc23418185733f5baf6401457bdb49edc5d4510f4b4fd61ffc937d35e", func := "pledge/pledgelaw20.CourseDoes", spec := "courseDoes", inPlace := ["math/bits.Add64"], unfollowed := true, recurses := true, apart := false, narrowed := true }
def CourseDoesUptoSaid : Prop := courseDoesUptoRow.holds Try.pinned (OpenSpec.upto courseDoesSpec)

/-- 'pledgelaw20.CourseSame', WHERE WHAT IT READS IS OF BULK AT MOST 1048576: true; the input reads as it did. -/
def courseSameUptoRow : OpenClaim := { program := "ytkipelkedgckoaa", sum := "9a76468bc23418185733f5baf6401457bdb49edc5d4510f4b4fd61ffc937d35e", func := "pledge/pledgelaw20.CourseSame", spec := "courseSame", inPlace := ["math/bits.Add64"], unfollowed := true, recurses := true, apart := false, narrowed := true }
def CourseSameUptoSaid : Prop := courseSameUptoRow.holds Try.pinned (OpenSpec.upto courseSameSpec)

/-- 'pledgelaw20.CourseNext', WHERE WHAT IT READS IS OF BULK AT MOST 1048576: true; the input reads as it did. -/
def courseNextUptoRow : OpenClaim := { program := "ytkipelkedgckoaa", sum := "9a76468bc23418185733f5baf6401457bdb49edc5d4510f4b4fd61ffc937d35e", func := "pledge/pledgelaw20.CourseNext", spec := "courseNext", inPlace := ["math/bits.Add64"], unfollowed := true, recurses := true, apart := false, narrowed := true }
def CourseNextUptoSaid : Prop := courseNextUptoRow.holds Try.pinned (OpenSpec.upto courseNextSpec)

/-- 'pledgelaw21.NeedSays', WHERE WHAT IT READS IS OF BULK AT MOST 1048576: true; the input reads as it did. -/
def needSaysUptoRow : OpenClaim := { program := "ytkipelkedgckoaa", sum := "9a76468bc23418185733f5baf6401457bdb49edc5d4510f4b4fd61ffc937d35e", func := "pledge/pledgelaw21.NeedSays", spec := "needSays", inPlace := ["math/bits.Add64"], unfollowed := true, recurses := true, apart := false, narrowed := true }
def NeedSaysUptoSaid : Prop := needSaysUptoRow.holds Try.pinned (OpenSpec.upto needSaysSpec)

end Rows
end Go.Proofs.Ytkipelkedgckoaa
