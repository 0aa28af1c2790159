/- A scope with one label ahead of its end: jumps go on behind it. -/
import Derived.Test.YtmmhjcimijfipaaGreatDGiven
import Derived.ScopeJumps
set_option linter.unusedVariables false
set_option linter.unusedSimpArgs false
namespace Go.Proofs.D
open Go.RowKit

section
variable {P : Program} {C : Ctx} {q : Cuts}
end
end Go.Proofs.D
