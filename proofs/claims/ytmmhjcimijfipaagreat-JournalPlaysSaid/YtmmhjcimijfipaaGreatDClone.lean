/- slices.Clone keeps its contract: its result is a row of its own. -/
import Derived.Test.YtmmhjcimijfipaaGreatDPrim
set_option linter.unusedVariables false
set_option linter.unusedSimpArgs false
namespace Go.Proofs.D
open Go.RowKit

section
variable {P : Program} {C : Ctx}

/-! ### The parts of its body -/
end
end Go.Proofs.D
