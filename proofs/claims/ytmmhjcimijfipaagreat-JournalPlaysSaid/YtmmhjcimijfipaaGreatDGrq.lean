/- A round of the loop that groups. -/
import Derived.Test.YtmmhjcimijfipaaGreatDGrp
set_option linter.unusedVariables false
set_option linter.unusedSimpArgs false
namespace Go.Proofs.D
open Go.RowKit

section
variable {P : Program} {C : Ctx} {fn : Func} {kk : K} {t tk tv : TypeId} {a a' : Act} {w w' : World} {S S' : Cells} {m m' : Nat → Option MB} {O0 : Cells} {w0 : World} {S0 : Cells} {m0 : Nat → Option MB}

end
end Go.Proofs.D
