/- Of a fund that is nil there is nothing. -/
import Derived.Test.YtlnnghmfncjbiaaFnFnl
import Derived.Test.YtlnnghmfncjbiaaPLib
set_option linter.unusedVariables false
set_option maxRecDepth 100000
namespace Go.Proofs.Pure
open Go.Proofs.D Go.Proofs.F
theorem works18 : pledgelaw18_works = some true := by kernel_rfl
theorem FundNil (x0 : El kOp) (x1 : El kField) (h0 : WfE kOp x0) (h1 : WfE kField x1) : pledgelaw18_FundNil x0 x1 = some true := by kernel_rfl
end Go.Proofs.Pure
