/- The law TableNil, run by the kernel over an empty heap, for every o. -/
import Derived.Test.YtaamiedjgfopiaaGreatDoorWalk
set_option linter.unusedVariables false
set_option maxRecDepth 1000000
namespace Go.Eng
theorem run3 : isTrueO (c3 3 [.agg [.opq 0, .opq 1, .opq 2, .opq 3, .opq 4]] h0) = true := by kernel_rfl
end Go.Eng
