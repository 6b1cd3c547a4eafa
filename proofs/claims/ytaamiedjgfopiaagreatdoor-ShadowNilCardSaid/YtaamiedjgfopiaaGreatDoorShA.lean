/- The anchor of ShadowNil, run by the kernel over an empty heap. -/
import Derived.Test.YtaamiedjgfopiaaGreatDoorSort
set_option linter.unusedVariables false
set_option maxRecDepth 1000000
namespace Go.Eng
theorem run17 : isTrueO (c4 17 [] h0) = true := by kernel_rfl
end Go.Eng
