/- Runs of StampRefuses by the kernel, for each kind of what is refused, how deep, and whether inside. -/
import Derived.Test.YtadbbfmmhimgcaaGreatDoorBase
set_option maxRecDepth 1000000
namespace Go.Eng
theorem ref0 : refR 0 = true := by kernel_rfl
theorem ref1 : refR 1 = true := by kernel_rfl
theorem ref2 : refR 2 = true := by kernel_rfl
theorem ref3 : refR 3 = true := by kernel_rfl
theorem ref4 : refR 4 = true := by kernel_rfl
theorem ref5 : refR 5 = true := by kernel_rfl
theorem ref6 : refR 6 = true := by kernel_rfl
theorem ref7 : refR 7 = true := by kernel_rfl
theorem ref8 : refR 8 = true := by kernel_rfl
theorem ref9 : refR 9 = true := by kernel_rfl
end Go.Eng
