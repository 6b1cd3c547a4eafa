/- Runs of StampLong by the kernel, for remainders of n by 100. -/
import Derived.Test.YtadbbfmmhimgcaaGreatDoorBase
set_option maxRecDepth 1000000
namespace Go.Eng
noncomputable def longC (r : Nat) : Bool := isTrueO (callG I2 (F1 [(1, 100, r)]) 1000 300 6 [.opq 0] h1)
theorem long98 : longC 98 = true := by kernel_rfl
theorem long99 : longC 99 = true := by kernel_rfl
end Go.Eng
