/- Runs of StampLong by the kernel, for remainders of n by 100. -/
import Derived.Test.YtadbbfmmhimgcaaGreatDoorBase
set_option maxRecDepth 1000000
namespace Go.Eng
theorem long52 : (List.range' 52 3).all longB = true := by kernel_rfl
theorem long55 : (List.range' 55 3).all longB = true := by kernel_rfl
theorem long58 : (List.range' 58 3).all longB = true := by kernel_rfl
theorem long61 : (List.range' 61 3).all longB = true := by kernel_rfl
theorem long64 : (List.range' 64 3).all longB = true := by kernel_rfl
theorem long67 : (List.range' 67 3).all longB = true := by kernel_rfl
theorem long70 : (List.range' 70 3).all longB = true := by kernel_rfl
theorem long73 : (List.range' 73 3).all longB = true := by kernel_rfl
theorem long76 : (List.range' 76 2).all longB = true := by kernel_rfl
end Go.Eng
