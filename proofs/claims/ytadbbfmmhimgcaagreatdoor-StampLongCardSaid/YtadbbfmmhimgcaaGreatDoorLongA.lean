/- Runs of StampLong by the kernel, for remainders of n by 100. -/
import Derived.Test.YtadbbfmmhimgcaaGreatDoorBase
set_option maxRecDepth 1000000
namespace Go.Eng
theorem long0 : (List.range' 0 6).all longB = true := by kernel_rfl
theorem long6 : (List.range' 6 6).all longB = true := by kernel_rfl
theorem long12 : (List.range' 12 6).all longB = true := by kernel_rfl
theorem long18 : (List.range' 18 6).all longB = true := by kernel_rfl
theorem long24 : (List.range' 24 6).all longB = true := by kernel_rfl
theorem long30 : (List.range' 30 4).all longB = true := by kernel_rfl
theorem long34 : (List.range' 34 4).all longB = true := by kernel_rfl
theorem long38 : (List.range' 38 4).all longB = true := by kernel_rfl
theorem long42 : (List.range' 42 4).all longB = true := by kernel_rfl
theorem long46 : (List.range' 46 4).all longB = true := by kernel_rfl
theorem long50 : (List.range' 50 2).all longB = true := by kernel_rfl
end Go.Eng
