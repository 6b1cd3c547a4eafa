/- Runs of StampLong by the kernel, for remainders of n by 100. -/
import Derived.Test.YtadbbfmmhimgcaaGreatDoorBase
set_option maxRecDepth 1000000
namespace Go.Eng
theorem long78 : (List.range' 78 2).all longB = true := by kernel_rfl
theorem long80 : (List.range' 80 2).all longB = true := by kernel_rfl
theorem long82 : (List.range' 82 2).all longB = true := by kernel_rfl
theorem long84 : (List.range' 84 2).all longB = true := by kernel_rfl
theorem long86 : (List.range' 86 2).all longB = true := by kernel_rfl
theorem long88 : (List.range' 88 2).all longB = true := by kernel_rfl
theorem long90 : (List.range' 90 2).all longB = true := by kernel_rfl
theorem long92 : (List.range' 92 2).all longB = true := by kernel_rfl
theorem long94 : (List.range' 94 2).all longB = true := by kernel_rfl
theorem long96 : (List.range' 96 2).all longB = true := by kernel_rfl
end Go.Eng
