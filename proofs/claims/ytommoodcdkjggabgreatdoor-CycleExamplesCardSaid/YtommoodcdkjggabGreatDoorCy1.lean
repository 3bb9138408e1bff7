/- CycleExamples: calls reckoned by the kernel. -/
import Derived.Test.YtommoodcdkjggabGreatDoorCy0
import Derived.KernelRfl
set_option linter.unusedVariables false
set_option maxRecDepth 1000000
namespace Go.CO.Cy
open Go.Proofs
theorem e40_0_run : allRun Tryz.prog E0 100 40 e40_0 = true := by kernel_rfl
theorem e42_0_run : allRun Tryz.prog E0 100 42 e42_0 = true := by kernel_rfl
theorem e101_0_run : allRun Tryz.prog E0 100 101 e101_0 = true := by kernel_rfl
theorem e14_0_run : allRun Tryz.prog E0 100 14 e14_0 = true := by kernel_rfl
theorem e97_0_run : allRun Tryz.prog E0 100 97 e97_0 = true := by kernel_rfl
theorem e19_0_run : allRun Tryz.prog E0 100 19 e19_0 = true := by kernel_rfl
theorem e38_0_run : allRun Tryz.prog E0 100 38 e38_0 = true := by kernel_rfl
theorem e70_0_run : allRun Tryz.prog E0 100 70 e70_0 = true := by kernel_rfl
theorem e56_0_run : allRun Tryz.prog E0 100 56 e56_0 = true := by kernel_rfl
theorem e15_0_run : allRun Tryz.prog E0 100 15 e15_0 = true := by kernel_rfl
theorem e63_0_run : allRun Tryz.prog E1 100 63 e63_0 = true := by kernel_rfl
end Go.CO.Cy
