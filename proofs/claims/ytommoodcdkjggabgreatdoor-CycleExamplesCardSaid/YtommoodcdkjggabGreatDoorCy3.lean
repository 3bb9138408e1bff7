/- CycleExamples: calls reckoned by the kernel. -/
import Derived.Test.YtommoodcdkjggabGreatDoorCy0
import Derived.KernelRfl
set_option linter.unusedVariables false
set_option maxRecDepth 1000000
namespace Go.CO.Cy
open Go.Proofs
theorem e9_1_run : allRun Tryz.prog E4 100 9 e9_1 = true := by kernel_rfl
theorem e12_0_run : allRun Tryz.prog E4 100 12 e12_0 = true := by kernel_rfl
theorem e7_0_run : allRun Tryz.prog E4 100 7 e7_0 = true := by kernel_rfl
theorem e8_0_run : allRun Tryz.prog E4 100 8 e8_0 = true := by kernel_rfl
theorem e11_0_run : allRun Tryz.prog E4 100 11 e11_0 = true := by kernel_rfl
theorem e13_0_run : allRun Tryz.prog E4 100 13 e13_0 = true := by kernel_rfl
end Go.CO.Cy
