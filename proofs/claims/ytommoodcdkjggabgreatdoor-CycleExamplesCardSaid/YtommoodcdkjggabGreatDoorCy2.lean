/- CycleExamples: calls reckoned by the kernel. -/
import Derived.Test.YtommoodcdkjggabGreatDoorCy0
import Derived.KernelRfl
set_option linter.unusedVariables false
set_option maxRecDepth 1000000
namespace Go.CO.Cy
open Go.Proofs
theorem e17_0_run : allRun Tryz.prog E1 100 17 e17_0 = true := by kernel_rfl
theorem e43_0_run : allRun Tryz.prog E1 100 43 e43_0 = true := by kernel_rfl
theorem e21_0_run : allRun Tryz.prog E2 100 21 e21_0 = true := by kernel_rfl
theorem e60_0_run : allRun Tryz.prog E3 100 60 e60_0 = true := by kernel_rfl
theorem e9_0_run : allRun Tryz.prog E4 100 9 e9_0 = true := by kernel_rfl
end Go.CO.Cy
