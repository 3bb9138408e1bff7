/- ReduceExamples: calls reckoned by the kernel. -/
import Derived.Test.YtommoodcdkjggaaGreatDoorRd0
import Derived.KernelRfl
set_option linter.unusedVariables false
set_option maxRecDepth 1000000
namespace Go.CO.Rd
open Go.Proofs
theorem e41_0_run : allRun Tryz.prog E0 100 41 e41_0 = true := by kernel_rfl
theorem e43_0_run : allRun Tryz.prog E0 100 43 e43_0 = true := by kernel_rfl
theorem e88_0_run : allRun Tryz.prog E0 100 88 e88_0 = true := by kernel_rfl
theorem e14_0_run : allRun Tryz.prog E0 100 14 e14_0 = true := by kernel_rfl
theorem e84_0_run : allRun Tryz.prog E0 100 84 e84_0 = true := by kernel_rfl
theorem e19_0_run : allRun Tryz.prog E0 100 19 e19_0 = true := by kernel_rfl
theorem e39_0_run : allRun Tryz.prog E0 100 39 e39_0 = true := by kernel_rfl
theorem e63_0_run : allRun Tryz.prog E0 100 63 e63_0 = true := by kernel_rfl
theorem e11_0_run : allRun Tryz.prog E0 100 11 e11_0 = true := by kernel_rfl
theorem e15_0_run : allRun Tryz.prog E0 100 15 e15_0 = true := by kernel_rfl
theorem e24_0_run : allRun Tryz.prog E0 100 24 e24_0 = true := by kernel_rfl
end Go.CO.Rd
