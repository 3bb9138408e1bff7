/- ReduceExamples: calls reckoned by the kernel. -/
import Derived.Test.YtommoodcdkjggaaGreatDoorRd0
import Derived.KernelRfl
set_option linter.unusedVariables false
set_option maxRecDepth 1000000
namespace Go.CO.Rd
open Go.Proofs
theorem e56_0_run : allRun Tryz.prog E1 100 56 e56_0 = true := by kernel_rfl
theorem e17_0_run : allRun Tryz.prog E1 100 17 e17_0 = true := by kernel_rfl
theorem e30_0_run : allRun Tryz.prog E1 100 30 e30_0 = true := by kernel_rfl
theorem e21_0_run : allRun Tryz.prog E2 100 21 e21_0 = true := by kernel_rfl
theorem e21_1_run : allRun Tryz.prog E2 100 21 e21_1 = true := by kernel_rfl
theorem e55_0_run : allRun Tryz.prog E3 100 55 e55_0 = true := by kernel_rfl
end Go.CO.Rd
