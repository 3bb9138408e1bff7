/- ReebExamples: calls reckoned by the kernel. -/
import Derived.Test.YtloaabiidlfeoaaGreatRx0
import Derived.KernelRfl
set_option linter.unusedVariables false
set_option maxRecDepth 1000000
namespace Go.CM.Rx
open Go.Proofs
theorem e54_0_run : allRun Tryz.prog E0 100 54 e54_0 = true := by kernel_rfl
theorem e33_0_run : allRun Tryz.prog E1 100 33 e33_0 = true := by kernel_rfl
theorem e11_0_run : allRun Tryz.prog E1 100 11 e11_0 = true := by kernel_rfl
theorem e25_0_run : allRun Tryz.prog E1 100 25 e25_0 = true := by kernel_rfl
theorem e9_0_run : allRun Tryz.prog E2 100 9 e9_0 = true := by kernel_rfl
theorem e13_0_run : allRun Tryz.prog E2 100 13 e13_0 = true := by kernel_rfl
end Go.CM.Rx
