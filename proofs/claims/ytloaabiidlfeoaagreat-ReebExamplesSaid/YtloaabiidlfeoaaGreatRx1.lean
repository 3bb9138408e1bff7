/- ReebExamples: calls reckoned by the kernel. -/
import Derived.Test.YtloaabiidlfeoaaGreatRx0
import Derived.KernelRfl
set_option linter.unusedVariables false
set_option maxRecDepth 1000000
namespace Go.CM.Rx
open Go.Proofs
theorem e20_0_run : allRun Tryz.prog E0 100 20 e20_0 = true := by kernel_rfl
theorem e21_0_run : allRun Tryz.prog E0 100 21 e21_0 = true := by kernel_rfl
theorem e21_1_run : allRun Tryz.prog E0 100 21 e21_1 = true := by kernel_rfl
theorem e49_0_run : allRun Tryz.prog E0 100 49 e49_0 = true := by kernel_rfl
end Go.CM.Rx
