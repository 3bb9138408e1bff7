/- ReebExamples: calls reckoned by the kernel. -/
import Derived.Test.YtloaabiidlfeoaaGreatRx0
import Derived.KernelRfl
set_option linter.unusedVariables false
set_option maxRecDepth 1000000
namespace Go.CM.Rx
open Go.Proofs
theorem e13_1_run : allRun Tryz.prog E2 100 13 e13_1 = true := by kernel_rfl
theorem e13_2_run : allRun Tryz.prog E2 100 13 e13_2 = true := by kernel_rfl
end Go.CM.Rx
