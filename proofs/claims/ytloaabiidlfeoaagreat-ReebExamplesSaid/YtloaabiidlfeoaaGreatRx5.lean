/- ReebExamples: calls reckoned by the kernel. -/
import Derived.Test.YtloaabiidlfeoaaGreatRx0
import Derived.KernelRfl
set_option linter.unusedVariables false
set_option maxRecDepth 1000000
namespace Go.CM.Rx
open Go.Proofs
theorem e5_1_run : allRun Tryz.prog E2 100 5 e5_1 = true := by kernel_rfl
theorem e5_2_run : allRun Tryz.prog E2 100 5 e5_2 = true := by kernel_rfl
end Go.CM.Rx
