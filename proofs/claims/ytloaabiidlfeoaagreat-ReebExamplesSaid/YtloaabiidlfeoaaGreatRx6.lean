/- ReebExamples: calls reckoned by the kernel. -/
import Derived.Test.YtloaabiidlfeoaaGreatRx0
import Derived.KernelRfl
set_option linter.unusedVariables false
set_option maxRecDepth 1000000
namespace Go.CM.Rx
open Go.Proofs
theorem e5_3_run : allRun Tryz.prog E2 100 5 e5_3 = true := by kernel_rfl
theorem e7_0_run : allRun Tryz.prog E3 100 7 e7_0 = true := by kernel_rfl
theorem e14_0_run : allRun Tryz.prog E3 100 14 e14_0 = true := by kernel_rfl
theorem e4_0_run : allRun Tryz.prog E4 100 4 e4_0 = true := by kernel_rfl
theorem root_run : runX Tryz.prog E5 100 3 .nil = some (.bo true) := by kernel_rfl
end Go.CM.Rx
