/- TreeExamples: calls reckoned by the kernel. -/
import Derived.Test.YtlmiehjnlpicjaaGreatTx0
import Derived.KernelRfl
set_option linter.unusedVariables false
set_option maxRecDepth 1000000
namespace Go.CN.Tx
open Go.Proofs
theorem e13_0_run : allRun Tryz.prog E2 100 13 e13_0 = true := by kernel_rfl
theorem e13_1_run : allRun Tryz.prog E2 100 13 e13_1 = true := by kernel_rfl
theorem e4_0_run : allRun Tryz.prog E3 100 4 e4_0 = true := by kernel_rfl
theorem e11_0_run : allRun Tryz.prog E3 100 11 e11_0 = true := by kernel_rfl
theorem root_run : runX Tryz.prog E4 100 3 .nil = some (.bo true) := by kernel_rfl
end Go.CN.Tx
