/- TreeExamples: calls reckoned by the kernel. -/
import Derived.Test.YtlmiehjnlpicjaaGreatTx0
import Derived.KernelRfl
set_option linter.unusedVariables false
set_option maxRecDepth 1000000
namespace Go.CN.Tx
open Go.Proofs
theorem e8_1_run : allRun Tryz.prog E2 100 8 e8_1 = true := by kernel_rfl
theorem e8_2_run : allRun Tryz.prog E2 100 8 e8_2 = true := by kernel_rfl
theorem e8_3_run : allRun Tryz.prog E2 100 8 e8_3 = true := by kernel_rfl
theorem e8_4_run : allRun Tryz.prog E2 100 8 e8_4 = true := by kernel_rfl
end Go.CN.Tx
