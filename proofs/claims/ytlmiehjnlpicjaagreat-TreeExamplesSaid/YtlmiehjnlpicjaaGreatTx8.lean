/- TreeExamples: calls reckoned by the kernel. -/
import Derived.Test.YtlmiehjnlpicjaaGreatTx0
import Derived.KernelRfl
set_option linter.unusedVariables false
set_option maxRecDepth 1000000
namespace Go.CN.Tx
open Go.Proofs
theorem e14_0_run : allRun Tryz.prog E2 100 14 e14_0 = true := by kernel_rfl
theorem e14_1_run : allRun Tryz.prog E2 100 14 e14_1 = true := by kernel_rfl
end Go.CN.Tx
