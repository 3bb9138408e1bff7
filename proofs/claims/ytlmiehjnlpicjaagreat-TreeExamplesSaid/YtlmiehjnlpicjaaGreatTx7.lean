/- TreeExamples: calls reckoned by the kernel. -/
import Derived.Test.YtlmiehjnlpicjaaGreatTx0
import Derived.KernelRfl
set_option linter.unusedVariables false
set_option maxRecDepth 1000000
namespace Go.CN.Tx
open Go.Proofs
theorem e8_5_run : allRun Tryz.prog E2 100 8 e8_5 = true := by kernel_rfl
theorem e8_6_run : allRun Tryz.prog E2 100 8 e8_6 = true := by kernel_rfl
end Go.CN.Tx
