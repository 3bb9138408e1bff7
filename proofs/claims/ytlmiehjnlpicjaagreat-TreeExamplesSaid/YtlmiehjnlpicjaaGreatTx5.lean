/- TreeExamples: calls reckoned by the kernel. -/
import Derived.Test.YtlmiehjnlpicjaaGreatTx0
import Derived.KernelRfl
set_option linter.unusedVariables false
set_option maxRecDepth 1000000
namespace Go.CN.Tx
open Go.Proofs
theorem e33_2_run : allRun Tryz.prog E1 100 33 e33_2 = true := by kernel_rfl
theorem e5_0_run : allRun Tryz.prog E2 100 5 e5_0 = true := by kernel_rfl
theorem e8_0_run : allRun Tryz.prog E2 100 8 e8_0 = true := by kernel_rfl
end Go.CN.Tx
