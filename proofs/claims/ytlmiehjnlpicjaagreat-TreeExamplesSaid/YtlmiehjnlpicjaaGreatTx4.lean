/- TreeExamples: calls reckoned by the kernel. -/
import Derived.Test.YtlmiehjnlpicjaaGreatTx0
import Derived.KernelRfl
set_option linter.unusedVariables false
set_option maxRecDepth 1000000
namespace Go.CN.Tx
open Go.Proofs
theorem e33_0_run : allRun Tryz.prog E1 100 33 e33_0 = true := by kernel_rfl
theorem e33_1_run : allRun Tryz.prog E1 100 33 e33_1 = true := by kernel_rfl
end Go.CN.Tx
