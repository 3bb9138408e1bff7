/- TreeExamples: calls reckoned by the kernel. -/
import Derived.Test.YtlmiehjnlpicjaaGreatTx0
import Derived.KernelRfl
set_option linter.unusedVariables false
set_option maxRecDepth 1000000
namespace Go.CN.Tx
open Go.Proofs
theorem e24_1_run : allRun Tryz.prog E0 100 24 e24_1 = true := by kernel_rfl
theorem e24_2_run : allRun Tryz.prog E0 100 24 e24_2 = true := by kernel_rfl
end Go.CN.Tx
