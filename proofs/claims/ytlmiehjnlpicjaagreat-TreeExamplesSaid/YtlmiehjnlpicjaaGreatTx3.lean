/- TreeExamples: calls reckoned by the kernel. -/
import Derived.Test.YtlmiehjnlpicjaaGreatTx0
import Derived.KernelRfl
set_option linter.unusedVariables false
set_option maxRecDepth 1000000
namespace Go.CN.Tx
open Go.Proofs
theorem e24_3_run : allRun Tryz.prog E0 100 24 e24_3 = true := by kernel_rfl
theorem e24_4_run : allRun Tryz.prog E0 100 24 e24_4 = true := by kernel_rfl
theorem e24_5_run : allRun Tryz.prog E0 100 24 e24_5 = true := by kernel_rfl
theorem e21_0_run : allRun Tryz.prog E0 100 21 e21_0 = true := by kernel_rfl
theorem e22_0_run : allRun Tryz.prog E1 100 22 e22_0 = true := by kernel_rfl
end Go.CN.Tx
