/- ReduceExamples: calls reckoned by the kernel. -/
import Derived.Test.YtommoodcdkjggaaGreatDoorRd0
import Derived.KernelRfl
set_option linter.unusedVariables false
set_option maxRecDepth 1000000
namespace Go.CO.Rd
open Go.Proofs
theorem e8_0_run : allRun Tryz.prog E4 100 8 e8_0 = true := by kernel_rfl
theorem e4_0_run : allRun Tryz.prog E5 100 4 e4_0 = true := by kernel_rfl
theorem root_run : runX Tryz.prog E6 100 3 .nil = some (.bo true) := by kernel_rfl
end Go.CO.Rd
