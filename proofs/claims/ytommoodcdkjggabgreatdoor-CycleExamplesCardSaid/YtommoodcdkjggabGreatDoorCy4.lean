/- CycleExamples: calls reckoned by the kernel. -/
import Derived.Test.YtommoodcdkjggabGreatDoorCy0
import Derived.KernelRfl
set_option linter.unusedVariables false
set_option maxRecDepth 1000000
namespace Go.CO.Cy
open Go.Proofs
theorem e4_0_run : allRun Tryz.prog E5 100 4 e4_0 = true := by kernel_rfl
end Go.CO.Cy
