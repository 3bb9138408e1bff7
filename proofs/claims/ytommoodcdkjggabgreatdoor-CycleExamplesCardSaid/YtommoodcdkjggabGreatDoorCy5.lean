/- CycleExamples: calls reckoned by the kernel. -/
import Derived.Test.YtommoodcdkjggabGreatDoorCy0
import Derived.KernelRfl
set_option linter.unusedVariables false
set_option maxRecDepth 1000000
namespace Go.CO.Cy
open Go.Proofs
theorem root_run : runX Tryz.prog E6 100 3 .nil = some (.bo true) := by kernel_rfl
end Go.CO.Cy
