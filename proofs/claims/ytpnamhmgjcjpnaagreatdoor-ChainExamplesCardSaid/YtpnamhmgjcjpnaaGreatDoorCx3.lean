/- ChainExamples: calls reckoned by the kernel. -/
import Derived.Test.YtpnamhmgjcjpnaaGreatDoorCx0
import Derived.KernelRfl
set_option linter.unusedVariables false
set_option maxRecDepth 1000000
namespace Go.CO.Cx
open Go.Proofs
theorem e31_2_run : allRun Tryz.prog E2 100 31 e31_2 = true := by kernel_rfl
theorem e31_3_run : allRun Tryz.prog E2 100 31 e31_3 = true := by kernel_rfl
end Go.CO.Cx
