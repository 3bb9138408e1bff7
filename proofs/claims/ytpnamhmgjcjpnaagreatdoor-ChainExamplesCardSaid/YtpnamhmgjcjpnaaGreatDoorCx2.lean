/- ChainExamples: calls reckoned by the kernel. -/
import Derived.Test.YtpnamhmgjcjpnaaGreatDoorCx0
import Derived.KernelRfl
set_option linter.unusedVariables false
set_option maxRecDepth 1000000
namespace Go.CO.Cx
open Go.Proofs
theorem e34_0_run : allRun Tryz.prog E1 100 34 e34_0 = true := by kernel_rfl
theorem e49_0_run : allRun Tryz.prog E1 100 49 e49_0 = true := by kernel_rfl
theorem e31_0_run : allRun Tryz.prog E2 100 31 e31_0 = true := by kernel_rfl
theorem e31_1_run : allRun Tryz.prog E2 100 31 e31_1 = true := by kernel_rfl
end Go.CO.Cx
