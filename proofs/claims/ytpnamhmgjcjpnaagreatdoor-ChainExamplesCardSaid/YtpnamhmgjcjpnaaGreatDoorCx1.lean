/- ChainExamples: calls reckoned by the kernel. -/
import Derived.Test.YtpnamhmgjcjpnaaGreatDoorCx0
import Derived.KernelRfl
set_option linter.unusedVariables false
set_option maxRecDepth 1000000
namespace Go.CO.Cx
open Go.Proofs
theorem e33_0_run : allRun Tryz.prog E0 100 33 e33_0 = true := by kernel_rfl
theorem e44_0_run : allRun Tryz.prog E0 100 44 e44_0 = true := by kernel_rfl
theorem e45_0_run : allRun Tryz.prog E0 100 45 e45_0 = true := by kernel_rfl
theorem e45_1_run : allRun Tryz.prog E0 100 45 e45_1 = true := by kernel_rfl
theorem e14_0_run : allRun Tryz.prog E0 100 14 e14_0 = true := by kernel_rfl
theorem e58_0_run : allRun Tryz.prog E0 100 58 e58_0 = true := by kernel_rfl
end Go.CO.Cx
