/- ChainExamples: calls reckoned by the kernel. -/
import Derived.Test.YtpnamhmgjcjpnaaGreatDoorCx0
import Derived.KernelRfl
set_option linter.unusedVariables false
set_option maxRecDepth 1000000
namespace Go.CO.Cx
open Go.Proofs
theorem e31_4_run : allRun Tryz.prog E2 100 31 e31_4 = true := by kernel_rfl
theorem e39_0_run : allRun Tryz.prog E3 100 39 e39_0 = true := by kernel_rfl
theorem e43_0_run : allRun Tryz.prog E3 100 43 e43_0 = true := by kernel_rfl
theorem e9_0_run : allRun Tryz.prog E4 100 9 e9_0 = true := by kernel_rfl
theorem e10_0_run : allRun Tryz.prog E4 100 10 e10_0 = true := by kernel_rfl
theorem e11_0_run : allRun Tryz.prog E4 100 11 e11_0 = true := by kernel_rfl
theorem e7_0_run : allRun Tryz.prog E4 100 7 e7_0 = true := by kernel_rfl
theorem e32_0_run : allRun Tryz.prog E4 100 32 e32_0 = true := by kernel_rfl
theorem e4_0_run : allRun Tryz.prog E5 100 4 e4_0 = true := by kernel_rfl
end Go.CO.Cx
