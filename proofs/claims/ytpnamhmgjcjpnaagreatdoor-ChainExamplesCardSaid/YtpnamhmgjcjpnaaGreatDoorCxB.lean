/- ChainExamples: what does not turn on the results that the reckoner is told. -/
import Derived.Test.YtpnamhmgjcjpnaaGreatDoorCx0
import Derived.Test.YtpnamhmgjcjpnaaGreatDoorCo18
import Derived.KernelRfl
set_option linter.unusedVariables false
set_option maxRecDepth 1000000
namespace Go.CO.Cx
open Go.Proofs
theorem base : Base Tryz.prog (planOf planT) (primOr (primB 141) (primE 125)) := Base.mk' (fun _ _ _ _ _ => Iff.rfl) (by kernel_rfl) (primOr_spec (primB_spec Tryz.func141 rfl rfl (by rfl) (by rfl)) (primE_spec Tryz.func125 (by kernel_rfl) rfl (by rfl) (by rfl))) (by kernel_rfl)
end Go.CO.Cx
