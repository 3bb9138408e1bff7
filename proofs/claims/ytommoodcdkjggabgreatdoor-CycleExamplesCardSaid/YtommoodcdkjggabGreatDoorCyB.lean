/- CycleExamples: what does not turn on the results that the reckoner is told. -/
import Derived.Test.YtommoodcdkjggabGreatDoorCy0
import Derived.Test.YtommoodcdkjggabGreatDoorCo18
import Derived.KernelRfl
set_option linter.unusedVariables false
set_option maxRecDepth 1000000
namespace Go.CO.Cy
open Go.Proofs
theorem base : Base Tryz.prog (planOf planT) (primOr (primB 181) (primE 173)) := Base.mk' (fun _ _ _ _ _ => Iff.rfl) (by kernel_rfl) (primOr_spec (primB_spec Tryz.func181 rfl rfl (by rfl) (by rfl)) (primE_spec Tryz.func173 (by kernel_rfl) rfl (by rfl) (by rfl))) (by kernel_rfl)
end Go.CO.Cy
