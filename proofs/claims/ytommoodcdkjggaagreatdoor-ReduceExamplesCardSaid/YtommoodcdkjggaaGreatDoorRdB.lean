/- ReduceExamples: what does not turn on the results that the reckoner is told. -/
import Derived.Test.YtommoodcdkjggaaGreatDoorRd0
import Derived.Test.YtommoodcdkjggaaGreatDoorCo18
import Derived.KernelRfl
set_option linter.unusedVariables false
set_option maxRecDepth 1000000
namespace Go.CO.Rd
open Go.Proofs
theorem base : Base Tryz.prog (planOf planT) (primOr (primB 167) (primE 159)) := Base.mk' (fun _ _ _ _ _ => Iff.rfl) (by kernel_rfl) (primOr_spec (primB_spec Tryz.func167 rfl rfl (by rfl) (by rfl)) (primE_spec Tryz.func159 (by kernel_rfl) rfl (by rfl) (by rfl))) (by kernel_rfl)
end Go.CO.Rd
