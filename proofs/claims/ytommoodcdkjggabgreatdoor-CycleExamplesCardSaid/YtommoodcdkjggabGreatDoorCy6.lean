/- CycleExamples: what the reckoner is told is so. -/
import Derived.Test.YtommoodcdkjggabGreatDoorCy1
import Derived.Test.YtommoodcdkjggabGreatDoorCy2
import Derived.Test.YtommoodcdkjggabGreatDoorCy3
import Derived.Test.YtommoodcdkjggabGreatDoorCy4
import Derived.Test.YtommoodcdkjggabGreatDoorCy5
import Derived.Test.YtommoodcdkjggabGreatDoorCo18
set_option linter.unusedVariables false
set_option maxRecDepth 1000000
namespace Go.CO.Cy
open Go.Proofs
theorem k0 : KnownAll Tryz.prog M0 := KnownAll.nil _
theorem ok0 (base : Base Tryz.prog (planOf planT) (primOr (primB 181) (primE 173))) : EnvOk Tryz.prog E0 := base.ok k0
theorem k1 (base : Base Tryz.prog (planOf planT) (primOr (primB 181) (primE 173))) : KnownAll Tryz.prog M1 := KnownAll.cons (allRun_spec (ok0 base) e15_0_run) (KnownAll.cons (allRun_spec (ok0 base) e56_0_run) (KnownAll.cons (allRun_spec (ok0 base) e70_0_run) (KnownAll.cons (allRun_spec (ok0 base) e38_0_run) (KnownAll.cons (allRun_spec (ok0 base) e19_0_run) (KnownAll.cons (allRun_spec (ok0 base) e97_0_run) (KnownAll.cons (allRun_spec (ok0 base) e14_0_run) (KnownAll.cons (allRun_spec (ok0 base) e101_0_run) (KnownAll.cons (allRun_spec (ok0 base) e42_0_run) (KnownAll.cons (allRun_spec (ok0 base) e40_0_run) (k0))))))))))
theorem ok1 (base : Base Tryz.prog (planOf planT) (primOr (primB 181) (primE 173))) : EnvOk Tryz.prog E1 := base.ok (k1 base)
theorem k2 (base : Base Tryz.prog (planOf planT) (primOr (primB 181) (primE 173))) : KnownAll Tryz.prog M2 := KnownAll.cons (allRun_spec (ok1 base) e43_0_run) (KnownAll.cons (allRun_spec (ok1 base) e17_0_run) (KnownAll.cons (allRun_spec (ok1 base) e63_0_run) (k1 base)))
theorem ok2 (base : Base Tryz.prog (planOf planT) (primOr (primB 181) (primE 173))) : EnvOk Tryz.prog E2 := base.ok (k2 base)
theorem k3 (base : Base Tryz.prog (planOf planT) (primOr (primB 181) (primE 173))) : KnownAll Tryz.prog M3 := KnownAll.cons (allRun_spec (ok2 base) e21_0_run) (k2 base)
theorem ok3 (base : Base Tryz.prog (planOf planT) (primOr (primB 181) (primE 173))) : EnvOk Tryz.prog E3 := base.ok (k3 base)
theorem k4 (base : Base Tryz.prog (planOf planT) (primOr (primB 181) (primE 173))) : KnownAll Tryz.prog M4 := KnownAll.cons (allRun_spec (ok3 base) e60_0_run) (k3 base)
theorem ok4 (base : Base Tryz.prog (planOf planT) (primOr (primB 181) (primE 173))) : EnvOk Tryz.prog E4 := base.ok (k4 base)
theorem k5 (base : Base Tryz.prog (planOf planT) (primOr (primB 181) (primE 173))) : KnownAll Tryz.prog M5 := KnownAll.cons (allRun_spec (ok4 base) e13_0_run) (KnownAll.cons (allRun_spec (ok4 base) e11_0_run) (KnownAll.cons (allRun_spec (ok4 base) e8_0_run) (KnownAll.cons (allRun_spec (ok4 base) e7_0_run) (KnownAll.cons (allRun_spec (ok4 base) e12_0_run) (KnownAll.cons (KnownAll.app (allRun_spec (ok4 base) e9_0_run) (allRun_spec (ok4 base) e9_1_run)) (k4 base))))))
theorem ok5 (base : Base Tryz.prog (planOf planT) (primOr (primB 181) (primE 173))) : EnvOk Tryz.prog E5 := base.ok (k5 base)
theorem k6 (base : Base Tryz.prog (planOf planT) (primOr (primB 181) (primE 173))) : KnownAll Tryz.prog M6 := KnownAll.cons (allRun_spec (ok5 base) e4_0_run) (k5 base)
theorem ok6 (base : Base Tryz.prog (planOf planT) (primOr (primB 181) (primE 173))) : EnvOk Tryz.prog E6 := base.ok (k6 base)
theorem root (base : Base Tryz.prog (planOf planT) (primOr (primB 181) (primE 173))) : Known Tryz.prog 3 .nil (.bo true) := runX_spec (ok6 base) root_run
end Go.CO.Cy
