/- ReebExamples: what the reckoner is told is so. -/
import Derived.Test.YtloaabiidlfeoaaGreatRx1
import Derived.Test.YtloaabiidlfeoaaGreatRx2
import Derived.Test.YtloaabiidlfeoaaGreatRx3
import Derived.Test.YtloaabiidlfeoaaGreatRx4
import Derived.Test.YtloaabiidlfeoaaGreatRx5
import Derived.Test.YtloaabiidlfeoaaGreatRx6
import Derived.Test.YtloaabiidlfeoaaGreatCm18
set_option linter.unusedVariables false
set_option maxRecDepth 1000000
namespace Go.CM.Rx
open Go.Proofs
theorem k0 : KnownAll Tryz.prog M0 := KnownAll.nil _
theorem ok0 (base : Base Tryz.prog (planOf planT) (primB 117)) : EnvOk Tryz.prog E0 := base.ok k0
theorem k1 (base : Base Tryz.prog (planOf planT) (primB 117)) : KnownAll Tryz.prog M1 := KnownAll.cons (allRun_spec (ok0 base) e54_0_run) (KnownAll.cons (allRun_spec (ok0 base) e49_0_run) (KnownAll.cons (KnownAll.app (allRun_spec (ok0 base) e21_0_run) (allRun_spec (ok0 base) e21_1_run)) (KnownAll.cons (allRun_spec (ok0 base) e20_0_run) (k0))))
theorem ok1 (base : Base Tryz.prog (planOf planT) (primB 117)) : EnvOk Tryz.prog E1 := base.ok (k1 base)
theorem k2 (base : Base Tryz.prog (planOf planT) (primB 117)) : KnownAll Tryz.prog M2 := KnownAll.cons (allRun_spec (ok1 base) e25_0_run) (KnownAll.cons (allRun_spec (ok1 base) e11_0_run) (KnownAll.cons (allRun_spec (ok1 base) e33_0_run) (k1 base)))
theorem ok2 (base : Base Tryz.prog (planOf planT) (primB 117)) : EnvOk Tryz.prog E2 := base.ok (k2 base)
theorem k3 (base : Base Tryz.prog (planOf planT) (primB 117)) : KnownAll Tryz.prog M3 := KnownAll.cons (KnownAll.app (allRun_spec (ok2 base) e5_0_run) (KnownAll.app (allRun_spec (ok2 base) e5_1_run) (KnownAll.app (allRun_spec (ok2 base) e5_2_run) (allRun_spec (ok2 base) e5_3_run)))) (KnownAll.cons (KnownAll.app (allRun_spec (ok2 base) e13_0_run) (KnownAll.app (allRun_spec (ok2 base) e13_1_run) (allRun_spec (ok2 base) e13_2_run))) (KnownAll.cons (allRun_spec (ok2 base) e9_0_run) (k2 base)))
theorem ok3 (base : Base Tryz.prog (planOf planT) (primB 117)) : EnvOk Tryz.prog E3 := base.ok (k3 base)
theorem k4 (base : Base Tryz.prog (planOf planT) (primB 117)) : KnownAll Tryz.prog M4 := KnownAll.cons (allRun_spec (ok3 base) e14_0_run) (KnownAll.cons (allRun_spec (ok3 base) e7_0_run) (k3 base))
theorem ok4 (base : Base Tryz.prog (planOf planT) (primB 117)) : EnvOk Tryz.prog E4 := base.ok (k4 base)
theorem k5 (base : Base Tryz.prog (planOf planT) (primB 117)) : KnownAll Tryz.prog M5 := KnownAll.cons (allRun_spec (ok4 base) e4_0_run) (k4 base)
theorem ok5 (base : Base Tryz.prog (planOf planT) (primB 117)) : EnvOk Tryz.prog E5 := base.ok (k5 base)
theorem root (base : Base Tryz.prog (planOf planT) (primB 117)) : Known Tryz.prog 3 .nil (.bo true) := runX_spec (ok5 base) root_run
end Go.CM.Rx
