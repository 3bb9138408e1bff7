/- TreeExamples: what the reckoner is told is so. -/
import Derived.Test.YtlmiehjnlpicjaaGreatTx1
import Derived.Test.YtlmiehjnlpicjaaGreatTx2
import Derived.Test.YtlmiehjnlpicjaaGreatTx3
import Derived.Test.YtlmiehjnlpicjaaGreatTx4
import Derived.Test.YtlmiehjnlpicjaaGreatTx5
import Derived.Test.YtlmiehjnlpicjaaGreatTx6
import Derived.Test.YtlmiehjnlpicjaaGreatTx7
import Derived.Test.YtlmiehjnlpicjaaGreatTx8
import Derived.Test.YtlmiehjnlpicjaaGreatTx9
import Derived.Test.YtlmiehjnlpicjaaGreatCn18
set_option linter.unusedVariables false
set_option maxRecDepth 1000000
namespace Go.CN.Tx
open Go.Proofs
theorem k0 : KnownAll Tryz.prog M0 := KnownAll.nil _
theorem ok0 (base : Base Tryz.prog (planOf planT) (primB 133)) : EnvOk Tryz.prog E0 := base.ok k0
theorem k1 (base : Base Tryz.prog (planOf planT) (primB 133)) : KnownAll Tryz.prog M1 := KnownAll.cons (allRun_spec (ok0 base) e21_0_run) (KnownAll.cons (KnownAll.app (allRun_spec (ok0 base) e24_0_run) (KnownAll.app (allRun_spec (ok0 base) e24_1_run) (KnownAll.app (allRun_spec (ok0 base) e24_2_run) (KnownAll.app (allRun_spec (ok0 base) e24_3_run) (KnownAll.app (allRun_spec (ok0 base) e24_4_run) (allRun_spec (ok0 base) e24_5_run)))))) (KnownAll.cons (allRun_spec (ok0 base) e35_0_run) (k0)))
theorem ok1 (base : Base Tryz.prog (planOf planT) (primB 133)) : EnvOk Tryz.prog E1 := base.ok (k1 base)
theorem k2 (base : Base Tryz.prog (planOf planT) (primB 133)) : KnownAll Tryz.prog M2 := KnownAll.cons (KnownAll.app (allRun_spec (ok1 base) e33_0_run) (KnownAll.app (allRun_spec (ok1 base) e33_1_run) (allRun_spec (ok1 base) e33_2_run))) (KnownAll.cons (allRun_spec (ok1 base) e22_0_run) (k1 base))
theorem ok2 (base : Base Tryz.prog (planOf planT) (primB 133)) : EnvOk Tryz.prog E2 := base.ok (k2 base)
theorem k3 (base : Base Tryz.prog (planOf planT) (primB 133)) : KnownAll Tryz.prog M3 := KnownAll.cons (KnownAll.app (allRun_spec (ok2 base) e13_0_run) (allRun_spec (ok2 base) e13_1_run)) (KnownAll.cons (KnownAll.app (allRun_spec (ok2 base) e14_0_run) (allRun_spec (ok2 base) e14_1_run)) (KnownAll.cons (KnownAll.app (allRun_spec (ok2 base) e8_0_run) (KnownAll.app (allRun_spec (ok2 base) e8_1_run) (KnownAll.app (allRun_spec (ok2 base) e8_2_run) (KnownAll.app (allRun_spec (ok2 base) e8_3_run) (KnownAll.app (allRun_spec (ok2 base) e8_4_run) (KnownAll.app (allRun_spec (ok2 base) e8_5_run) (allRun_spec (ok2 base) e8_6_run))))))) (KnownAll.cons (allRun_spec (ok2 base) e5_0_run) (k2 base))))
theorem ok3 (base : Base Tryz.prog (planOf planT) (primB 133)) : EnvOk Tryz.prog E3 := base.ok (k3 base)
theorem k4 (base : Base Tryz.prog (planOf planT) (primB 133)) : KnownAll Tryz.prog M4 := KnownAll.cons (allRun_spec (ok3 base) e11_0_run) (KnownAll.cons (allRun_spec (ok3 base) e4_0_run) (k3 base))
theorem ok4 (base : Base Tryz.prog (planOf planT) (primB 133)) : EnvOk Tryz.prog E4 := base.ok (k4 base)
theorem root (base : Base Tryz.prog (planOf planT) (primB 133)) : Known Tryz.prog 3 .nil (.bo true) := runX_spec (ok4 base) root_run
end Go.CN.Tx
