import Derived.Test.YtadagifjonbmjaaGreatDoorKq0
import Derived.Test.YtadagifjonbmjaaGreatDoorProg
set_option linter.all false
set_option maxHeartbeats 2000000
/- The regions of some functions, at whatever their slots hold. -/
namespace Go.CP
open Go.Proofs

variable [LG] [HK] {K : Ctx} {s : Fr} {h : Hp} (hk : ∀ o, HK.keep o = false)
include hk
end Go.CP
/- Ways through code without loops, at whatever the slots hold. -/
namespace Go.CP
open Go.Proofs
structure PlansB [LG] [HK] (K : Ctx) : Prop where
variable [LG] [HK] {K : Ctx} {s : Fr} {h : Hp} (hk : ∀ o, HK.keep o = false) (pr : ∀ f args, K.prim f args = none) (Pl : PlansB K)
include hk pr Pl
end Go.CP
