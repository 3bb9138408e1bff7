import Derived.Test.YtadagifjonbmjaaGreatDoorKq0
import Derived.Test.YtadagifjonbmjaaGreatDoorProg
set_option linter.all false
set_option maxHeartbeats 2000000
/- The regions of some functions, at whatever their slots hold. -/
namespace Go.CP
open Go.Proofs

variable [LG] [HK] {K : Ctx} {s : Fr} {h : Hp} (hk : ∀ o, HK.keep o = false)
include hk
end Go.CP
/- Ways through code without loops, at whatever the slots hold. -/
namespace Go.CP
open Go.Proofs
structure PlansC [LG] [HK] (K : Ctx) : Prop where
  p91_5 : K.plan 91 5 = some [.take 0, .take 1, .take 2, .take 3, .only 4 [3, 2, 1, 0], .only 5 [2, 1, 0], .only 6 [], .only 7 []]
  p93_5 : K.plan 93 5 = some [.take 0, .take 1, .take 2, .take 3, .only 4 [3, 2, 1, 0], .only 5 [2, 1, 0], .only 6 [], .only 7 []]
variable [LG] [HK] {K : Ctx} {s : Fr} {h : Hp} (hk : ∀ o, HK.keep o = false) (pr : ∀ f args, K.prim f args = none) (Pl : PlansC K)
include hk pr Pl
end Go.CP
/- The regions of some functions, at whatever their slots hold. -/
namespace Go.CP
open Go.Proofs
variable [LG] [HK] {K : Ctx} {s : Fr} {h : Hp} (hk : ∀ o, HK.keep o = false)
include hk
end Go.CP
/- Ways through code without loops, at whatever the slots hold. -/
namespace Go.CP
open Go.Proofs
structure PlansN [LG] [HK] (K : Ctx) : Prop where
  p91_5 : K.plan 91 5 = some [.take 0, .take 1, .take 2, .take 3, .only 4 [3, 2, 1, 0], .only 5 [2, 1, 0], .only 6 [], .only 7 []]
  p93_5 : K.plan 93 5 = some [.take 0, .take 1, .take 2, .take 3, .only 4 [3, 2, 1, 0], .only 5 [2, 1, 0], .only 6 [], .only 7 []]
variable [LG] [HK] {K : Ctx} {s : Fr} {h : Hp} (hk : ∀ o, HK.keep o = false) (pr : ∀ f args, K.prim f args = none) (Pl : PlansN K)
include hk pr Pl
end Go.CP
