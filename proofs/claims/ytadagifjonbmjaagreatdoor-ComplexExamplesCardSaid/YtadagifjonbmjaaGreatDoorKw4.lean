import Derived.Test.YtadagifjonbmjaaGreatDoorKq0
import Derived.Test.YtadagifjonbmjaaGreatDoorProg
set_option linter.all false
set_option maxHeartbeats 2000000
namespace Go.CP
open Go.Proofs
variable [LG] [HK] {K : Ctx} {s : Fr} {h : Hp} (hk : ∀ o, HK.keep o = false)
include hk
end Go.CP
namespace Go.CP
open Go.Proofs
structure KM [LG] [HK] (K : Ctx) : Prop where
 p91_5 : K.plan 91 5 = some [.t 0,.t 1,.t 2,.t 3,.o 4 [3, 2, 1, 0],.o 5 [2, 1, 0],.o 6 [],.o 7 []]
 p93_5 : K.plan 93 5 = some [.t 0,.t 1,.t 2,.t 3,.o 4 [3, 2, 1, 0],.o 5 [2, 1, 0],.o 6 [],.o 7 []]
 u34 : ∀ args h, K.spec 34 args h = none
 u36 : ∀ args h, K.spec 36 args h = none
 u37 : ∀ args h, K.spec 37 args h = none
 u41 : ∀ args h, K.spec 41 args h = none
variable [LG] [HK] {K : Ctx} {s : Fr} {h : Hp} (hk : ∀ o, HK.keep o = false) (pr : ∀ f args, K.prim f args = none) (Pl : KM K)
include hk pr Pl
end Go.CP
namespace Go.CP
open Go.Proofs
variable [LG] [HK] {K : Ctx} {s : Fr} {h : Hp} (hk : ∀ o, HK.keep o = false)
include hk
end Go.CP
namespace Go.CP
open Go.Proofs
structure KN [LG] [HK] (K : Ctx) : Prop where
 p91_5 : K.plan 91 5 = some [.t 0,.t 1,.t 2,.t 3,.o 4 [3, 2, 1, 0],.o 5 [2, 1, 0],.o 6 [],.o 7 []]
 p93_5 : K.plan 93 5 = some [.t 0,.t 1,.t 2,.t 3,.o 4 [3, 2, 1, 0],.o 5 [2, 1, 0],.o 6 [],.o 7 []]
variable [LG] [HK] {K : Ctx} {s : Fr} {h : Hp} (hk : ∀ o, HK.keep o = false) (pr : ∀ f args, K.prim f args = none) (Pl : KN K)
include hk pr Pl
end Go.CP
