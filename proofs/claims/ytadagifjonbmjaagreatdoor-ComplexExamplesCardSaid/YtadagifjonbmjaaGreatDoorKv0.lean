import Derived.Test.YtadagifjonbmjaaGreatDoorKl4
import Derived.Test.YtadagifjonbmjaaGreatDoorKq0
import Derived.Test.YtadagifjonbmjaaGreatDoorKs0
import Derived.Test.YtadagifjonbmjaaGreatDoorKw4
set_option linter.all false
namespace Go.CP
open Go.Proofs
variable [LG] [HK]
end Go.CP
