import Derived.Test.YtadagifjonbmjaaGreatDoorKl4
import Derived.Test.YtadagifjonbmjaaGreatDoorKw4
import Derived.Test.YtadagifjonbmjaaGreatDoorKv0
import Derived.Test.YtadagifjonbmjaaGreatDoorKs0
import Derived.Test.YtadagifjonbmjaaGreatDoorKw1
set_option linter.all false
namespace Go.CP
open Go.Proofs
variable [LG] [HK]
theorem K3 : au Tryz.prog 26 = some (1, false) := by kernel_rfl
end Go.CP
