import Derived.Test.YtadagifjonbmjaaGreatDoorKv0
set_option linter.all false
namespace Go.CP
open Go.Proofs
variable [LG] [HK]
theorem Qt : ar Tryz.prog 26 = some (1, false) := by kernel_rfl
end Go.CP
