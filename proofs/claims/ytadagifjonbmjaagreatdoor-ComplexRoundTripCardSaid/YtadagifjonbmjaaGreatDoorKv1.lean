import Derived.Test.YtadagifjonbmjaaGreatDoorKl4
import Derived.Test.YtadagifjonbmjaaGreatDoorKw4
import Derived.Test.YtadagifjonbmjaaGreatDoorKv0
import Derived.Test.YtadagifjonbmjaaGreatDoorKs0
import Derived.Test.YtadagifjonbmjaaGreatDoorKw1
set_option linter.all false
namespace Go.CP
open Go.Proofs
variable [LG] [HK]
theorem Mk : ar Tryz.prog 26 = some (1, false) := by kernel_rfl
theorem Je {l : List (List Int)} (h : Ma l) : cU l = 0 := by
 unfold cU
 rw [if_neg (by have := h.le; omega)]
 refine zM _ 0 fun j _ hj => ?_
 have hj : j < l.length := by omega
 have e0 := lx hj
 have hS : co (l.getD j []) = 0 := by rw [e0]; exact dd.2 (h.simp _ (List.getElem_mem hj))
 rw [rI hS (fun hp => ?_), if_pos ?_]
 · rw [List.all_eq_true]
   intro f hf
   rw [e0] at hf
   exact decide_eq_true (h.face _ (List.getElem_mem hj) f hf)
 · obtain ⟨m, rfl⟩ : ∃ m, j = m + 1 := ⟨j - 1, by omega⟩
   have := h.asc m hj
   rw [e0, show l.getD (m + 1 - 1) [] = l[m]'(by omega) from lx (i := m) (by omega), this]
   exact ⟨by decide, by decide⟩
end Go.CP
