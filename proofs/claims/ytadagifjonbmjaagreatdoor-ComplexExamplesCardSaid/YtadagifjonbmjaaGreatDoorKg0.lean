import Derived.Shelf.Sort.Plain
import Derived.Test.YtadagifjonbmjaaGreatDoorChecked
import Derived.Test.YtadagifjonbmjaaGreatDoorKv2
import Derived.Test.YtadagifjonbmjaaGreatDoorKv1
import Derived.Test.YtadagifjonbmjaaGreatDoorKv0
import Derived.Test.YtadagifjonbmjaaGreatDoorKw1
set_option linter.all false
set_option maxRecDepth 100000
namespace Go.Proofs
open Go.Shelf
def Tryz.sortI_ren : Go.Shelf.Ren := ⟨fun | 189 => 90 | 125 => 127 | 257 => 126 | 128 => 155 | 129 => 156 | 294 => 146 | 295 => 147 | 296 => 148 | 297 => 149 | 298 => 150 | 299 => 151 | 216 => 152 | 300 => 153 | 301 => 154 | 328 => 175 | 329 => 176 | 330 => 177 | 331 => 178 | 332 => 179 | 215 => 144 | 343 => 192 | n => n, fun | 28 => 45 | 3 => 3 | 46 => 126 | 0 => 0 | 51 => 154 | 53 => 157 | 4 => 4 | 183 => 171 | 182 => 170 | 131 => 176 | 5 => 5 | 9 => 9 | 218 => 195 | 222 => 199 | 228 => 206 | 229 => 207 | n => n, fun | n => n⟩
theorem Tryz.sortI : Go.Proofs.Lays.n189 Tryz.prog Tryz.sortI_ren := {
 mixed := by kernel_rfl
 f125 := Tryz.func127.trans (congrArg some (by kernel_rfl))
 f128 := Tryz.func155.trans (congrArg some (by kernel_rfl))
 f129 := Tryz.func156.trans (congrArg some (by kernel_rfl))
 f189 := Tryz.func90.trans (congrArg some (by kernel_rfl))
 f215 := Tryz.func144.trans (congrArg some (by kernel_rfl))
 f216 := Tryz.func152.trans (congrArg some (by kernel_rfl))
 f257 := Tryz.func126.trans (congrArg some (by kernel_rfl))
 f294 := Tryz.func146.trans (congrArg some (by kernel_rfl))
 f295 := Tryz.func147.trans (congrArg some (by kernel_rfl))
 f296 := Tryz.func148.trans (congrArg some (by kernel_rfl))
 f297 := Tryz.func149.trans (congrArg some (by kernel_rfl))
 f298 := Tryz.func150.trans (congrArg some (by kernel_rfl))
 f299 := Tryz.func151.trans (congrArg some (by kernel_rfl))
 f300 := Tryz.func153.trans (congrArg some (by kernel_rfl))
 f301 := Tryz.func154.trans (congrArg some (by kernel_rfl))
 f328 := Tryz.func175.trans (congrArg some (by kernel_rfl))
 f329 := Tryz.func176.trans (congrArg some (by kernel_rfl))
 f330 := Tryz.func177.trans (congrArg some (by kernel_rfl))
 f331 := Tryz.func178.trans (congrArg some (by kernel_rfl))
 f332 := Tryz.func179.trans (congrArg some (by kernel_rfl))
 f343 := Tryz.func192.trans (congrArg some (by kernel_rfl))
 t0 := Tryz.underlying0
 a0 := Tryz.isAgg0
 z0 := Tryz.sizeOf0
 v0 := Tryz.zeroValue0
 t3 := Tryz.underlying3
 a3 := Tryz.isAgg3
 z3 := Tryz.sizeOf3
 v3 := Tryz.zeroValue3
 t4 := Tryz.underlying4
 a4 := Tryz.isAgg4
 z4 := Tryz.sizeOf4
 v4 := Tryz.zeroValue4
 t5 := Tryz.underlying5
 a5 := Tryz.isAgg5
 z5 := Tryz.sizeOf5
 v5 := Tryz.zeroValue5
 t9 := Tryz.underlying9
 a9 := Tryz.isAgg9
 z9 := Tryz.sizeOf9
 v9 := Tryz.zeroValue9
 t28 := Tryz.underlying45
 a28 := Tryz.isAgg45
 z28 := Tryz.sizeOf45
 v28 := Tryz.zeroValue45
 t46 := Tryz.underlying126
 a46 := Tryz.isAgg126
 z46 := Tryz.sizeOf126
 v46 := Tryz.zeroValue126
 t51 := Tryz.underlying154
 a51 := Tryz.isAgg154
 z51 := Tryz.sizeOf154
 v51 := Tryz.zeroValue154
 t53 := Tryz.underlying157
 a53 := Tryz.isAgg157
 z53 := Tryz.sizeOf157
 v53 := Tryz.zeroValue157
 t131 := Tryz.underlying176
 a131 := Tryz.isAgg176
 z131 := Tryz.sizeOf176
 v131 := Tryz.zeroValue176
 t182 := Tryz.underlying170
 a182 := Tryz.isAgg170
 z182 := Tryz.sizeOf170
 v182 := Tryz.zeroValue170
 t183 := Tryz.underlying171
 a183 := Tryz.isAgg171
 z183 := Tryz.sizeOf171
 v183 := Tryz.zeroValue171
 t218 := Tryz.underlying195
 a218 := Tryz.isAgg195
 z218 := Tryz.sizeOf195
 v218 := Tryz.zeroValue195
 t222 := Tryz.underlying199
 a222 := Tryz.isAgg199
 z222 := Tryz.sizeOf199
 v222 := Tryz.zeroValue199
 t228 := Tryz.underlying206
 a228 := Tryz.isAgg206
 z228 := Tryz.sizeOf206
 v228 := Tryz.zeroValue206
 t229 := Tryz.underlying207
 a229 := Tryz.isAgg207
 z229 := Tryz.sizeOf207
 v229 := Tryz.zeroValue207 }
end Go.Proofs
namespace Go.CP
open Go.Proofs
variable [LG] [HK]
theorem MM : ae Tryz.prog 122 = .arr 64 3 1 false (dG [.nu .i64 0] 64) := by kernel_rfl
section
variable {K : Ctx} {h : Hp}
theorem LN (a b : Nat) : uM (.nu .i64 (.ofNat a)) (.nu .i64 (.ofNat b)) = some (.nu .i64 (.ofNat (min a b))) := by
 show some (CV.nu .i64 (match cr (.ofNat a) (.ofNat b) with | true => .ofNat a | false => .ofNat b)) = _
 rw [show cr (.ofNat a) (.ofNat b) = Nat.ble a b from rfl]
 rcases Nat.lt_or_ge b a with h | h
 · rw [il h, Nat.min_eq_right (by omega)]
 · rw [ik h, Nat.min_eq_left h]
end
end Go.CP
