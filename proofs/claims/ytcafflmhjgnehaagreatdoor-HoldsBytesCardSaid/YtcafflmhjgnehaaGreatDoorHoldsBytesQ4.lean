/-
  HoldsBytes: for every list of holds and every bytes in memory the function returns true, does not panic and leaves what was there; its condition is the one of its row. Part 5 of 14.
-/
import Derived.Shelf.SlIter.Nil
import Derived.Shelf.SortM.Plain
import Derived.Shelf.SortM.SortNone
import Derived.Ground.GgzProg
import Derived.Ground.SlgmProg
import Derived.Shelf.SlGeneric
import Derived.Test.YtcafflmhjgnehaaGreatDoorProg
set_option linter.unusedSimpArgs false
set_option linter.unusedVariables false
set_option linter.defProp false
set_option maxRecDepth 100000
/-
 Contracts of the shelf, laid at this program.
-/
namespace Go.Proofs
open Go.Shelf
def Tryz.sortedS_ren : Go.Shelf.Ren := ⟨fun | 6 => 54 | 8 => 110 | 9 => 111 | 11 => 153 | 13 => 148 | 12 => 154 | 23 => 176 | 24 => 177 | 14 => 179 | 15 => 180 | 16 => 181 | 17 => 182 | 18 => 183 | 19 => 184 | 20 => 185 | 21 => 186 | 22 => 187 | 25 => 200 | 26 => 195 | 27 => 196 | 28 => 201 | 29 => 202 | 30 => 150 | 31 => 211 | n => n, fun | 26 => 9 | 28 => 112 | 24 => 74 | 0 => 0 | 3 => 3 | 37 => 191 | 48 => 213 | 50 => 215 | 4 => 4 | 40 => 207 | 39 => 206 | 45 => 106 | 5 => 5 | 9 => 9 | 51 => 225 | 55 => 229 | 57 => 240 | 58 => 186 | 33 => 146 | n => n, fun | n => n⟩
theorem Tryz.sortedS : Go.Proofs.SlLaysZ.n6 Tryz.prog Tryz.sortedS_ren := {
 mixed := by kernel_rfl
 f6 := ⟨Tryz.f54.name, by decide, Tryz.func54.trans (congrArg some (by kernel_rfl))⟩
 f8 := ⟨Tryz.f110.name, by decide, Tryz.func110.trans (congrArg some (by kernel_rfl))⟩
 f11 := ⟨Tryz.f153.name, by decide, Tryz.func153.trans (congrArg some (by kernel_rfl))⟩
 t0 := Tryz.underlying0
 a0 := Tryz.isAgg0
 z0 := Tryz.sizeOf0
 v0 := Tryz.zeroValue0
 t24 := Tryz.underlying74
 a24 := Tryz.isAgg74
 z24 := Tryz.sizeOf74
 v24 := Tryz.zeroValue74
 t26 := Tryz.underlying9
 a26 := Tryz.isAgg9
 z26 := Tryz.sizeOf9
 v26 := Tryz.zeroValue9
 t28 := Tryz.underlying112
 a28 := Tryz.isAgg112
 z28 := Tryz.sizeOf112
 v28 := Tryz.zeroValue112
 i26 := by kernel_rfl }
def Tryz.sortS_ren : Go.Shelf.Ren := ⟨fun | 6 => 111 | 8 => 148 | 9 => 154 | 19 => 176 | 20 => 177 | 21 => 179 | 22 => 180 | 23 => 181 | 24 => 182 | 25 => 183 | 26 => 184 | 27 => 185 | 28 => 186 | 29 => 187 | 36 => 200 | 31 => 195 | 32 => 196 | 37 => 201 | 38 => 202 | 39 => 150 | 41 => 211 | n => n, fun | 27 => 74 | 29 => 9 | 3 => 3 | 32 => 191 | 26 => 74 | 0 => 0 | 44 => 213 | 46 => 215 | 4 => 4 | 36 => 207 | 35 => 206 | 41 => 106 | 5 => 5 | 9 => 9 | 53 => 225 | 57 => 229 | 63 => 240 | 64 => 186 | n => n, fun | n => n⟩
theorem Tryz.sortS : Go.Proofs.SlLaysM.n6 Tryz.prog Tryz.sortS_ren := {
 mixed := by kernel_rfl
 f6 := ⟨Tryz.f111.name, by decide, Tryz.func111.trans (congrArg some (by kernel_rfl))⟩
 f8 := Tryz.func148.trans (congrArg some (by kernel_rfl))
 f9 := ⟨Tryz.f154.name, by decide, Tryz.func154.trans (congrArg some (by kernel_rfl))⟩
 f19 := Tryz.func176.trans (congrArg some (by kernel_rfl))
 f20 := Tryz.func177.trans (congrArg some (by kernel_rfl))
 f21 := ⟨Tryz.f179.name, by decide, Tryz.func179.trans (congrArg some (by kernel_rfl))⟩
 f22 := ⟨Tryz.f180.name, by decide, Tryz.func180.trans (congrArg some (by kernel_rfl))⟩
 f23 := ⟨Tryz.f181.name, by decide, Tryz.func181.trans (congrArg some (by kernel_rfl))⟩
 f24 := ⟨Tryz.f182.name, by decide, Tryz.func182.trans (congrArg some (by kernel_rfl))⟩
 f25 := ⟨Tryz.f183.name, by decide, Tryz.func183.trans (congrArg some (by kernel_rfl))⟩
 f26 := ⟨Tryz.f184.name, by decide, Tryz.func184.trans (congrArg some (by kernel_rfl))⟩
 f27 := ⟨Tryz.f185.name, by decide, Tryz.func185.trans (congrArg some (by kernel_rfl))⟩
 f28 := ⟨Tryz.f186.name, by decide, Tryz.func186.trans (congrArg some (by kernel_rfl))⟩
 f29 := ⟨Tryz.f187.name, by decide, Tryz.func187.trans (congrArg some (by kernel_rfl))⟩
 f31 := Tryz.func195.trans (congrArg some (by kernel_rfl))
 f32 := Tryz.func196.trans (congrArg some (by kernel_rfl))
 f36 := ⟨Tryz.f200.name, by decide, Tryz.func200.trans (congrArg some (by kernel_rfl))⟩
 f37 := ⟨Tryz.f201.name, by decide, Tryz.func201.trans (congrArg some (by kernel_rfl))⟩
 f38 := ⟨Tryz.f202.name, by decide, Tryz.func202.trans (congrArg some (by kernel_rfl))⟩
 f39 := ⟨Tryz.f150.name, by decide, Tryz.func150.trans (congrArg some (by kernel_rfl))⟩
 f41 := ⟨Tryz.f211.name, by decide, Tryz.func211.trans (congrArg some (by kernel_rfl))⟩
 t0 := Tryz.underlying0
 a0 := Tryz.isAgg0
 z0 := Tryz.sizeOf0
 v0 := Tryz.zeroValue0
 t3 := Tryz.underlying3
 a3 := Tryz.isAgg3
 z3 := Tryz.sizeOf3
 v3 := Tryz.zeroValue3
 t4 := Tryz.underlying4
 a4 := Tryz.isAgg4
 z4 := Tryz.sizeOf4
 v4 := Tryz.zeroValue4
 t5 := Tryz.underlying5
 a5 := Tryz.isAgg5
 z5 := Tryz.sizeOf5
 v5 := Tryz.zeroValue5
 t9 := Tryz.underlying9
 a9 := Tryz.isAgg9
 z9 := Tryz.sizeOf9
 v9 := Tryz.zeroValue9
 t26 := Tryz.underlying74
 a26 := Tryz.isAgg74
 z26 := Tryz.sizeOf74
 v26 := Tryz.zeroValue74
 t27 := Tryz.underlying74
 a27 := Tryz.isAgg74
 z27 := Tryz.sizeOf74
 v27 := Tryz.zeroValue74
 t29 := Tryz.underlying9
 a29 := Tryz.isAgg9
 z29 := Tryz.sizeOf9
 v29 := Tryz.zeroValue9
 t32 := Tryz.underlying191
 a32 := Tryz.isAgg191
 z32 := Tryz.sizeOf191
 v32 := Tryz.zeroValue191
 t35 := Tryz.underlying206
 a35 := Tryz.isAgg206
 z35 := Tryz.sizeOf206
 v35 := Tryz.zeroValue206
 t36 := Tryz.underlying207
 a36 := Tryz.isAgg207
 z36 := Tryz.sizeOf207
 v36 := Tryz.zeroValue207
 t41 := Tryz.underlying106
 a41 := Tryz.isAgg106
 z41 := Tryz.sizeOf106
 v41 := Tryz.zeroValue106
 t44 := Tryz.underlying213
 a44 := Tryz.isAgg213
 z44 := Tryz.sizeOf213
 v44 := Tryz.zeroValue213
 t46 := Tryz.underlying215
 a46 := Tryz.isAgg215
 z46 := Tryz.sizeOf215
 v46 := Tryz.zeroValue215
 t53 := Tryz.underlying225
 a53 := Tryz.isAgg225
 z53 := Tryz.sizeOf225
 v53 := Tryz.zeroValue225
 t57 := Tryz.underlying229
 a57 := Tryz.isAgg229
 z57 := Tryz.sizeOf229
 v57 := Tryz.zeroValue229
 t63 := Tryz.underlying240
 a63 := Tryz.isAgg240
 z63 := Tryz.sizeOf240
 v63 := Tryz.zeroValue240
 t64 := Tryz.underlying186
 a64 := Tryz.isAgg186
 z64 := Tryz.sizeOf186
 v64 := Tryz.zeroValue186 }
end Go.Proofs
