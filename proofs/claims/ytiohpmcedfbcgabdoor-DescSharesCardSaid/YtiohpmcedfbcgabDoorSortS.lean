/- The kit's library contract SlLaysM.n6 laid at this translation's numbers (written by the kit's lay-plain.mjs, turned by a program of ours). No condition. -/
import Derived.Shelf.SlGeneric
import Derived.Shelf.SortM.Plain
import Derived.Shelf.SortM.SortNone
import Derived.Ground.SlgmProg
import Derived.Test.YtiohpmcedfbcgabDoorProg
namespace Go.Proofs.YtiohpmcedfbcgabDoor
open Go.Shelf
def laysSortS_ren : Go.Shelf.Ren := ⟨fun | 6 => 201 | 8 => 150 | 9 => 222 | 19 => 191 | 20 => 192 | 21 => 231 | 22 => 232 | 23 => 233 | 24 => 234 | 25 => 235 | 26 => 236 | 27 => 237 | 28 => 238 | 29 => 239 | 36 => 245 | 31 => 208 | 32 => 209 | 37 => 246 | 38 => 247 | 39 => 248 | 41 => 254 | n => n, fun | 27 => 219 | 29 => 9 | 3 => 3 | 32 => 93 | 26 => 219 | 0 => 0 | 44 => 272 | 46 => 275 | 4 => 4 | 36 => 281 | 35 => 280 | 41 => 163 | 5 => 5 | 9 => 9 | 53 => 315 | 57 => 319 | 63 => 330 | 64 => 331 | n => n, fun | n => n⟩
theorem laysSortS : Go.Proofs.SlLaysM.n6 Tryd.prog laysSortS_ren := {
  mixed := by kernel_rfl
  f6 := ⟨Tryd.f201.name, by decide, Tryd.func201.trans (congrArg some (by kernel_rfl))⟩
  f8 := Tryd.func150.trans (congrArg some (by kernel_rfl))
  f9 := ⟨Tryd.f222.name, by decide, Tryd.func222.trans (congrArg some (by kernel_rfl))⟩
  f19 := Tryd.func191.trans (congrArg some (by kernel_rfl))
  f20 := Tryd.func192.trans (congrArg some (by kernel_rfl))
  f21 := ⟨Tryd.f231.name, by decide, Tryd.func231.trans (congrArg some (by kernel_rfl))⟩
  f22 := ⟨Tryd.f232.name, by decide, Tryd.func232.trans (congrArg some (by kernel_rfl))⟩
  f23 := ⟨Tryd.f233.name, by decide, Tryd.func233.trans (congrArg some (by kernel_rfl))⟩
  f24 := ⟨Tryd.f234.name, by decide, Tryd.func234.trans (congrArg some (by kernel_rfl))⟩
  f25 := ⟨Tryd.f235.name, by decide, Tryd.func235.trans (congrArg some (by kernel_rfl))⟩
  f26 := ⟨Tryd.f236.name, by decide, Tryd.func236.trans (congrArg some (by kernel_rfl))⟩
  f27 := ⟨Tryd.f237.name, by decide, Tryd.func237.trans (congrArg some (by kernel_rfl))⟩
  f28 := ⟨Tryd.f238.name, by decide, Tryd.func238.trans (congrArg some (by kernel_rfl))⟩
  f29 := ⟨Tryd.f239.name, by decide, Tryd.func239.trans (congrArg some (by kernel_rfl))⟩
  f31 := Tryd.func208.trans (congrArg some (by kernel_rfl))
  f32 := Tryd.func209.trans (congrArg some (by kernel_rfl))
  f36 := ⟨Tryd.f245.name, by decide, Tryd.func245.trans (congrArg some (by kernel_rfl))⟩
  f37 := ⟨Tryd.f246.name, by decide, Tryd.func246.trans (congrArg some (by kernel_rfl))⟩
  f38 := ⟨Tryd.f247.name, by decide, Tryd.func247.trans (congrArg some (by kernel_rfl))⟩
  f39 := ⟨Tryd.f248.name, by decide, Tryd.func248.trans (congrArg some (by kernel_rfl))⟩
  f41 := ⟨Tryd.f254.name, by decide, Tryd.func254.trans (congrArg some (by kernel_rfl))⟩
  t0 := Tryd.underlying0
  a0 := Tryd.isAgg0
  z0 := Tryd.sizeOf0
  v0 := Tryd.zeroValue0
  t3 := Tryd.underlying3
  a3 := Tryd.isAgg3
  z3 := Tryd.sizeOf3
  v3 := Tryd.zeroValue3
  t4 := Tryd.underlying4
  a4 := Tryd.isAgg4
  z4 := Tryd.sizeOf4
  v4 := Tryd.zeroValue4
  t5 := Tryd.underlying5
  a5 := Tryd.isAgg5
  z5 := Tryd.sizeOf5
  v5 := Tryd.zeroValue5
  t9 := Tryd.underlying9
  a9 := Tryd.isAgg9
  z9 := Tryd.sizeOf9
  v9 := Tryd.zeroValue9
  t26 := Tryd.underlying219
  a26 := Tryd.isAgg219
  z26 := Tryd.sizeOf219
  v26 := Tryd.zeroValue219
  t27 := Tryd.underlying219
  a27 := Tryd.isAgg219
  z27 := Tryd.sizeOf219
  v27 := Tryd.zeroValue219
  t29 := Tryd.underlying9
  a29 := Tryd.isAgg9
  z29 := Tryd.sizeOf9
  v29 := Tryd.zeroValue9
  t32 := Tryd.underlying93
  a32 := Tryd.isAgg93
  z32 := Tryd.sizeOf93
  v32 := Tryd.zeroValue93
  t35 := Tryd.underlying280
  a35 := Tryd.isAgg280
  z35 := Tryd.sizeOf280
  v35 := Tryd.zeroValue280
  t36 := Tryd.underlying281
  a36 := Tryd.isAgg281
  z36 := Tryd.sizeOf281
  v36 := Tryd.zeroValue281
  t41 := Tryd.underlying163
  a41 := Tryd.isAgg163
  z41 := Tryd.sizeOf163
  v41 := Tryd.zeroValue163
  t44 := Tryd.underlying272
  a44 := Tryd.isAgg272
  z44 := Tryd.sizeOf272
  v44 := Tryd.zeroValue272
  t46 := Tryd.underlying275
  a46 := Tryd.isAgg275
  z46 := Tryd.sizeOf275
  v46 := Tryd.zeroValue275
  t53 := Tryd.underlying315
  a53 := Tryd.isAgg315
  z53 := Tryd.sizeOf315
  v53 := Tryd.zeroValue315
  t57 := Tryd.underlying319
  a57 := Tryd.isAgg319
  z57 := Tryd.sizeOf319
  v57 := Tryd.zeroValue319
  t63 := Tryd.underlying330
  a63 := Tryd.isAgg330
  z63 := Tryd.sizeOf330
  v63 := Tryd.zeroValue330
  t64 := Tryd.underlying331
  a64 := Tryd.isAgg331
  z64 := Tryd.sizeOf331
  v64 := Tryd.zeroValue331 }
end Go.Proofs.YtiohpmcedfbcgabDoor
