/- The kit's library contract Lays.n146 laid at this translation's numbers (written by the kit's lay-plain.mjs, turned by a program of ours). No condition. -/
import Derived.Shelf.SlGeneric
import Derived.Shelf.Strings.Split
import Derived.Ground.NamesProg
import Derived.Test.YtamleilijmgoeaaGreatDoorProg
namespace Go.Proofs.YtamleilijmgoeaaGreatDoor
open Go.Shelf
def laysSplitI_ren : Go.Shelf.Ren := ⟨fun | 146 => 301 | 221 => 316 | 268 => 330 | 138 => 331 | 143 => 332 | 195 => 337 | 197 => 338 | 218 => 339 | 219 => 340 | 260 => 342 | 217 => 343 | 225 => 344 | 224 => 345 | 267 => 346 | 266 => 347 | 314 => 348 | n => n, fun | 9 => 9 | 31 => 22 | 3 => 3 | 4 => 4 | 0 => 0 | 105 => 446 | 21 => 21 | 5 => 5 | 46 => 134 | 119 => 450 | 139 => 453 | 138 => 452 | 146 => 404 | 51 => 403 | n => n, fun | 1 => 2 | 3 => 5 | 4 => 6 | n => n⟩
theorem laysSplitI : Go.Proofs.Lays.n146 Tryz.prog laysSplitI_ren := {
  mixed := by kernel_rfl
  f138 := Tryz.func331.trans (congrArg some (by kernel_rfl))
  f143 := Tryz.func332.trans (congrArg some (by kernel_rfl))
  f146 := Tryz.func301.trans (congrArg some (by kernel_rfl))
  f195 := Tryz.func337.trans (congrArg some (by kernel_rfl))
  f197 := Tryz.func338.trans (congrArg some (by kernel_rfl))
  f217 := Tryz.func343.trans (congrArg some (by kernel_rfl))
  f218 := Tryz.func339.trans (congrArg some (by kernel_rfl))
  f219 := Tryz.func340.trans (congrArg some (by kernel_rfl))
  f221 := Tryz.func316.trans (congrArg some (by kernel_rfl))
  f224 := Tryz.func345.trans (congrArg some (by kernel_rfl))
  f225 := Tryz.func344.trans (congrArg some (by kernel_rfl))
  f260 := Tryz.func342.trans (congrArg some (by kernel_rfl))
  f266 := Tryz.func347.trans (congrArg some (by kernel_rfl))
  f267 := Tryz.func346.trans (congrArg some (by kernel_rfl))
  f268 := Tryz.func330.trans (congrArg some (by kernel_rfl))
  f314 := Tryz.func348.trans (congrArg some (by kernel_rfl))
  t0 := Tryz.underlying0
  a0 := Tryz.isAgg0
  z0 := Tryz.sizeOf0
  v0 := Tryz.zeroValue0
  t3 := Tryz.underlying3
  a3 := Tryz.isAgg3
  z3 := Tryz.sizeOf3
  v3 := Tryz.zeroValue3
  t4 := Tryz.underlying4
  a4 := Tryz.isAgg4
  z4 := Tryz.sizeOf4
  v4 := Tryz.zeroValue4
  t5 := Tryz.underlying5
  a5 := Tryz.isAgg5
  z5 := Tryz.sizeOf5
  v5 := Tryz.zeroValue5
  t9 := Tryz.underlying9
  a9 := Tryz.isAgg9
  z9 := Tryz.sizeOf9
  v9 := Tryz.zeroValue9
  t21 := Tryz.underlying21
  a21 := Tryz.isAgg21
  z21 := Tryz.sizeOf21
  v21 := Tryz.zeroValue21
  t31 := Tryz.underlying22
  a31 := Tryz.isAgg22
  z31 := Tryz.sizeOf22
  v31 := Tryz.zeroValue22
  t46 := Tryz.underlying134
  a46 := Tryz.isAgg134
  z46 := Tryz.sizeOf134
  v46 := Tryz.zeroValue134
  t51 := Tryz.underlying403
  a51 := Tryz.isAgg403
  z51 := Tryz.sizeOf403
  v51 := Tryz.zeroValue403
  t105 := Tryz.underlying446
  a105 := Tryz.isAgg446
  z105 := Tryz.sizeOf446
  v105 := Tryz.zeroValue446
  t119 := Tryz.underlying450
  a119 := Tryz.isAgg450
  z119 := Tryz.sizeOf450
  t138 := Tryz.underlying452
  a138 := Tryz.isAgg452
  z138 := Tryz.sizeOf452
  v138 := Tryz.zeroValue452
  t139 := Tryz.underlying453
  a139 := Tryz.isAgg453
  z139 := Tryz.sizeOf453
  v139 := Tryz.zeroValue453
  t146 := Tryz.underlying404
  a146 := Tryz.isAgg404
  z146 := Tryz.sizeOf404
  v146 := Tryz.zeroValue404
  g1 := by kernel_rfl
  g3 := by kernel_rfl
  g4 := by kernel_rfl }
end Go.Proofs.YtamleilijmgoeaaGreatDoor
