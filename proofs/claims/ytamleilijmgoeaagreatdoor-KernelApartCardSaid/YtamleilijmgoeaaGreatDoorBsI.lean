/- The kit's library contract Lays.n169 laid at this translation's numbers (written by the kit's lay-plain.mjs, turned by a program of ours). No condition. -/
import Derived.Shelf.SlGeneric
import Derived.Shelf.Strings.Builder1
import Derived.Ground.NamesProg
import Derived.Test.YtamleilijmgoeaaGreatDoorProg
namespace Go.Proofs.YtamleilijmgoeaaGreatDoor
open Go.Shelf
def laysBsI_ren : Go.Shelf.Ren := ⟨fun | 169 => 214 | n => n, fun | 70 => 320 | 9 => 9 | 0 => 0 | 72 => 323 | 37 => 321 | 127 => 372 | 3 => 3 | 5 => 5 | n => n, fun | n => n⟩
theorem laysBsI : Go.Proofs.Lays.n169 Tryz.prog laysBsI_ren := {
  mixed := by kernel_rfl
  f169 := Tryz.func214.trans (congrArg some (by kernel_rfl))
  t0 := Tryz.underlying0
  a0 := Tryz.isAgg0
  z0 := Tryz.sizeOf0
  v0 := Tryz.zeroValue0
  t3 := Tryz.underlying3
  a3 := Tryz.isAgg3
  z3 := Tryz.sizeOf3
  v3 := Tryz.zeroValue3
  t9 := Tryz.underlying9
  a9 := Tryz.isAgg9
  z9 := Tryz.sizeOf9
  v9 := Tryz.zeroValue9
  t37 := Tryz.underlying321
  a37 := Tryz.isAgg321
  z37 := Tryz.sizeOf321
  v37 := Tryz.zeroValue321
  t70 := Tryz.underlying320
  a70 := Tryz.isAgg320
  z70 := Tryz.sizeOf320
  v70 := Tryz.zeroValue320
  t72 := Tryz.underlying323
  a72 := Tryz.isAgg323
  z72 := Tryz.sizeOf323
  v72 := Tryz.zeroValue323
  t127 := Tryz.underlying372
  a127 := Tryz.isAgg372
  z127 := Tryz.sizeOf372
  v127 := Tryz.zeroValue372 }
end Go.Proofs.YtamleilijmgoeaaGreatDoor
