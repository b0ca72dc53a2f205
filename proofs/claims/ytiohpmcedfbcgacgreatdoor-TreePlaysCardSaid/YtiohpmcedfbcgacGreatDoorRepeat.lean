/- strings.Repeat of a zero byte; bytes that are written into bytes. Conditions: each theorem's own premises. -/
import Derived.Test.YtiohpmcedfbcgacGreatDoorPaths
import Derived.Test.YtiohpmcedfbcgacGreatDoorRepI
namespace Go.Proofs.YtiohpmcedfbcgacGreatDoor
open Go.RowKit
set_option linter.unusedVariables false

def zerosB (k : Nat) : ByteArray := ⟨(Go.Lib.repeatL [0] k).toArray⟩
def zeroByte : ByteArray := ⟨#[0]⟩
theorem repExtra : Go.Proofs.Builder.Extra Tryz.prog laysRepI_ren :=
  { sizeBuilder := by kernel_rfl
    liesBuilder := by kernel_rfl
    t5 := by kernel_rfl
    a5 := laysRepI.a5
    z5 := laysRepI.z5
    v5 := laysRepI.v5
    infoByte := by kernel_rfl
    cellsByte := by kernel_rfl
    sizeByte := by kernel_rfl
    neB5 := by decide }
theorem repeat_is (c : Nat) (hc : c ≤ 1000) (w : World) : Calls Tryz.prog 97 #[.string zeroByte, .int .i64 c] w fun e w' => e = .returned (.string (zerosB c)) ∧ Turn (fun _ => False) w w' := by
  refine (Any.strings_Repeat laysRepI repExtra zeroByte c w (by omega) (by rw [show zeroByte.size = 1 from rfl]; omega)).mono ?_
  rintro e w' ⟨rfl, hb⟩
  exact ⟨rfl, ⟨hb.os, hb.tape, hb.output, hb.size, fun k hk _ => hb.block k hk⟩⟩
theorem zerosB_size (k : Nat) : (zerosB k).size = k := by
  rw [Go.Lib.size_eq]
  show (Go.Lib.repeatL [0] k).toArray.toList.length = k
  rw [List.toList_toArray]
  induction k with
  | zero => rfl
  | succ k ih =>
    show ([0] ++ Go.Lib.repeatL [0] k).length = k + 1
    rw [List.length_append, ih]
    simp; omega
def padB (d : ByteArray) (a : Nat) : ByteArray := if d.size < a then d ++ zerosB (a - d.size) else d
def putB (y : ByteArray) (a : Nat) (s : ByteArray) : ByteArray := y.extract 0 a ++ s ++ y.extract (min (a + s.size) y.size) y.size
def writeB (d : ByteArray) (a : Nat) (s : ByteArray) : ByteArray := putB (padB d a) a s
theorem append_size (x y : ByteArray) : (x ++ y).size = x.size + y.size := ByteArray.size_append
theorem padB_size (d : ByteArray) (a : Nat) : (padB d a).size = max d.size a := by
  unfold padB
  split
  · rw [append_size, zerosB_size]; omega
  · omega
theorem putB_size (y : ByteArray) (a : Nat) (s : ByteArray) (h : a ≤ y.size) : (putB y a s).size = max y.size (a + s.size) := by
  unfold putB
  rw [append_size, append_size, extract_size y 0 a h, extract_size y _ y.size (Nat.le_refl _)]
  omega
theorem writeB_size (d : ByteArray) (a : Nat) (s : ByteArray) : (writeB d a s).size = max (max d.size a) (a + s.size) := by
  unfold writeB
  rw [putB_size _ _ _ (by rw [padB_size]; omega), padB_size]
end Go.Proofs.YtiohpmcedfbcgacGreatDoor
