/- A slice of structs of integers: its cells. Conditions: each theorem's own premises. -/
import Derived.Test.YtiohpmcedfbcgabDoorProg
import Derived.Test.YtiohpmcedfbcgabDoorOpen
namespace Go.Proofs.YtiohpmcedfbcgabDoor
open Go.ChangeShapes Go.WideShapes Go.ChangeAt Go.RowKit
set_option linter.unusedVariables false

theorem struct_ints {H : Type} {enc : TypeId × Value → H} {W : World} {fs : Array Field} {b off n : Nat} (h : StructsAt enc Tryd.prog W fs b off n) (ht : ∀ (j : Nat) (f : Field), fs[j]? = some f → Tryd.prog.underlying f.type = some (.int .i64)) :
    ∃ g : Nat → Nat → Int, ∀ i j, i < n → j < fs.size → W.cell? ⟨b, off + (i * fs.size + j), none⟩ = some (.int .i64 (g i j)) := by
  have get : ∀ i j, i < n → j < fs.size → ∃ z : Int, W.cell? ⟨b, off + (i * fs.size + j), none⟩ = some (.int .i64 z) := by
    intro i j hi hj
    have hf : fs[j]? = some (fs[j]'(by omega)) := by simp [hj]
    obtain ⟨v, y, m, hc, hd⟩ := h i j _ hi hf
    obtain ⟨z, hz, _, _⟩ := DataW.trod_int (ht j _ hf) hd
    simp only [List.cons.injEq, and_true] at hz
    subst hz
    exact ⟨z, hc⟩
  refine ⟨fun i j => match W.cell? ⟨b, off + (i * fs.size + j), none⟩ with | some (.int _ z) => z | _ => 0, fun i j hi hj => ?_⟩
  obtain ⟨z, hz⟩ := get i j hi hj
  simp only [hz]
end Go.Proofs.YtiohpmcedfbcgabDoor
