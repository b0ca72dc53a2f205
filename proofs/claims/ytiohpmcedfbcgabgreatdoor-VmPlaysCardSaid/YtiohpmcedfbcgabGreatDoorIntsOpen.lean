/- A slice of structs of integers: its cells. Conditions: each theorem's own premises. -/
import Derived.Test.YtiohpmcedfbcgabGreatDoorProg
import Derived.Test.YtiohpmcedfbcgabGreatDoorOpen
namespace Go.Proofs.YtiohpmcedfbcgabGreatDoor
open Go.ChangeShapes Go.WideShapes Go.ChangeAt Go.RowKit
set_option linter.unusedVariables false

theorem struct_ints {H : Type} {enc : TypeId × Value → H} {W : World} {fs : Array Field} {b off n : Nat} (h : StructsAt enc Tryz.prog W fs b off n) (ht : ∀ (j : Nat) (f : Field), fs[j]? = some f → Tryz.prog.underlying f.type = some (.int .i64)) :
    ∃ g : Nat → Nat → Int, ∀ i j, i < n → j < fs.size → W.cell? ⟨b, off + (i * fs.size + j), none⟩ = some (.int .i64 (g i j)) ∧ (Lit.int .i64 (g i j)).wf = true := by
  have get : ∀ i j, i < n → j < fs.size → ∃ z : Int, W.cell? ⟨b, off + (i * fs.size + j), none⟩ = some (.int .i64 z) ∧ (Lit.int .i64 z).wf = true := by
    intro i j hi hj
    have hf : fs[j]? = some (fs[j]'(by omega)) := by simp [hj]
    obtain ⟨v, y, m, hc, hd⟩ := h i j _ hi hf
    obtain ⟨z, hz, _, hw⟩ := DataW.trod_int (ht j _ hf) hd
    simp only [List.cons.injEq, and_true] at hz
    subst hz
    exact ⟨z, hc, hw⟩
  refine ⟨fun i j => match W.cell? ⟨b, off + (i * fs.size + j), none⟩ with | some (.int _ z) => z | _ => 0, fun i j hi hj => ?_⟩
  obtain ⟨z, hz, hw⟩ := get i j hi hj
  simp only [hz]
  exact ⟨trivial, hw⟩
end Go.Proofs.YtiohpmcedfbcgabGreatDoor
