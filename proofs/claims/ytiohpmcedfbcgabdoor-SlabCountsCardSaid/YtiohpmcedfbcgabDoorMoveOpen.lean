/- A slice of moves (a bool, an int), as a list of pairs. Conditions: each theorem's own premises. -/
import Derived.Test.YtiohpmcedfbcgabDoorProg
import Derived.Test.YtiohpmcedfbcgabDoorMoves
import Derived.Test.YtiohpmcedfbcgabDoorOpen
namespace Go.Proofs.YtiohpmcedfbcgabDoor
open Go.ChangeShapes Go.WideShapes Go.ChangeAt Go.RowKit
set_option linter.unusedVariables false

theorem move_list {H : Type} {enc : TypeId × Value → H} {W : World} {fs : Array Field} {b off n : Nat} (h : StructsAt enc Tryd.prog W fs b off n) (hs : fs.size = 2) (ht0 : ∀ f, fs[0]? = some f → f.type = 4) (ht1 : ∀ f, fs[1]? = some f → f.type = 3) :
    ∃ xs : List (Bool × Int), xs.length = n ∧ MovesAt W b off xs := by
  have get0 : ∀ i, i < n → ∃ z : Bool, W.cell? ⟨b, off + i * 2, none⟩ = some (.bool z) := by
    intro i hi
    have hf : fs[0]? = some (fs[0]'(by omega)) := by simp [hs]
    obtain ⟨v, y, m, hc, hd⟩ := h i 0 _ hi hf
    rw [ht0 _ hf] at hd
    obtain ⟨z, hz, _⟩ := DataW.trod_bool Tryd.underlying4 hd
    simp only [List.cons.injEq, and_true] at hz
    subst hz
    rw [hs, Nat.add_zero] at hc
    exact ⟨z, hc⟩
  have get1 : ∀ i, i < n → ∃ z : Int, W.cell? ⟨b, off + i * 2 + 1, none⟩ = some (.int .i64 z) := by
    intro i hi
    have hf : fs[1]? = some (fs[1]'(by omega)) := by simp [hs]
    obtain ⟨v, y, m, hc, hd⟩ := h i 1 _ hi hf
    rw [ht1 _ hf] at hd
    obtain ⟨z, hz, _, _⟩ := DataW.trod_int Tryd.underlying3 hd
    simp only [List.cons.injEq, and_true] at hz
    subst hz
    rw [hs, ← Nat.add_assoc] at hc
    exact ⟨z, hc⟩
  let g0 : Nat → Bool := fun i => match W.cell? ⟨b, off + i * 2, none⟩ with | some (.bool z) => z | _ => false
  let g1 : Nat → Int := fun i => match W.cell? ⟨b, off + i * 2 + 1, none⟩ with | some (.int _ z) => z | _ => 0
  have hg0 : ∀ i, i < n → W.cell? ⟨b, off + i * 2, none⟩ = some (.bool (g0 i)) := by
    intro i hi
    obtain ⟨z, hz⟩ := get0 i hi
    have e : g0 i = z := by simp only [g0, hz]
    rw [e]; exact hz
  have hg1 : ∀ i, i < n → W.cell? ⟨b, off + i * 2 + 1, none⟩ = some (.int .i64 (g1 i)) := by
    intro i hi
    obtain ⟨z, hz⟩ := get1 i hi
    have e : g1 i = z := by simp only [g1, hz]
    rw [e]; exact hz
  refine ⟨(List.range n).map fun i => (g0 i, g1 i), by simp, ?_⟩
  intro i c hc
  have hi : i < n := by
    have := (List.getElem?_eq_some_iff.1 hc).1
    simpa using this
  simp only [List.getElem?_map, List.getElem?_range hi, Option.map_some, Option.some.injEq] at hc
  subst hc
  exact ⟨hg0 i hi, hg1 i hi⟩
end Go.Proofs.YtiohpmcedfbcgabDoor
