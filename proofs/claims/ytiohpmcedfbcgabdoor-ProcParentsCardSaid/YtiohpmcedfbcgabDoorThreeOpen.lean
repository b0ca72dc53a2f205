/- A slice of three-integer structs, as a list of triples. Conditions: each theorem's own premises. -/
import Derived.Test.YtiohpmcedfbcgabDoorProg
import Derived.Test.YtiohpmcedfbcgabDoorOpen
namespace Go.Proofs.YtiohpmcedfbcgabDoor
open Go.ChangeShapes Go.WideShapes Go.ChangeAt Go.RowKit
set_option linter.unusedVariables false

theorem three_ints {H : Type} {enc : TypeId × Value → H} {W : World} {fs : Array Field} {b off n : Nat} (h : StructsAt enc Tryd.prog W fs b off n) (hs : fs.size = 3) (ht : ∀ (j : Nat) (f : Field), fs[j]? = some f → f.type = 3) :
    ∃ xs : List (Int × Int × Int), xs.length = n ∧ ∀ (j : Nat) x, xs[j]? = some x → W.cell? ⟨b, off + j * 3, none⟩ = some (.int .i64 x.1) ∧ W.cell? ⟨b, off + j * 3 + 1, none⟩ = some (.int .i64 x.2.1) ∧ W.cell? ⟨b, off + j * 3 + 2, none⟩ = some (.int .i64 x.2.2) := by
  have get : ∀ i j, i < n → j < 3 → ∃ z : Int, W.cell? ⟨b, off + (i * 3 + j), none⟩ = some (.int .i64 z) := by
    intro i j hi hj
    have hf : fs[j]? = some (fs[j]'(by omega)) := by simp
    obtain ⟨v, y, m, hc, hd⟩ := h i j _ hi hf
    rw [ht j _ hf] at hd
    obtain ⟨z, hz, _, _⟩ := DataW.trod_int Tryd.underlying3 hd
    simp only [List.cons.injEq, and_true] at hz
    subst hz
    rw [hs] at hc
    exact ⟨z, hc⟩
  let g : Nat → Nat → Int := fun i j => match W.cell? ⟨b, off + (i * 3 + j), none⟩ with | some (.int _ z) => z | _ => 0
  have hg : ∀ i j, i < n → j < 3 → W.cell? ⟨b, off + (i * 3 + j), none⟩ = some (.int .i64 (g i j)) := by
    intro i j hi hj
    obtain ⟨z, hz⟩ := get i j hi hj
    have e : g i j = z := by simp only [g, hz]
    rw [e]; exact hz
  refine ⟨(List.range n).map fun i => (g i 0, g i 1, g i 2), by simp, ?_⟩
  intro i c hc
  have hi : i < n := by
    have := (List.getElem?_eq_some_iff.1 hc).1
    simpa using this
  simp only [List.getElem?_map, List.getElem?_range hi, Option.map_some, Option.some.injEq] at hc
  subst hc
  exact ⟨hg i 0 hi (by decide), hg i 1 hi (by decide), hg i 2 hi (by decide)⟩
end Go.Proofs.YtiohpmcedfbcgabDoor
