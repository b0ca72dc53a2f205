/- A tree of a law's own: Cut and Size. Conditions: each theorem's own premises. -/
import Derived.Test.YtiohpmcedfbcgacGreatDoorTreeLaw
import Derived.Test.YtiohpmcedfbcgacGreatDoorTreeBytes
namespace Go.Proofs.YtiohpmcedfbcgacGreatDoor
open Go.RowKit
set_option linter.unusedVariables false

section
variable {W w w' w1 w2 : World} {tb : Nat} {T T' : PT} {n : Int} {F : Nat → Prop}
theorem law_cut (h : TreeLaw W w tb T) (n size : Int) :
    Calls Tryz.prog 30 #[.pointer (some ⟨tb, 0, none⟩), .int .i64 n, .int .i64 size] w fun e w' => e = .returned (TErr (cutE T n size)) ∧ TreeLaw W w' tb (cutT T n size) := by
  obtain ⟨F, h1, h2⟩ := h.tree
  exact (cut_is h1 n size).mono fun e w' x => ⟨x.1, TreeLaw.next h.turn h2 x.2⟩
theorem law_size (h : TreeLaw W w tb T) (n : Int) :
    Calls Tryz.prog 31 #[.pointer (some ⟨tb, 0, none⟩), .int .i64 n] w fun e w' => e = .returned (.tuple #[.int .i64 (sizeT T n), TErr (fileE T n)]) ∧ TreeLaw W w' tb T := by
  obtain ⟨F, h1, h2⟩ := h.tree
  exact (size_is h1 n).mono fun e w' x => ⟨x.1, by rw [x.2]; exact h⟩
end
end Go.Proofs.YtiohpmcedfbcgacGreatDoor
