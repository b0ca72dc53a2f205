/- Moves (a bool, an int) in memory. Conditions: each theorem's own premises. -/
import Derived.Test.YtiohpmcedfbcgabDoorBase
namespace Go.Proofs.YtiohpmcedfbcgabDoor
open Go.RowKit
set_option linter.unusedVariables false

/-- A list of moves lies from off on in block b. -/
def MovesAt (w : World) (b off : Nat) (xs : List (Bool × Int)) : Prop :=
  ∀ j m, xs[j]? = some m → w.cell? ⟨b, off + j * 2, none⟩ = some (.bool m.1) ∧ w.cell? ⟨b, off + j * 2 + 1, none⟩ = some (.int .i64 m.2)
theorem MovesAt.turned {w w' : World} {b off : Nat} {xs : List (Bool × Int)} {S : Nat → Prop} (h : MovesAt w b off xs) (t : Turn S w w') (hb : b < w.heap.size) (hn : ¬ S b) : MovesAt w' b off xs :=
  fun j f hf => ⟨(t.cell (a := ⟨b, off + j * 2, none⟩) hb hn).trans (h j f hf).1, (t.cell (a := ⟨b, off + j * 2 + 1, none⟩) hb hn).trans (h j f hf).2⟩
end Go.Proofs.YtiohpmcedfbcgabDoor
