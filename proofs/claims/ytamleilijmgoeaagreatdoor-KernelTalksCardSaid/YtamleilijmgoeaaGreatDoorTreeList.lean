/- Package tree: List: a directory's names, in order. Conditions: each theorem's own premises. A tree of a law's own: each call of package tree, told over the plain tree alone. Conditions: each theorem's own premises. -/
import Derived.Test.YtamleilijmgoeaaGreatDoorPaths
import Derived.Test.YtamleilijmgoeaaGreatDoorKeysStr
import Derived.Test.YtamleilijmgoeaaGreatDoorKeysN
import Derived.Test.YtamleilijmgoeaaGreatDoorBase
namespace Go.Proofs.YtamleilijmgoeaaGreatDoor
open Go.RowKit Go.Maps Go.Sort Go.Shelf Go.WideElems
set_option linter.unusedVariables false
section
variable {w w' w1 w2 w3 : World} {tb nm b d : Nat} {T : PT} {B D : Int → Nat} {F : Nat → Prop} {p q : PN} {n : Int} {ds : List (ByteArray × Int)}
theorem RowV.none (w : World) (e : TypeId) : RowV w e (.slice none 0 0) [] := ⟨by simp, .inl ⟨rfl, rfl⟩⟩
end
end Go.Proofs.YtamleilijmgoeaaGreatDoor
namespace Go.Proofs.YtamleilijmgoeaaGreatDoor
open Go.RowKit
set_option linter.unusedVariables false
structure TreeLaw (W w : World) (tb : Nat) (T : PT) : Prop where
 tree : ∃ F, TreeIs w tb T F ∧ ∀ k, F k → W.heap.size ≤ k
 turn : Turn (fun _ => False) W w
section
variable {W w w' w1 w2 : World} {tb : Nat} {T T' : PT} {n : Int} {F : Nat → Prop}
theorem TreeLaw.ok (h : TreeLaw W w tb T) : TOk T := by obtain ⟨F, h1, _⟩ := h.tree; exact h1.ok
theorem TreeLaw.still (h : TreeLaw W w tb T) (t : Turn (fun _ => False) w w') : TreeLaw W w' tb T := by
 obtain ⟨F, h1, h2⟩ := h.tree
 exact ⟨⟨F, h1.turned t (fun _ _ => id), h2⟩, h.turn.trans t⟩
theorem TreeLaw.next (h1 : Turn (fun _ => False) W w) (h2 : ∀ k, F k → W.heap.size ≤ k) (ht : TreeTo tb F w w' T') : TreeLaw W w' tb T' := by
 obtain ⟨F', a, b, c⟩ := ht
 refine ⟨⟨F', a, fun k hk => ?_⟩, h1.trans' b (fun k hk hf => by have := h2 k hf; omega)⟩
 rcases c k hk with h3 | h3
 ·exact h2 k h3
 ·exact Nat.le_trans h1.size h3
theorem law_new (w : World) : Calls Tryz.prog 47 #[] w fun e w' => ∃ tb, e = .returned (.pointer (some ⟨tb, 0, none⟩)) ∧ TreeLaw w w' tb rootT := by
 refine (treeNew_is w).mono ?_
 rintro e w' ⟨tb, F, rfl, h, t, hf⟩
 exact ⟨tb, rfl, ⟨⟨F, h, hf⟩, t⟩⟩
end
end Go.Proofs.YtamleilijmgoeaaGreatDoor
