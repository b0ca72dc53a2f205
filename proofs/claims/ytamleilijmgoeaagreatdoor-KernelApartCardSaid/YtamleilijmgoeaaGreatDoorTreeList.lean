/- Package tree: List: a directory's names, in order. Conditions: each theorem's own premises. A tree of a law's own: each call of package tree, told over the plain tree alone. Conditions: each theorem's own premises. -/
import Derived.Test.YtamleilijmgoeaaGreatDoorPaths
import Derived.Test.YtamleilijmgoeaaGreatDoorKeysStr
import Derived.Test.YtamleilijmgoeaaGreatDoorKeysN
import Derived.Test.YtamleilijmgoeaaGreatDoorBase
namespace Go.Proofs.YtamleilijmgoeaaGreatDoor
open Go.RowKit
set_option linter.unusedVariables false
section
open Go.RowKit Go.Maps Go.Sort Go.Shelf Go.WideElems
end
structure TreeLaw (W w:World) (tb:Nat) (T:PT):Prop where
 tree:∃ F,TreeIs w tb T F∧∀ k,F k→W.heap.size≤k
 turn:Turn (fun _ => False) W w
section
variable {W w w' w1 w2:World} {tb:Nat} {T T':PT} {n:Int} {F:Nat→Prop}
theorem law_new (w:World):Calls Tryz.prog 47 #[] w fun e w' => ∃ tb,e=.returned (.pointer (some ⟨tb,0,none⟩))∧TreeLaw w w' tb rootT:=by
 refine (treeNew_is w).mono ?_
 rintro e w' ⟨tb,F,rfl,h,t,hf⟩
 exact ⟨tb,rfl,⟨⟨F,h,hf⟩,t⟩⟩
end
end Go.Proofs.YtamleilijmgoeaaGreatDoor
