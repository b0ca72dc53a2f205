/- TreeOne: for every input the law returns true, and its arguments read behind the call as before. Condition: the row's own, that its listed variables are laid; the card ties them to the program's text. -/
import Derived.Test.YtacoaahomdjfnaaDoorTreeOneFacts
import Derived.Test.YtacoaahomdjfnaaDoorTreeOneLift
namespace Go.Proofs.YtacoaahomdjfnaaDoor
set_option linter.unusedVariables false
section
open Go.ChangeShapes Go.WideShapes Go.ChangeAt Go.RowKit
namespace TreeOne
theorem over:Rows.TreeOneSaid :=
 OpenClaim.holds_of_wide 3 Tryd.f3 rfl rfl rfl rfl rfl rfl rfl ⟨rfl,rfl,rfl,rfl,rfl⟩ rfl rfl rfl rfl rfl named Tryd.func3 closed instanced wrapped
  (fun os started H enc _ => lifted os started H enc)
end TreeOne
theorem treeOne_holds:Rows.TreeOneCardSaid :=
 Claim7.holds_tied_plain_at .later [] [.data,.data,.data,.data,.pinned] true Rows.treeOneCard.stood.harness false
  TreeOne.over (fun _ h => by cases h) (by as_aux_lemma => kernel_rfl) (fun _ h => by cases h) treeOne_row_tie rfl ⟨rfl,rfl⟩ (by as_aux_lemma => kernel_rfl) rfl
  (fun f fn hf hfn => by
   obtain rfl:f=3:=Option.some.inj ((show Tryd.prog.funcNamed "almshouse/almshousekeep.TreeOne"=some 3 by as_aux_lemma => kernel_rfl).symm.trans hf) |>.symm
   obtain rfl:fn=Tryd.f3:=(Option.some.inj (Tryd.func3.symm.trans hfn)).symm
   exact ⟨by as_aux_lemma => kernel_rfl,fun j t ht => by
    rw [Tryd.params3] at ht
    have h3:t=9∨t=22:=by
     rcases j with _ | _ | _ | j
     ·exact .inr (by simpa using ht.symm)
     ·exact .inl (by simpa using ht.symm)
     ·exact .inl (by simpa using ht.symm)
     ·simp at ht
    rcases h3 with rfl | rfl
    ·exact (show Tryd.prog.wantsStandIn 9=false by as_aux_lemma => kernel_rfl)
    ·exact (show Tryd.prog.wantsStandIn 22=false by as_aux_lemma => kernel_rfl)⟩)
  (by as_aux_lemma => kernel_rfl)
#print axioms treeOne_holds
end
end Go.Proofs.YtacoaahomdjfnaaDoor
