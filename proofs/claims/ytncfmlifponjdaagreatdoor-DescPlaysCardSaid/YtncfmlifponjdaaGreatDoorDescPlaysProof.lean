/- DescPlays: for every input the law returns true, and its arguments read behind the call as before. Condition: the row's own, that its listed variables are laid; the card ties them to the program's text. -/
import Derived.Test.YtncfmlifponjdaaGreatDoorDescPlaysFacts
import Derived.Test.YtncfmlifponjdaaGreatDoorDescPlaysLift
namespace Go.Proofs.YtncfmlifponjdaaGreatDoor
set_option linter.unusedVariables false
section
open Go.ChangeShapes Go.WideShapes Go.ChangeAt Go.RowKit
namespace DescPlays
theorem over:Rows.DescPlaysSaid :=
 OpenClaim.holds_of_wide 3 Tryz.f3 rfl rfl rfl rfl rfl rfl rfl ⟨rfl,rfl,rfl,rfl,rfl⟩ rfl rfl rfl rfl rfl named Tryz.func3 closed instanced wrapped
  (fun os started H enc _ => lifted os started H enc)
end DescPlays
theorem descPlays_holds:Rows.DescPlaysCardSaid :=
 Claim7.holds_tied_plain_at .later [] [.data,.handle,.pinned] true Rows.descPlaysCard.stood.harness true
  DescPlays.over (fun _ h => by cases h) (by as_aux_lemma => kernel_rfl) (fun _ h => by cases h) descPlays_row_tie rfl ⟨rfl,rfl⟩ (by as_aux_lemma => kernel_rfl) rfl
  (fun f fn hf hfn => by
   obtain rfl:f=3:=Option.some.inj ((show Tryz.prog.funcNamed "almshouse/almshouselaw.DescPlays"=some 3 by as_aux_lemma => kernel_rfl).symm.trans hf) |>.symm
   obtain rfl:fn=Tryz.f3:=(Option.some.inj (Tryz.func3.symm.trans hfn)).symm
   exact ⟨by as_aux_lemma => kernel_rfl,fun j t ht => by
    rw [Tryz.params3] at ht
    have h3:t=22:=by
     rcases j with _ | j
     ·simpa using ht.symm
     ·simp at ht
    rw [h3]
    exact (show Tryz.prog.wantsStandIn 22=false by as_aux_lemma => kernel_rfl)⟩)
  (by as_aux_lemma => kernel_rfl)
#print axioms descPlays_holds
end
end Go.Proofs.YtncfmlifponjdaaGreatDoor
