/- TreeOne: the closed facts of its row, each by itself (a great program's facts outgrow one declaration). No condition. -/
import Derived.Test.YtacoaahomdjfnaaDoorRows
import Derived.Test.YtacoaahomdjfnaaDoorLaw
import Derived.JoinedOf
import Derived.RowKit
import Derived.RowKitTokens
import Derived.SevenTiedAt
namespace Go.Proofs.YtacoaahomdjfnaaDoor
set_option linter.unusedVariables false
set_option maxHeartbeats 4000000
set_option maxRecDepth 100000
section
open Go.ChangeShapes Go.WideShapes Go.ChangeAt Go.RowKit
theorem and_split {a b:Bool} (ha:a=true) (hb:b=true):(a && b)=true:=by rw [ha,hb]; rfl
namespace TreeOne
theorem named:Tryd.pinned.checked.prog.funcNamed Rows.treeOneRow.func=some 3:=by kernel_rfl
theorem closed:joinedFacts Tryd.pinned.checked.prog 3 Tryd.f3 Rows.treeOneSpec Rows.treeOneRow=true:=by
 unfold joinedFacts
 refine and_split (and_split (and_split (and_split (and_split (and_split (and_split (and_split (and_split (and_split (and_split (and_split (and_split (and_split (and_split (and_split (and_split (and_split (and_split (and_split (and_split (and_split (and_split (and_split (and_split (and_split (and_split (and_split (and_split (and_split (and_split ?_ ?_) ?_) ?_) ?_) ?_) ?_) ?_) ?_) ?_) ?_) ?_) ?_) ?_) ?_) ?_) ?_) ?_) ?_) ?_) ?_) ?_) ?_) ?_) ?_) ?_) ?_) ?_) ?_) ?_) ?_) ?_
 ·as_aux_lemma => kernel_rfl
 ·as_aux_lemma => kernel_rfl
 ·as_aux_lemma => kernel_rfl
 ·as_aux_lemma => kernel_rfl
 ·as_aux_lemma => kernel_rfl
 ·as_aux_lemma => kernel_rfl
 ·as_aux_lemma => kernel_rfl
 ·as_aux_lemma => kernel_rfl
 ·as_aux_lemma => kernel_rfl
 ·as_aux_lemma => kernel_rfl
 ·as_aux_lemma => kernel_rfl
 ·as_aux_lemma => kernel_rfl
 ·as_aux_lemma => kernel_rfl
 ·as_aux_lemma => kernel_rfl
 ·as_aux_lemma => kernel_rfl
 ·as_aux_lemma => kernel_rfl
 ·as_aux_lemma => kernel_rfl
 ·as_aux_lemma => kernel_rfl
 ·as_aux_lemma => kernel_rfl
 ·as_aux_lemma => kernel_rfl
 ·as_aux_lemma => kernel_rfl
 ·as_aux_lemma => kernel_rfl
 ·as_aux_lemma => kernel_rfl
 ·as_aux_lemma => kernel_rfl
 ·as_aux_lemma => kernel_rfl
 ·as_aux_lemma => kernel_rfl
 ·as_aux_lemma => kernel_rfl
 ·as_aux_lemma => kernel_rfl
 ·as_aux_lemma => kernel_rfl
 ·as_aux_lemma => kernel_rfl
 ·as_aux_lemma => kernel_rfl
 ·as_aux_lemma => kernel_rfl
theorem instanced:Tryd.f3.isInstance Tryd.pinned.checked.prog Rows.treeOneRow.origin Rows.treeOneRow.targs:=of_decide_eq_true (by kernel_rfl)
theorem wrapped:Tryd.f3.isWrapper Tryd.pinned.checked.prog Rows.treeOneRow.wrapper Rows.treeOneRow.mainSum:=by unfold Func.isWrapper; first | (rw [if_pos (by decide +kernel)]; kernel_rfl) | (rw [if_neg (by decide +kernel)]; exact ⟨rfl,rfl⟩)
end TreeOne
end
end Go.Proofs.YtacoaahomdjfnaaDoor
