/- A map literal's insert in a walk. No program in sight. Conditions: each theorem's own premises. -/
import Derived.Test.YtiohpmcedfbcgabDoorMaps
import Derived.BigRegion
namespace Go.Proofs.YtiohpmcedfbcgabDoor
open Go.RowKit Go.MapKept
set_option linter.unusedVariables false

section
variable {κ β : Type} [DecidableEq κ] {d : TypeDesc} {enc : κ → Value} {val : β → Value} {w : World} {m : List (κ × β)} {P : Program}
variable {ops : Array Oper} {rest : List Oper} {o : Oper} {a : Act} {Q : Exit → Act → World → Prop}
theorem wpList_insput (hg : o.guard = none) (mo x vo : Operand) (T kt et : TypeId) (hop : o.op = .insert T mo x vo) (hT : P.underlying T = some (.map kt et)) (hd : P.underlying kt = some d) (K : KeyEnc d enc)
    (b : Nat) (hm : a.eval mo = .map (some b)) (h : MapIs w b d enc val m) (k : κ) (hx : a.eval x = enc k) (v : β) (hv : a.eval vo = val v)
    (hK : ∀ w', MapIs w' b d enc val (mput m k v) → Turn (fun j => j = b) w w' → wpList P ops Q rest (a.put o.dst undef) w') : wpList P ops Q (o :: rest) a w := by
  refine wpList_plain hg fun K' hK' => ?_
  obtain ⟨w', hrun, r1, r2⟩ := h.run_update K hT hd k v
  unfold Oper.wp
  simp [execOp, hop, hm, hx, hv, hrun, Result.andThen]
  exact hK' _ _ (hK w' r1 r2)
end

end Go.Proofs.YtiohpmcedfbcgabDoor
