/- A range over a map that may be nil. No program in sight. Conditions: each theorem's own premises. -/
import Derived.Test.YtiohpmcedfbcgacGreatDoorMapRange
import Derived.Laws.IdiomRangeMap
namespace Go.Proofs.YtiohpmcedfbcgacGreatDoor
open Go.RowKit Go.MapKept
set_option linter.unusedVariables false
set_option linter.unusedSectionVars false
section
variable {κ β : Type} [DecidableEq κ] {d : TypeDesc} {enc : κ → Value} {val : β → Value} {w : World} {mb : Option Nat} {r cnt : Nat} {m : List (κ × β)} {P : Program} {seenK : κ → Prop}
/-- A map that may be nil. -/
def OMapIs (w : World) (mb : Option Nat) (d : TypeDesc) (enc : κ → Value) (val : β → Value) (m : List (κ × β)) : Prop := (∃ b, mb = some b ∧ MapIs w b d enc val m) ∨ (mb = none ∧ m = [])
/-- A range over a map that may be nil. -/
def ORangeOf (w : World) (mb : Option Nat) (r : Nat) (enc : κ → Value) (val : β → Value) (m : List (κ × β)) (seenK : κ → Prop) (cnt : Nat) : Prop :=
  (∃ b, mb = some b ∧ RangeOf w b r enc val m seenK cnt) ∨ (mb = none ∧ m = [] ∧ ∃ x y z, w.heap[r]? = some (.mapIter none x y z))
theorem ORangeOf.turned {S : Nat → Prop} {w' : World} (h : ORangeOf w mb r enc val m seenK cnt) (t : Turn S w w') (h1 : ∀ b, mb = some b → ¬ S b) (h2 : ¬ S r) : ORangeOf w' mb r enc val m seenK cnt := by
  rcases h with ⟨b, rfl, h⟩ | ⟨rfl, h0, x, y, z, hr⟩
  · exact .inl ⟨b, rfl, h.turned t (h1 b rfl) h2⟩
  · exact .inr ⟨rfl, h0, x, y, z, (t.block r (Array.getElem?_eq_some_iff.1 hr).1 h2).trans hr⟩
theorem ORangeOf.lt (h : ORangeOf w mb r enc val m seenK cnt) : r < w.heap.size := by
  rcases h with ⟨b, rfl, h⟩ | ⟨rfl, h0, x, y, z, hr⟩
  · exact h.lt.2.1
  · exact (Array.getElem?_eq_some_iff.1 hr).1
section laws
variable {ops : Array Oper} {rest : List Oper} {o : Oper} {a : Act} {Q : Exit → Act → World → Prop}
theorem wpList_orange (hg : o.guard = none) (mo : Operand) (T kt et : TypeId) (hop : o.op = Op.range T mo) (hT : P.underlying T = some (.map kt et)) (hm : a.eval mo = .map mb) (h : OMapIs w mb d enc val m)
    (hK : ∀ w', ORangeOf w' mb w.heap.size enc val m (fun _ => False) m.length → Turn (fun _ => False) w w' → w'.heap.size = w.heap.size + 1 → wpList P ops Q rest (a.put o.dst (.pointer (some ⟨w.heap.size, 0, none⟩))) w') : wpList P ops Q (o :: rest) a w := by
  rcases h with ⟨b, rfl, h⟩ | ⟨rfl, h0⟩
  · exact wpList_maprange hg mo T kt et hop hT hm h fun w' h1 h2 h3 => hK w' (.inl ⟨b, rfl, h1⟩) h2 h3
  · refine wpList_plain hg fun K' hK' => ?_
    have hrun := run_range_nilMap w T kt et hT
    unfold Oper.wp
    simp [execOp, hop, hm, hrun, Result.andThen]
    exact hK' _ _ (hK _ (.inr ⟨rfl, h0, _, _, _, (MapKept.heap_alloc w _).1⟩) ((Turn.refl _ _).alloc _) (by simp))
theorem wpList_onext (hg : o.guard = none) (it : Operand) (hop : o.op = Op.next it false) (hit : a.eval it = .pointer (some ⟨r, 0, none⟩)) (h : ORangeOf w mb r enc val m seenK cnt)
    (hDone : (∀ p ∈ m, seenK p.1) → wpList P ops Q rest (a.put o.dst (.tuple #[.bool false])) w)
    (hMore : ∀ (p : κ × β) (w' : World) (cnt' : Nat), p ∈ m → ¬ seenK p.1 → ORangeOf w' mb r enc val m (fun k => seenK k ∨ k = p.1) cnt' → cnt' < cnt → Turn (fun j => j = r) w w' → w'.heap.size = w.heap.size →
      (Instr.entry (.pointer (some ⟨r, 0, none⟩))).run P w' = .ok (.tuple #[enc p.1, val p.2]) w' → wpList P ops Q rest (a.put o.dst (.tuple #[.bool true, enc p.1, val p.2])) w') : wpList P ops Q (o :: rest) a w := by
  rcases h with ⟨b, rfl, h⟩ | ⟨rfl, h0, x, y, z, hr⟩
  · exact wpList_mapnext hg it hop hit h hDone fun p w' cnt' h1 h2 h3 h4 h5 h6 h7 => hMore p w' cnt' h1 h2 (.inl ⟨b, rfl, h3⟩) h4 h5 h6 h7
  · refine wpList_plain hg fun K' hK' => ?_
    have hrun : (Instr.next (.pointer (some ⟨r, 0, none⟩)) false o.type).run P w = .ok (.tuple #[.bool false]) w := by
      simp only [Instr.next, getObj, Sem.run_bind, Sem.run, hr, Result.andThen]
      rfl
    unfold Oper.wp
    simp [execOp, hop, hit, hrun, Result.andThen]
    exact hK' _ _ (hDone (fun p hp => by rw [h0] at hp; cases hp))
end laws
end
end Go.Proofs.YtiohpmcedfbcgacGreatDoor
