/- The condition that errors.errorType and almshouseref.Fine are laid, as a walk wants it, and a world that meets it. No further condition. -/
import Derived.Test.YtiohpmcedfbcgaaDoorLaidLaw
import Derived.Test.YtiohpmcedfbcgaaDoorAcctRef
import Derived.MakeChecks
namespace Go.Proofs.YtiohpmcedfbcgaaDoor
open Go.ChangeShapes Go.WideShapes Go.RowKit
set_option linter.unusedVariables false

def laidTwo : List (String × DataW Unit) := [("errors.errorType", Rows.laid_errors_errorType), ("almshouse/almshouseref.Fine", Rows.laid_almshouse_almshouseref_Fine)]
theorem fine_named : Tryd.prog.globalNamed "almshouse/almshouseref.Fine" = some 0 := by kernel_rfl
theorem fine_type : (Tryd.prog.globals[0]?).map (·.type) = some 74 := by kernel_rfl

theorem laidTwo_met {W : World} (h : laidMetH Tryd.prog laidTwo W) : Laid W ∧ FineIs W := by
  have h' : laidMet Tryd.prog [("almshouse/almshouseref.Fine", Rows.laid_almshouse_almshouseref_Fine)] W ∧ handlesMet Tryd.prog laidOne W := h
  refine ⟨laid_of_met (show laidMetH Tryd.prog laidOne W from ⟨laidMet_nil _ _, h'.2⟩), ?_⟩
  obtain ⟨ps, ⟨g, t, cs, fuel, p, q, hg, ht, hv, hd, _, _⟩, _, _⟩ := h'.1
  obtain rfl := Option.some.inj (fine_named.symm.trans hg)
  obtain rfl := Option.some.inj (fine_type.symm.trans ht)
  obtain ⟨y0, y1, n, hx, hl, h0, h1⟩ := trod_struct2 Tryd.underlying74 hd
  obtain ⟨z0, e0, d0, _⟩ := DataW.trod_int Tryd.underlying34 h0
  obtain ⟨z1, e1, d1, _⟩ := DataW.trod_int Tryd.underlying3 h1
  simp only [Prod.mk.injEq, Rows.laid_almshouse_almshouseref_Fine, DataW.agg.injEq, List.cons.injEq, and_true] at hx
  obtain ⟨⟨hx0, hx1⟩, _⟩ := hx
  rw [d0] at hx0
  rw [d1] at hx1
  simp only [DataW.lit.injEq, Lit.int.injEq, true_and] at hx0 hx1
  subst hx0
  subst hx1
  have k0 : Tryd.prog.cellsOf 34 = 1 := by kernel_rfl
  have k1 : Tryd.prog.cellsOf 3 = 1 := by kernel_rfl
  rw [k0] at e0
  rw [k1] at e1
  refine ⟨?_, ?_⟩
  · rw [World.var?_cell hg hv 0]
    have h0 : ((cs.toList.drop 0).take 1)[0]? = some (.int .i64 0) := by rw [e0]; rfl
    simpa using h0
  · rw [World.var?_cell hg hv 1]
    have h0 : ((cs.toList.drop 1).take 1)[0]? = some (.int .i64 (-1)) := by rw [e1]; rfl
    simpa using h0

noncomputable def laidWorld2 (os : Os) : World :=
  let w0 := World.holding Tryd.prog os ⟨#[], #[], []⟩
  { w0 with heap := (w0.heap.modify 1 fun
      | .cells _ t frozen => .cells #[.iface 153 (.agg #[.pointer (some ⟨2, 28, none⟩)])] t frozen
      | o => o).modify 0 fun
      | .cells _ t frozen => .cells #[.int .i64 0, .int .i64 (-1)] t frozen
      | o => o }
theorem laidWorld2_met (os : Os) (args : Array Value) : laidMetH Tryd.prog laidTwo ((laidWorld2 os).forCall (fun _ _ => 0) ⟨#[], args, []⟩).memory :=
  laidMetH_of_parts (laidMet_of_run' 8 (by kernel_rfl) (by kernel_rfl)) (by kernel_rfl)
end Go.Proofs.YtiohpmcedfbcgaaDoor
