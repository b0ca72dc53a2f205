/- ProcSignals: for every input the law returns true, and its arguments read behind the call as before. No condition. -/
import Derived.Test.YtiohpmcedfbcgaaRows
import Derived.Test.YtiohpmcedfbcgaaProcSignals
import Derived.Test.YtiohpmcedfbcgaaRowsOpen
import Derived.Test.YtiohpmcedfbcgaaLaw
namespace Go.Proofs.Ytiohpmcedfbcgaa
open Go.ChangeShapes Go.WideShapes Go.ChangeAt Go.RowKit
set_option linter.unusedVariables false

theorem under_nums : Try.prog.underlying 62 = some (.slice 3) := Try.underlying62
theorem nums_at {W : World} {a : Option Addr} {n : Nat} (h : n = 0 ∨ ∃ b off, a = some ⟨b, off, none⟩ ∧ b < W.heap.size ∧ ∃ xs : List Int, xs.length = n ∧ ∀ j x, xs[j]? = some x → W.cell? ⟨b, off + j, none⟩ = some (.int .i64 x)) : ∃ xs : List Int, xs.length = n ∧ NumsAt W a xs := by
  rcases h with rfl | ⟨b, off, rfl, hb, xs, hl, hc⟩
  · exact ⟨[], rfl, fun h => absurd rfl h⟩
  · exact ⟨xs, hl, fun _ => ⟨b, off, rfl, hb, hc⟩⟩

namespace ProcSignals
set_option maxRecDepth 100000 in
theorem lifted (os : Os) (started : os.Started) (H : Type) (enc : TypeId × Value → H) :
    ReturnsInHanded {} Try.checked os 7 .any (Rows.procSignalsSpec.pre6 enc Try.prog Try.f7 Rows.procSignalsRow.domain false) (Rows.procSignalsSpec.post enc Try.prog Try.f7 false true false false) := by
  refine returnsInHanded_of_change (C := Try.checked) own started (by kernel_rfl) Try.func7
    (ChangeSpec.witness6 (enc := enc) (C := Try.checked) false ⟨#[], #[.slice none 0 0, .slice none 0 0], []⟩ 8 (by kernel_rfl) (by kernel_rfl) (by kernel_rfl) (by kernel_rfl)) ?_
  intro W base args ds gs before hval0 hW hcnd _
  have hval : ∀ (j : Nat) t v, Try.f7.params[j]? = some t → args[j]? = some v → Value.okWide Try.prog W .any base t v := hval0
  have hW' := hW
  obtain ⟨p, q, hA0, hV, rfl, hfz, hnd⟩ := hW
  have hA : DataW.TrodAll enc Try.prog W 0 (fun _ => true) true Try.f7.params.toList args.toList ds p := hA0
  rw [Try.params7] at hA hval
  obtain ⟨v0, vs0, d0, ds0, p0, q0, hargs, rfl, rfl, h0, r0⟩ := trodAll_cons hA
  obtain ⟨v1, vs1, d1, ds1, p1, q1, rfl, rfl, rfl, h1, r1⟩ := trodAll_cons r0
  obtain ⟨rfl, rfl, rfl⟩ := trodAll_nil r1
  obtain rfl : args = #[v0, v1] := by cases args; simp_all
  obtain ⟨rfl, rfl⟩ := trodVars_none hV
  obtain ⟨a1, n1, c1, rfl, hn1, hcase1⟩ := open_nums under_nums Try.underlying3 (by kernel_rfl) (hval 0 62 v0 rfl rfl) h0
  obtain ⟨a2, n2, c2, rfl, hn2, hcase2⟩ := open_nums under_nums Try.underlying3 (by kernel_rfl) (hval 1 62 v1 rfl rfl) h1
  clear hA0 hval0
  have fin : ∀ e W', (e = Ending.returned (.bool true) ∧ Turn (fun _ => False) W W') → ∃ v, e = .returned v ∧ Rows.procSignalsSpec.post enc Try.prog Try.f7 false true false false W #[.slice a1 n1 c1, .slice a2 n2 c2] v W' := by
    intro e W' ⟨he, hg⟩
    subst he
    exact ⟨_, rfl, law_post hW' rfl rfl rfl (by kernel_rfl) ((hg.mono (fun k hk h => h.elim)).below (Nat.le_refl _))⟩
  obtain ⟨xs1, rfl, hx1⟩ := nums_at hcase1
  obtain ⟨xs2, rfl, hx2⟩ := nums_at hcase2
  by_cases hbig : 40 < xs1.length ∨ 40 < xs2.length
  · exact (signals_many a1 a2 _ _ c1 c2 W hbig (by unfold maxLen at hn1; omega) (by unfold maxLen at hn2; omega)).mono fin
  · exact (signals_few a1 a2 xs1 xs2 c1 c2 W (by omega) (by omega) hx1 hx2).mono fin

theorem over : Rows.procSignalsRow.holds Try.pinned (OpenSpec.ofChange Rows.procSignalsSpec) :=
  OpenClaim.holds_of_wide 7 Try.f7 rfl rfl rfl rfl rfl rfl rfl ⟨rfl, rfl, rfl, rfl, rfl⟩ rfl rfl rfl rfl rfl (by kernel_rfl) Try.func7 (by kernel_rfl)
    (of_decide_eq_true (by kernel_rfl)) (by unfold Func.isWrapper; first | (rw [if_pos (by decide +kernel)]; kernel_rfl) | (rw [if_neg (by decide +kernel)]; exact ⟨rfl, rfl⟩))
    (fun os started H enc _ => lifted os started H enc)
end ProcSignals

theorem procSignals_holds : Rows.ProcSignalsSaid := ProcSignals.over
#print axioms procSignals_holds
end Go.Proofs.Ytiohpmcedfbcgaa
