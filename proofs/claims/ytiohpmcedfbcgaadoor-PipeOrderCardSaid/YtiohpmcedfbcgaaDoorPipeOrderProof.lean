/- PipeOrder: for every input the law returns true, and its argument reads behind the call as before. Condition: the row's own, that errors.errorType is laid; the card ties it to the program's text. -/
import Derived.Test.YtiohpmcedfbcgaaDoorRows
import Derived.Test.YtiohpmcedfbcgaaDoorPipeOrder
import Derived.Test.YtiohpmcedfbcgaaDoorOpen
import Derived.Test.YtiohpmcedfbcgaaDoorLaw
import Derived.Test.YtiohpmcedfbcgaaDoorLaidLaw
import Derived.Test.YtiohpmcedfbcgaaDoorTie
import Derived.Test.YtiohpmcedfbcgaaDoorCards
import Derived.SevenTiedAt
namespace Go.Proofs.YtiohpmcedfbcgaaDoor
open Go.ChangeShapes Go.WideShapes Go.ChangeAt Go.RowKit
set_option linter.unusedVariables false

theorem flows_of {H : Type} {enc : TypeId × Value → H} {W : World} {fs : Array Field} {b off n : Nat} (h : StructsAt enc Tryd.prog W fs b off n) (hs : fs.size = 2)
    (h0 : ∀ f, fs[0]? = some f → f.type = 9) (h1 : ∀ f, fs[1]? = some f → f.type = 3) :
    ∃ xs : List (ByteArray × Int), xs.length = n ∧ FlowsAt W b off xs := by
  have get0 : ∀ i, i < n → ∃ s : ByteArray, W.cell? ⟨b, off + i * 2, none⟩ = some (.string s) := by
    intro i hi
    have hf : fs[0]? = some (fs[0]'(by omega)) := by simp
    obtain ⟨v, y, m, hc, hd⟩ := h i 0 _ hi hf
    rw [h0 _ hf] at hd
    obtain ⟨z, hz, _, _⟩ := DataW.trod_string Tryd.underlying9 hd
    simp only [List.cons.injEq, and_true] at hz
    subst hz
    rw [hs] at hc
    exact ⟨z, hc⟩
  have get1 : ∀ i, i < n → ∃ z : Int, W.cell? ⟨b, off + i * 2 + 1, none⟩ = some (.int .i64 z) := by
    intro i hi
    have hf : fs[1]? = some (fs[1]'(by omega)) := by simp
    obtain ⟨v, y, m, hc, hd⟩ := h i 1 _ hi hf
    rw [h1 _ hf] at hd
    obtain ⟨z, hz, _, _⟩ := DataW.trod_int Tryd.underlying3 hd
    simp only [List.cons.injEq, and_true] at hz
    subst hz
    rw [hs] at hc
    exact ⟨z, by rw [Nat.add_assoc]; exact hc⟩
  let g0 : Nat → ByteArray := fun i => match W.cell? ⟨b, off + i * 2, none⟩ with | some (.string s) => s | _ => ByteArray.empty
  let g1 : Nat → Int := fun i => match W.cell? ⟨b, off + i * 2 + 1, none⟩ with | some (.int _ z) => z | _ => 0
  have hg0 : ∀ i, i < n → W.cell? ⟨b, off + i * 2, none⟩ = some (.string (g0 i)) := by
    intro i hi
    obtain ⟨z, hz⟩ := get0 i hi
    have e : g0 i = z := by simp only [g0, hz]
    rw [e]; exact hz
  have hg1 : ∀ i, i < n → W.cell? ⟨b, off + i * 2 + 1, none⟩ = some (.int .i64 (g1 i)) := by
    intro i hi
    obtain ⟨z, hz⟩ := get1 i hi
    have e : g1 i = z := by simp only [g1, hz]
    rw [e]; exact hz
  refine ⟨(List.range n).map fun i => (g0 i, g1 i), by simp, ?_⟩
  intro i c hc
  have hi : i < n := by
    have := (List.getElem?_eq_some_iff.1 hc).1
    simpa using this
  simp only [List.getElem?_map, List.getElem?_range hi, Option.map_some, Option.some.injEq] at hc
  subst hc
  exact ⟨hg0 i hi, hg1 i hi⟩

namespace PipeOrder
set_option maxRecDepth 100000 in
theorem lifted (os : Os) (started : os.Started) (H : Type) (enc : TypeId × Value → H) :
    ReturnsInHanded {} Tryd.checked os 3 .any (fun w args => (Rows.pipeOrderSpec.pre enc Tryd.prog Tryd.f3 [] false w args ∧ laidMetH Tryd.prog laidOne w) ∧ sizedMet enc Tryd.prog Tryd.f3 (OpenSpec.ofChange Rows.pipeOrderSpec) false w args)
      (Rows.pipeOrderSpec.post enc Tryd.prog Tryd.f3 false true false false) := by
  refine returnsInHanded_of_change_and (C := Tryd.checked) (X := fun w _ => laidMetH Tryd.prog laidOne w) (fun _ _ _ hh h => h.of_heap hh) own started (by kernel_rfl) Tryd.func3
    (ChangeSpec.witness_at (enc := enc) (C := Tryd.checked) (os := os) (X := fun w _ => laidMetH Tryd.prog laidOne w) false (laidWorld os) #[.slice none 0 0] 8 rfl (by kernel_rfl) (by kernel_rfl) (by kernel_rfl) (by kernel_rfl) (by kernel_rfl) (laidWorld_met os _)) ?_
  intro W base args ds gs before hval0 hW _ _ hL _
  have hval : ∀ (j : Nat) t v, Tryd.f3.params[j]? = some t → args[j]? = some v → Value.okWide Tryd.prog W .any base t v := hval0
  have hW' := hW
  obtain ⟨p, q, hA0, hV, rfl, hfz, hnd⟩ := hW
  have hA : DataW.TrodAll enc Tryd.prog W 0 (fun _ => true) true Tryd.f3.params.toList args.toList ds p := hA0
  rw [Tryd.params3] at hA hval
  obtain ⟨v0, vs0, d0, ds0, p0, q0, hargs, rfl, rfl, h0, r0⟩ := trodAll_cons hA
  obtain ⟨rfl, rfl, rfl⟩ := trodAll_nil r0
  obtain rfl : args = #[v0] := by cases args; simp_all
  obtain ⟨rfl, rfl⟩ := trodVars_none hV
  have hg := laid_of_met hL
  have hm : maxLen = 9223372036854775807 := rfl
  obtain ⟨a, n, cap, rfl, hnc, hcm, hcase⟩ := open_structs_cap Tryd.underlying22 Tryd.underlying31 (by kernel_rfl) (by kernel_rfl) (by decide) (hval 0 22 v0 rfl rfl) h0
  have fin : ∀ e W', (e = Ending.returned (.bool true) ∧ Turn (fun _ => False) W W') → ∃ v, e = .returned v ∧ Rows.pipeOrderSpec.post enc Tryd.prog Tryd.f3 false true false false W #[.slice a n cap] v W' := by
    intro e W' ⟨he, hg⟩
    subst he
    exact ⟨_, rfl, law_post hW' rfl rfl rfl (by kernel_rfl) ((hg.mono (fun k hk h => h.elim)).below (Nat.le_refl _))⟩
  by_cases hbig : 60 < n
  · exact (order_many a n cap W hbig (by omega)).mono fin
  · rcases hcase with rfl | ⟨b, off, rfl, hb, hst⟩
    · exact (order_few a [] cap W hg (Nat.zero_le _) (fun h => absurd rfl h)).mono fin
    · obtain ⟨xs, rfl, hc⟩ := flows_of hst rfl (by intro f hf; cases hf; rfl) (by intro f hf; cases hf; rfl)
      exact (order_few _ xs cap W hg (by omega) (fun _ => ⟨b, off, rfl, hc, hb⟩)).mono fin

theorem over : Rows.PipeOrderSaid :=
  OpenClaim.holds_of_wide 3 Tryd.f3 rfl rfl rfl rfl rfl rfl rfl ⟨rfl, rfl, rfl, rfl, rfl⟩ rfl rfl rfl rfl rfl (by kernel_rfl) Tryd.func3 (by kernel_rfl)
    (of_decide_eq_true (by kernel_rfl)) (by unfold Func.isWrapper; first | (rw [if_pos (by decide +kernel)]; kernel_rfl) | (rw [if_neg (by decide +kernel)]; exact ⟨rfl, rfl⟩))
    (fun os started H enc _ => lifted os started H enc)
end PipeOrder

theorem pipeOrder_holds : Rows.PipeOrderCardSaid :=
  Claim7.holds_tied_plain_at .later [] [.handle] true Rows.pipeOrderCard.stood.harness true
    PipeOrder.over (fun _ h => by cases h) (by kernel_rfl) (fun _ h => by cases h) pipeOrder_row_tie rfl ⟨rfl, rfl⟩ (by kernel_rfl) rfl
    (fun f fn hf hfn => by
      obtain rfl : f = 3 := Option.some.inj ((show Tryd.prog.funcNamed "almshouse/almshousekeep.PipeOrder" = some 3 by kernel_rfl).symm.trans hf) |>.symm
      obtain rfl : fn = Tryd.f3 := (Option.some.inj (Tryd.func3.symm.trans hfn)).symm
      exact ⟨by kernel_rfl, fun j t ht => by
        rw [Tryd.params3] at ht
        have h3 : t = 22 := by
          rcases j with _ | j
          · simpa using ht.symm
          · simp at ht
        subst h3
        exact (show Tryd.prog.wantsStandIn 22 = false by kernel_rfl)⟩)
    (by kernel_rfl)
#print axioms pipeOrder_holds
end Go.Proofs.YtiohpmcedfbcgaaDoor
