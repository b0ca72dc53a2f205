/- ProcPlays: for every input the law returns true, and its arguments read behind the call as before. Condition: the row's own, that errors.errorType is laid; the card ties it to the program's text. -/
import Derived.Test.YtiohpmcedfbcgabDoorRows
import Derived.Test.YtiohpmcedfbcgabDoorProcPlays
import Derived.Test.YtiohpmcedfbcgabDoorOpen
import Derived.Test.YtiohpmcedfbcgabDoorLaw
import Derived.Test.YtiohpmcedfbcgabDoorLaidLaw
import Derived.Test.YtiohpmcedfbcgabDoorTie
import Derived.Test.YtiohpmcedfbcgabDoorCards
import Derived.SevenTiedAt
namespace Go.Proofs.YtiohpmcedfbcgabDoor
open Go.ChangeShapes Go.WideShapes Go.ChangeAt Go.RowKit
set_option linter.unusedVariables false

theorem lives_of {H : Type} {enc : TypeId × Value → H} {W : World} {fs : Array Field} {b off n : Nat} (h : StructsAt enc Tryd.prog W fs b off n) (hs : fs.size = 4)
    (h0 : ∀ f, fs[0]? = some f → f.type = 3) (h1 : ∀ f, fs[1]? = some f → f.type = 3) (h2 : ∀ f, fs[2]? = some f → f.type = 3) (h3 : ∀ f, fs[3]? = some f → f.type = 4) :
    ∃ xs : List (Int × Int × Int × Bool), xs.length = n ∧ LivesQ W b off xs := by
  have get : ∀ i, i < n → ∃ z : Int × Int × Int × Bool, W.cell? ⟨b, off + i * 4, none⟩ = some (.int .i64 z.1) ∧ W.cell? ⟨b, off + i * 4 + 1, none⟩ = some (.int .i64 z.2.1) ∧ W.cell? ⟨b, off + i * 4 + 2, none⟩ = some (.int .i64 z.2.2.1) ∧ W.cell? ⟨b, off + i * 4 + 3, none⟩ = some (.bool z.2.2.2) := by
    intro i hi
    have hf : fs[0]? = some (fs[0]'(by omega)) := by simp
    have hf1 : fs[1]? = some (fs[1]'(by omega)) := by simp
    have hf2 : fs[2]? = some (fs[2]'(by omega)) := by simp
    have hf3 : fs[3]? = some (fs[3]'(by omega)) := by simp
    obtain ⟨v, y, m, hc, hd⟩ := h i 0 _ hi hf
    obtain ⟨v1, y1, m1, hc1, hd1⟩ := h i 1 _ hi hf1
    obtain ⟨v2, y2, m2, hc2, hd2⟩ := h i 2 _ hi hf2
    obtain ⟨v3, y3, m3, hc3, hd3⟩ := h i 3 _ hi hf3
    rw [h0 _ hf] at hd
    rw [h1 _ hf1] at hd1
    rw [h2 _ hf2] at hd2
    rw [h3 _ hf3] at hd3
    obtain ⟨z, hz, _, _⟩ := DataW.trod_int Tryd.underlying3 hd
    obtain ⟨z1, hz1, _, _⟩ := DataW.trod_int Tryd.underlying3 hd1
    obtain ⟨z2, hz2, _, _⟩ := DataW.trod_int Tryd.underlying3 hd2
    obtain ⟨z3, hz3, _⟩ := DataW.trod_bool Tryd.underlying4 hd3
    simp only [List.cons.injEq, and_true] at hz hz1 hz2 hz3
    subst hz; subst hz1; subst hz2; subst hz3
    rw [hs] at hc hc1 hc2 hc3
    exact ⟨(z, z1, z2, z3), hc, by rw [Nat.add_assoc]; exact hc1, by rw [Nat.add_assoc]; exact hc2, by rw [Nat.add_assoc]; exact hc3⟩
  obtain ⟨g, hg⟩ := Go.Deep.choose_lt get
  refine ⟨(List.range n).map g, by simp, ?_⟩
  intro i c hc
  have hi : i < n := by
    have := (List.getElem?_eq_some_iff.1 hc).1
    simpa using this
  simp only [List.getElem?_map, List.getElem?_range hi, Option.map_some, Option.some.injEq] at hc
  subst hc
  exact hg i hi

namespace ProcPlays
set_option maxRecDepth 100000 in
theorem lifted (os : Os) (started : os.Started) (H : Type) (enc : TypeId × Value → H) :
    ReturnsInHanded {} Tryd.checked os 5 .any (fun w args => (Rows.procPlaysSpec.pre enc Tryd.prog Tryd.f5 [] false w args ∧ laidMetH Tryd.prog laidOne w) ∧ sizedMet enc Tryd.prog Tryd.f5 (OpenSpec.ofChange Rows.procPlaysSpec) false w args)
      (Rows.procPlaysSpec.post enc Tryd.prog Tryd.f5 false true false false) := by
  refine returnsInHanded_of_change_and (C := Tryd.checked) (X := fun w _ => laidMetH Tryd.prog laidOne w) (fun _ _ _ hh h => h.of_heap hh) own started (by kernel_rfl) Tryd.func5
    (ChangeSpec.witness_at (enc := enc) (C := Tryd.checked) (os := os) (X := fun w _ => laidMetH Tryd.prog laidOne w) false (laidWorld os) #[.slice none 0 0] 8 rfl (by kernel_rfl) (by kernel_rfl) (by kernel_rfl) (by kernel_rfl) (by kernel_rfl) (laidWorld_met os _)) ?_
  intro W base args ds gs before hval0 hW _ _ hL _
  have hval : ∀ (j : Nat) t v, Tryd.f5.params[j]? = some t → args[j]? = some v → Value.okWide Tryd.prog W .any base t v := hval0
  have hW' := hW
  obtain ⟨p, q, hA0, hV, rfl, hfz, hnd⟩ := hW
  have hA : DataW.TrodAll enc Tryd.prog W 0 (fun _ => true) true Tryd.f5.params.toList args.toList ds p := hA0
  rw [Tryd.params5] at hA hval
  obtain ⟨v0, vs0, d0, ds0, p0, q0, hargs, rfl, rfl, h0, r0⟩ := trodAll_cons hA
  obtain ⟨rfl, rfl, rfl⟩ := trodAll_nil r0
  obtain rfl : args = #[v0] := by cases args; simp_all
  obtain ⟨rfl, rfl⟩ := trodVars_none hV
  have hg := laid_of_met hL
  have hm : maxLen = 9223372036854775807 := rfl
  obtain ⟨a, n, cap, rfl, hn, hcase⟩ := open_structs Tryd.underlying56 Tryd.underlying62 (by kernel_rfl) (by kernel_rfl) (by decide) (hval 0 56 v0 rfl rfl) h0
  have fin : ∀ e W', (e = Ending.returned (.bool true) ∧ Turn (fun _ => False) W W') → ∃ v, e = .returned v ∧ Rows.procPlaysSpec.post enc Tryd.prog Tryd.f5 false true false false W #[.slice a n cap] v W' := by
    intro e W' ⟨he, hg⟩
    subst he
    exact ⟨_, rfl, law_post hW' rfl rfl rfl (by kernel_rfl) ((hg.mono (fun k hk h => h.elim)).below (Nat.le_refl _))⟩
  by_cases hbig : 80 < n
  · exact (prplays_many a n cap W hbig (by omega)).mono fin
  · rcases hcase with rfl | ⟨b, off, rfl, hb, hst⟩
    · exact (prplays_few a [] cap W hg (Nat.zero_le _) (fun h => absurd rfl h)).mono fin
    · obtain ⟨xs, rfl, hc⟩ := lives_of hst rfl (by intro f hf; cases hf; rfl) (by intro f hf; cases hf; rfl) (by intro f hf; cases hf; rfl) (by intro f hf; cases hf; rfl)
      exact (prplays_few _ xs cap W hg (by omega) (fun _ => ⟨b, off, rfl, hc, hb⟩)).mono fin

theorem over : Rows.ProcPlaysSaid :=
  OpenClaim.holds_of_wide 5 Tryd.f5 rfl rfl rfl rfl rfl rfl rfl ⟨rfl, rfl, rfl, rfl, rfl⟩ rfl rfl rfl rfl rfl (by kernel_rfl) Tryd.func5 (by kernel_rfl)
    (of_decide_eq_true (by kernel_rfl)) (by unfold Func.isWrapper; first | (rw [if_pos (by decide +kernel)]; kernel_rfl) | (rw [if_neg (by decide +kernel)]; exact ⟨rfl, rfl⟩))
    (fun os started H enc _ => lifted os started H enc)
end ProcPlays

theorem procPlays_holds : Rows.ProcPlaysCardSaid :=
  Claim7.holds_tied_plain_at .later [] [.handle] true Rows.procPlaysCard.stood.harness true
    ProcPlays.over (fun _ h => by cases h) (by kernel_rfl) (fun _ h => by cases h) procPlays_row_tie rfl ⟨rfl, rfl⟩ (by kernel_rfl) rfl
    (fun f fn hf hfn => by
      obtain rfl : f = 5 := Option.some.inj ((show Tryd.prog.funcNamed "almshouse/almshouselaw.ProcPlays" = some 5 by kernel_rfl).symm.trans hf) |>.symm
      obtain rfl : fn = Tryd.f5 := (Option.some.inj (Tryd.func5.symm.trans hfn)).symm
      exact ⟨by kernel_rfl, fun j t ht => by
        rw [Tryd.params5] at ht
        have h3 : t = 56 := by
          rcases j with _ | j
          · simpa using ht.symm
          · simp at ht
        subst h3
        exact (show Tryd.prog.wantsStandIn 56 = false by kernel_rfl)⟩)
    (by kernel_rfl)
#print axioms procPlays_holds
end Go.Proofs.YtiohpmcedfbcgabDoor
