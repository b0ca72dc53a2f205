/- VmPlays, the run from every start: for every input the law returns true, and its arguments read behind the call as before. Condition: the row's own, that errors.errorType is laid; the card ties it to the program's text. -/
import Derived.Test.YtiohpmcedfbcgabGreatDoorRows
import Derived.Test.YtiohpmcedfbcgabGreatDoorVmPlays
import Derived.Test.YtiohpmcedfbcgabGreatDoorIntsOpen
import Derived.Test.YtiohpmcedfbcgabGreatDoorLaw
import Derived.Test.YtiohpmcedfbcgabGreatDoorLaidLaw
import Derived.Test.YtiohpmcedfbcgabGreatDoorTie
import Derived.Test.YtiohpmcedfbcgabGreatDoorCards
import Derived.SevenTiedAt
namespace Go.Proofs.YtiohpmcedfbcgabGreatDoor
open Go.ChangeShapes Go.WideShapes Go.ChangeAt Go.RowKit
set_option linter.unusedVariables false

theorem vs_list {H : Type} {enc : TypeId × Value → H} {W : World} {fs : Array Field} {b off n : Nat} (h : StructsAt enc Tryz.prog W fs b off n) (hs : fs.size = 6) (ht : ∀ (j : Nat) (f : Field), fs[j]? = some f → Tryz.prog.underlying f.type = some (.int .i64)) :
    ∃ xs : List Vs, xs.length = n ∧ VsAt W b off xs := by
  obtain ⟨g, hg⟩ := struct_ints h ht
  rw [hs] at hg
  refine ⟨(List.range n).map fun i => (g i 0, g i 1, g i 2, g i 3, g i 4, g i 5), by simp, ?_⟩
  intro i c hc
  have hi : i < n := by
    have := (List.getElem?_eq_some_iff.1 hc).1
    simpa using this
  simp only [List.getElem?_map, List.getElem?_range hi, Option.map_some, Option.some.injEq] at hc
  subst hc
  exact ⟨(hg i 0 hi (by decide)).1, (hg i 1 hi (by decide)).1, (hg i 2 hi (by decide)).1, (hg i 3 hi (by decide)).1, (hg i 4 hi (by decide)).1, (hg i 5 hi (by decide)).1⟩
namespace VmPlays
set_option maxRecDepth 100000 in
theorem lifted (os : Os) (started : os.Started) (H : Type) (enc : TypeId × Value → H) :
    ReturnsInHanded {} Tryz.checked os 4 .any (fun w args => (Rows.vmPlaysSpec.pre enc Tryz.prog Tryz.f4 [] false w args ∧ laidMetH Tryz.prog laidOne w) ∧ sizedMet enc Tryz.prog Tryz.f4 (OpenSpec.ofChange Rows.vmPlaysSpec) false w args)
      (Rows.vmPlaysSpec.post enc Tryz.prog Tryz.f4 false true false false) := by
  refine returnsInHanded_of_change_and (C := Tryz.checked) (X := fun w _ => laidMetH Tryz.prog laidOne w) (fun _ _ _ hh h => h.of_heap hh) own started (by kernel_rfl) Tryz.func4
    (ChangeSpec.witness_at (enc := enc) (C := Tryz.checked) (os := os) (X := fun w _ => laidMetH Tryz.prog laidOne w) false (laidWorld os) #[.int .i64 0, .slice none 0 0] 8 rfl (by kernel_rfl) (by kernel_rfl) (by kernel_rfl) (by kernel_rfl) (by kernel_rfl) (laidWorld_met os _)) ?_
  intro W base args ds gs before hval0 hW _ _ hL _
  have hval : ∀ (j : Nat) t v, Tryz.f4.params[j]? = some t → args[j]? = some v → Value.okWide Tryz.prog W .any base t v := hval0
  have hW' := hW
  obtain ⟨p, q, hA0, hV, rfl, hfz, hnd⟩ := hW
  have hA : DataW.TrodAll enc Tryz.prog W 0 (fun _ => true) true Tryz.f4.params.toList args.toList ds p := hA0
  rw [Tryz.params4] at hA hval
  obtain ⟨v0, vs0, d0, ds0, p0, q0, hargs, rfl, rfl, h0, r0⟩ := trodAll_cons hA
  obtain ⟨v1, vs1, d1, ds1, p1, q1, rfl, rfl, rfl, h1, r1⟩ := trodAll_cons r0
  obtain ⟨rfl, rfl, rfl⟩ := trodAll_nil r1
  obtain rfl : args = #[v0, v1] := by cases args; simp_all
  obtain ⟨rfl, rfl⟩ := trodVars_none hV
  have hg := laid_of_met hL
  have hm : maxLen = 9223372036854775807 := rfl
  obtain ⟨z, rfl, rfl, rfl, wz⟩ := open_int Tryz.underlying3 (hval 0 3 v0 rfl rfl) h0
  obtain ⟨a, n, cap, rfl, hn, hcase⟩ := open_structs Tryz.underlying31 Tryz.underlying45 (by kernel_rfl) (by kernel_rfl) (by decide) (hval 1 31 v1 rfl rfl) h1
  have fin : ∀ e W', (e = Ending.returned (.bool true) ∧ Turn (fun _ => False) W W') → ∃ v, e = .returned v ∧ Rows.vmPlaysSpec.post enc Tryz.prog Tryz.f4 false true false false W #[.int .i64 z, .slice a n cap] v W' := by
    intro e W' ⟨he, hg⟩
    subst he
    exact ⟨_, rfl, law_post hW' rfl rfl rfl (by kernel_rfl) ((hg.mono (fun k hk h => h.elim)).below (Nat.le_refl _))⟩
  by_cases hout : z < 1 ∨ 256 < z
  · exact (vplays_out z (.slice a n cap) W hg hout).mono fin
  · obtain ⟨zn, rfl⟩ : ∃ zn : Nat, z = zn := ⟨z.toNat, by omega⟩
    by_cases hbig : 60 < n
    · exact (vplays_many zn a n cap W (by omega) (by omega) hbig (by omega)).mono fin
    · obtain ⟨xs, rfl, hxs⟩ : ∃ xs : List Vs, xs.length = n ∧ (xs ≠ [] → ∃ b off, a = some ⟨b, off, none⟩ ∧ VsAt W b off xs ∧ b < W.heap.size) := by
        rcases hcase with rfl | ⟨b, off, rfl, hb, hst⟩
        · exact ⟨[], rfl, fun h => absurd rfl h⟩
        · obtain ⟨xs, rfl, hc⟩ := vs_list hst rfl (fun j f hf => by
            rcases j with _ | _ | _ | _ | _ | _ | j
            · cases hf; exact Tryz.underlying3
            · cases hf; exact Tryz.underlying3
            · cases hf; exact Tryz.underlying3
            · cases hf; exact Tryz.underlying3
            · cases hf; exact Tryz.underlying3
            · cases hf; exact Tryz.underlying2
            · simp at hf)
          exact ⟨xs, rfl, fun _ => ⟨b, off, rfl, hc, hb⟩⟩
      exact (vplays_few zn a xs cap W hg (by omega) (by omega) (by omega) hxs).mono fin

end VmPlays
end Go.Proofs.YtiohpmcedfbcgabGreatDoor
