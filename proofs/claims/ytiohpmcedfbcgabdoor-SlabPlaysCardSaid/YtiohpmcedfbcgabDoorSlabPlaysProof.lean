/- SlabPlays: for every input the law returns true, and its arguments read behind the call as before. Condition: the row's own, that errors.errorType is laid; the card ties it to the program's text. -/
import Derived.Test.YtiohpmcedfbcgabDoorRows
import Derived.Test.YtiohpmcedfbcgabDoorSlabPlays
import Derived.Test.YtiohpmcedfbcgabDoorOpen
import Derived.Test.YtiohpmcedfbcgabDoorLaw
import Derived.Test.YtiohpmcedfbcgabDoorLaidLaw
import Derived.Test.YtiohpmcedfbcgabDoorTie
import Derived.Test.YtiohpmcedfbcgabDoorCards
import Derived.SevenTiedAt
namespace Go.Proofs.YtiohpmcedfbcgabDoor
open Go.ChangeShapes Go.WideShapes Go.ChangeAt Go.RowKit
set_option linter.unusedVariables false

theorem below_of_wf {z : Int} (h : (Lit.int .i64 z).wf = true) : z < 9223372036854775808 := by
  have h4 : IntKind.i64.max = 9223372036854775807 := by decide
  simp only [Lit.wf, h4, Bool.and_eq_true, decide_eq_true_eq] at h
  omega
theorem opsB_of {H : Type} {enc : TypeId × Value → H} {W : World} {fs : Array Field} {b off n : Nat} (h : StructsAt enc Tryd.prog W fs b off n) (hs : fs.size = 4)
    (h0 : ∀ f, fs[0]? = some f → f.type = 3) (h1 : ∀ f, fs[1]? = some f → f.type = 3) (h2 : ∀ f, fs[2]? = some f → f.type = 3) (h3 : ∀ f, fs[3]? = some f → f.type = 2) :
    ∃ xs : List (Int × Int × Int × Int), xs.length = n ∧ OpsAt W b off xs ∧ ∀ x ∈ xs, x.2.1 < 9223372036854775808 := by
  have get : ∀ i, i < n → ∃ z : Int × Int × Int × Int, W.cell? ⟨b, off + i * 4, none⟩ = some (.int .i64 z.1) ∧ W.cell? ⟨b, off + i * 4 + 1, none⟩ = some (.int .i64 z.2.1) ∧ W.cell? ⟨b, off + i * 4 + 2, none⟩ = some (.int .i64 z.2.2.1) ∧ W.cell? ⟨b, off + i * 4 + 3, none⟩ = some (.int .i64 z.2.2.2) ∧ z.2.1 < 9223372036854775808 := by
    intro i hi
    have hf : fs[0]? = some (fs[0]'(by omega)) := by simp
    have hf1 : fs[1]? = some (fs[1]'(by omega)) := by simp
    have hf2 : fs[2]? = some (fs[2]'(by omega)) := by simp
    have hf3 : fs[3]? = some (fs[3]'(by omega)) := by simp
    obtain ⟨v, y, m, hc, hd⟩ := h i 0 _ hi hf
    obtain ⟨v1, y1, m1, hc1, hd1⟩ := h i 1 _ hi hf1
    obtain ⟨v2, y2, m2, hc2, hd2⟩ := h i 2 _ hi hf2
    obtain ⟨v3, y3, m3, hc3, hd3⟩ := h i 3 _ hi hf3
    rw [h0 _ hf] at hd
    rw [h1 _ hf1] at hd1
    rw [h2 _ hf2] at hd2
    rw [h3 _ hf3] at hd3
    obtain ⟨z, hz, _, _⟩ := DataW.trod_int Tryd.underlying3 hd
    obtain ⟨z1, hz1, _, hw1⟩ := DataW.trod_int Tryd.underlying3 hd1
    obtain ⟨z2, hz2, _, _⟩ := DataW.trod_int Tryd.underlying3 hd2
    obtain ⟨z3, hz3, _, _⟩ := DataW.trod_int Tryd.underlying2 hd3
    simp only [List.cons.injEq, and_true] at hz hz1 hz2 hz3
    subst hz; subst hz1; subst hz2; subst hz3
    rw [hs] at hc hc1 hc2 hc3
    exact ⟨(z, z1, z2, z3), hc, by rw [Nat.add_assoc]; exact hc1, by rw [Nat.add_assoc]; exact hc2, by rw [Nat.add_assoc]; exact hc3, below_of_wf hw1⟩
  obtain ⟨g, hg⟩ := Go.Deep.choose_lt get
  refine ⟨(List.range n).map g, by simp, ?_, ?_⟩
  rotate_left
  · intro x hx
    obtain ⟨i, hi, rfl⟩ := List.mem_map.1 hx
    exact (hg i (List.mem_range.1 hi)).2.2.2.2
  intro i c hc
  have hi : i < n := by
    have := (List.getElem?_eq_some_iff.1 hc).1
    simpa using this
  simp only [List.getElem?_map, List.getElem?_range hi, Option.map_some, Option.some.injEq] at hc
  subst hc
  obtain ⟨a1, a2, a3, a4, _⟩ := hg i hi
  exact ⟨a1, a2, a3, a4⟩

namespace SlabPlays
set_option maxRecDepth 100000 in
theorem lifted (os : Os) (started : os.Started) (H : Type) (enc : TypeId × Value → H) :
    ReturnsInHanded {} Tryd.checked os 7 .any (fun w args => (Rows.slabPlaysSpec.pre enc Tryd.prog Tryd.f7 [] false w args ∧ laidMetH Tryd.prog laidOne w) ∧ sizedMet enc Tryd.prog Tryd.f7 (OpenSpec.ofChange Rows.slabPlaysSpec) false w args)
      (Rows.slabPlaysSpec.post enc Tryd.prog Tryd.f7 false true false false) := by
  refine returnsInHanded_of_change_and (C := Tryd.checked) (X := fun w _ => laidMetH Tryd.prog laidOne w) (fun _ _ _ hh h => h.of_heap hh) own started (by kernel_rfl) Tryd.func7
    (ChangeSpec.witness_at (enc := enc) (C := Tryd.checked) (os := os) (X := fun w _ => laidMetH Tryd.prog laidOne w) false (laidWorld os) #[.int .i64 0, .int .i64 0, .slice none 0 0] 8 rfl (by kernel_rfl) (by kernel_rfl) (by kernel_rfl) (by kernel_rfl) (by kernel_rfl) (laidWorld_met os _)) ?_
  intro W base args ds gs before hval0 hW _ _ hL _
  have hval : ∀ (j : Nat) t v, Tryd.f7.params[j]? = some t → args[j]? = some v → Value.okWide Tryd.prog W .any base t v := hval0
  have hW' := hW
  obtain ⟨p, q, hA0, hV, rfl, hfz, hnd⟩ := hW
  have hA : DataW.TrodAll enc Tryd.prog W 0 (fun _ => true) true Tryd.f7.params.toList args.toList ds p := hA0
  rw [Tryd.params7] at hA hval
  obtain ⟨v0, vs0, d0, ds0, p0, q0, hargs, rfl, rfl, h0, r0⟩ := trodAll_cons hA
  obtain ⟨v1, vs1, d1, ds1, p1, q1, rfl, rfl, rfl, h1, r1⟩ := trodAll_cons r0
  obtain ⟨v2, vs2, d2, ds2, p2, q2, rfl, rfl, rfl, h2, r2⟩ := trodAll_cons r1
  obtain ⟨rfl, rfl, rfl⟩ := trodAll_nil r2
  obtain rfl : args = #[v0, v1, v2] := by cases args; simp_all
  obtain ⟨rfl, rfl⟩ := trodVars_none hV
  have hg := laid_of_met hL
  have hm : maxLen = 9223372036854775807 := rfl
  obtain ⟨z, rfl, rfl, rfl, wz⟩ := open_int Tryd.underlying3 (hval 0 3 v0 rfl rfl) h0
  obtain ⟨y, rfl, rfl, rfl, wy⟩ := open_int Tryd.underlying3 (hval 1 3 v1 rfl rfl) h1
  obtain ⟨a, n, cap, rfl, hnc, hcm, hcase⟩ := open_structs_cap Tryd.underlying45 Tryd.underlying50 (by kernel_rfl) (by kernel_rfl) (by decide) (hval 2 45 v2 rfl rfl) h2
  have fin : ∀ e W', (e = Ending.returned (.bool true) ∧ Turn (fun _ => False) W W') → ∃ v, e = .returned v ∧ Rows.slabPlaysSpec.post enc Tryd.prog Tryd.f7 false true false false W #[.int .i64 z, .int .i64 y, .slice a n cap] v W' := by
    intro e W' ⟨he, hg⟩
    subst he
    exact ⟨_, rfl, law_post hW' rfl rfl rfl (by kernel_rfl) ((hg.mono (fun k hk h => h.elim)).below (Nat.le_refl _))⟩
  by_cases hout : z < 1 ∨ 256 < z
  · exact (splays_out z y (.slice a n cap) W hout).mono fin
  · by_cases hbig : 60 < n
    · exact (splays_many z y a n cap W (by omega) (by omega) hbig (by omega)).mono fin
    · by_cases hpr : y < 1 ∨ 16 < y
      · exact (splays_range z y a n cap W hg (by omega) (by omega) (by omega) hpr).mono fin
      · obtain ⟨zn, rfl⟩ : ∃ zn : Nat, z = zn := ⟨z.toNat, by omega⟩
        obtain ⟨yn, rfl⟩ : ∃ yn : Nat, y = yn := ⟨y.toNat, by omega⟩
        rcases hcase with rfl | ⟨b, off, rfl, hb, hst⟩
        · exact (splays_few zn yn a [] cap W hg (by omega) (by omega) (by omega) (by omega) (Nat.zero_le _) (fun h => absurd rfl h) (fun x hx => by cases hx)).mono fin
        · obtain ⟨xs, rfl, hc, hbd⟩ := opsB_of hst rfl (by intro f hf; cases hf; rfl) (by intro f hf; cases hf; rfl) (by intro f hf; cases hf; rfl) (by intro f hf; cases hf; rfl)
          exact (splays_few zn yn _ xs cap W hg (by omega) (by omega) (by omega) (by omega) (by omega) (fun _ => ⟨b, off, rfl, hc, hb⟩) hbd).mono fin

theorem over : Rows.SlabPlaysSaid :=
  OpenClaim.holds_of_wide 7 Tryd.f7 rfl rfl rfl rfl rfl rfl rfl ⟨rfl, rfl, rfl, rfl, rfl⟩ rfl rfl rfl rfl rfl (by kernel_rfl) Tryd.func7 (by kernel_rfl)
    (of_decide_eq_true (by kernel_rfl)) (by unfold Func.isWrapper; first | (rw [if_pos (by decide +kernel)]; kernel_rfl) | (rw [if_neg (by decide +kernel)]; exact ⟨rfl, rfl⟩))
    (fun os started H enc _ => lifted os started H enc)
end SlabPlays

theorem slabPlays_holds : Rows.SlabPlaysCardSaid :=
  Claim7.holds_tied_plain_at .later [] [.handle] true Rows.slabPlaysCard.stood.harness true
    SlabPlays.over (fun _ h => by cases h) (by kernel_rfl) (fun _ h => by cases h) slabPlays_row_tie rfl ⟨rfl, rfl⟩ (by kernel_rfl) rfl
    (fun f fn hf hfn => by
      obtain rfl : f = 7 := Option.some.inj ((show Tryd.prog.funcNamed "almshouse/almshouselaw.SlabPlays" = some 7 by kernel_rfl).symm.trans hf) |>.symm
      obtain rfl : fn = Tryd.f7 := (Option.some.inj (Tryd.func7.symm.trans hfn)).symm
      exact ⟨by kernel_rfl, fun j t ht => by
        rw [Tryd.params7] at ht
        have h3 : t = 3 ∨ t = 45 := by
          rcases j with _ | _ | _ | j
          · exact .inl (by simpa using ht.symm)
          · exact .inl (by simpa using ht.symm)
          · exact .inr (by simpa using ht.symm)
          · simp at ht
        rcases h3 with rfl | rfl
        · exact (show Tryd.prog.wantsStandIn 3 = false by kernel_rfl)
        · exact (show Tryd.prog.wantsStandIn 45 = false by kernel_rfl)⟩)
    (by kernel_rfl)
#print axioms slabPlays_holds
end Go.Proofs.YtiohpmcedfbcgabDoor
