/- A list of calls as an argument: opened. No condition. -/
import Derived.Test.YtamleilijmgoeaaGreatDoorLaw
import Derived.Test.YtamleilijmgoeaaGreatDoorKernCands
import Derived.SevenTiedAt
namespace Go.Proofs.YtamleilijmgoeaaGreatDoor
open Go.ChangeShapes Go.WideShapes Go.ChangeAt Go.RowKit
set_option linter.unusedVariables false
theorem kpick_lt {α : Type} [Inhabited α] {p : Nat → α → Prop} {n : Nat} (h : ∀ i, i < n → ∃ z, p i z) : ∃ g : Nat → α, ∀ i, i < n → p i (g i) := by
 classical
 refine ⟨fun i => if hi : i < n then Classical.choose (h i hi) else default, fun i hi => ?_⟩
 show p i (if hi : i < n then Classical.choose (h i hi) else default)
 rw [dif_pos hi]
 exact Classical.choose_spec (h i hi)
theorem call_list {H : Type} {enc : TypeId × Value → H} {W : World} {fs : Array Field} {b off n : Nat} (h : StructsAt enc Tryz.prog W fs b off n) (hs : fs.size = 7) (ht : ∀ (j : Nat) (f : Field), fs[j]? = some f → if j < 5 then Tryz.prog.underlying f.type = some (.int .i64) else Tryz.prog.underlying f.type = some .string) :
  ∃ xs : List CallV, xs.length = n ∧ CallsAt W b off xs := by
 have geti : ∀ i j, i < n → j < 5 → ∃ z : Int, W.cell? ⟨b, off + (i * fs.size + j), none⟩ = some (.int .i64 z) := by
  intro i j hi hj
  have hf : fs[j]? = some (fs[j]'(by omega)) := by simp
  obtain ⟨v, y, m, hc, hd⟩ := h i j _ hi hf
  have h1 := ht j _ hf
  rw [if_pos hj] at h1
  obtain ⟨z, hz, _, hw⟩ := DataW.trod_int h1 hd
  simp only [List.cons.injEq, and_true] at hz
  subst hz
  exact ⟨z, hc⟩
 have gets : ∀ i j, i < n → 5 ≤ j ∧ j < 7 → ∃ s : ByteArray, W.cell? ⟨b, off + (i * fs.size + j), none⟩ = some (.string s) := by
  intro i j hi hj
  have hf : fs[j]? = some (fs[j]'(by omega)) := by simp
  obtain ⟨v, y, m, hc, hd⟩ := h i j _ hi hf
  have h1 := ht j _ hf
  rw [if_neg (by omega)] at h1
  obtain ⟨s, hz, _, hw⟩ := DataW.trod_string h1 hd
  simp only [List.cons.injEq, and_true] at hz
  subst hz
  exact ⟨s, hc⟩
 obtain ⟨g0, h0⟩ := Go.Proofs.YtamleilijmgoeaaGreatDoor.kpick_lt (fun i hi => geti i 0 hi (by omega))
 obtain ⟨g1, h1⟩ := Go.Proofs.YtamleilijmgoeaaGreatDoor.kpick_lt (fun i hi => geti i 1 hi (by omega))
 obtain ⟨g2, h2⟩ := Go.Proofs.YtamleilijmgoeaaGreatDoor.kpick_lt (fun i hi => geti i 2 hi (by omega))
 obtain ⟨g3, h3⟩ := Go.Proofs.YtamleilijmgoeaaGreatDoor.kpick_lt (fun i hi => geti i 3 hi (by omega))
 obtain ⟨g4, h4⟩ := Go.Proofs.YtamleilijmgoeaaGreatDoor.kpick_lt (fun i hi => geti i 4 hi (by omega))
 obtain ⟨g5, h5⟩ := Go.Proofs.YtamleilijmgoeaaGreatDoor.kpick_lt (fun i hi => gets i 5 hi (by omega))
 obtain ⟨g6, h6⟩ := Go.Proofs.YtamleilijmgoeaaGreatDoor.kpick_lt (fun i hi => gets i 6 hi (by omega))
 refine ⟨(List.range n).map fun i => ⟨g0 i, g1 i, g2 i, g3 i, g4 i, g5 i, g6 i⟩, by simp, ?_⟩
 intro j x hx
 have hj : j < n := by
  have := (List.getElem?_eq_some_iff.1 hx).1
  simpa using this
 simp only [List.getElem?_map, List.getElem?_range hj, Option.map_some, Option.some.injEq] at hx
 subst hx
 rw [hs] at h0 h1 h2 h3 h4 h5 h6
 exact ⟨h0 j hj, h1 j hj, h2 j hj, h3 j hj, h4 j hj, h5 j hj, h6 j hj⟩
theorem call_open {H : Type} {enc : TypeId × Value → H} {W : World} (a : Option Addr) (n : Nat) (fs : Array Field) (hfs : Tryz.prog.underlying 47 = some (.struct fs)) (hcase : n = 0 ∨ ∃ b off, a = some ⟨b, off, none⟩ ∧ b < W.heap.size ∧ StructsAt enc Tryz.prog W fs b off n) : ∃ xs : List CallV, xs.length = n ∧ CallsIn W a xs := by
 have e := Option.some.inj (hfs.symm.trans Tryz.underlying47)
 injection e with e
 subst e
 rcases hcase with rfl | ⟨b, off, rfl, hb, hst⟩
 ·exact ⟨[], rfl, fun h => absurd rfl h⟩
 ·obtain ⟨xs, rfl, hc⟩ := call_list hst rfl (fun j f hf => by
   rcases j with _ | _ | _ | _ | _ | _ | _ | j
   ·cases hf; exact Tryz.underlying3
   ·cases hf; exact Tryz.underlying3
   ·cases hf; exact Tryz.underlying3
   ·cases hf; exact Tryz.underlying3
   ·cases hf; exact Tryz.underlying3
   ·cases hf; exact Tryz.underlying9
   ·cases hf; exact Tryz.underlying9
   ·simp at hf)
  exact ⟨xs, rfl, fun _ => ⟨b, off, rfl, hc, hb⟩⟩
end Go.Proofs.YtamleilijmgoeaaGreatDoor
