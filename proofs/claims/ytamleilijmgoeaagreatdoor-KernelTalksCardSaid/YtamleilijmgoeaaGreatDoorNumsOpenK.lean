/- An argument that is a slice of ints, opened: a list of numbers that lies in memory. Conditions: the theorem's own premises. -/
import Derived.ChangeSlices
import Derived.Test.YtamleilijmgoeaaGreatDoorKernWith
import Derived.Test.YtamleilijmgoeaaGreatDoorLaw
namespace Go.Proofs.YtamleilijmgoeaaGreatDoor
open Go.ChangeShapes Go.WideShapes Go.ChangeAt Go.RowKit Go.Deep
set_option linter.unusedVariables false
theorem open_numsK {H : Type} {enc : TypeId × Value → H} {P : Program} {W : World} {r : Reach} {b0 : Nat} {t e : TypeId} {v : Value} {d : DataW H} {p : List MemPlace} (ht : P.underlying t = some (.slice e)) (he : P.underlying e = some (.int .i64))
  (hC : P.cellsOf e = 1) (hv : Value.okWide P W r b0 t v) (h : DataW.Trod enc P W 0 (fun _ => true) true t v d p) :
  ∃ (a : Option Addr) (l : List Int) (cap : Nat), v = .slice a l.length cap ∧ l.length ≤ cap ∧ cap ≤ maxLen ∧ NumsK W a l ∧ ∀ n ∈ l, -9223372036854775808 ≤ n ∧ n ≤ 9223372036854775807 := by
 obtain ⟨a, n, cap, rfl⟩ := okWide_slice ht hv
 obtain ⟨fuel, hf⟩ := h
 rcases open_ints ht he hC hf with ⟨hcs, _⟩ | ⟨a', len, cap', ss, hcs, _, hlen, hcap, hm, _, hcell, hsz⟩
 ·simp only [Value.cells, List.cons.injEq, Value.slice.injEq, and_true] at hcs
  obtain ⟨rfl, rfl, rfl⟩ := hcs
  exact ⟨none, [], 0, rfl, Nat.le_refl _, Nat.zero_le _, .inl rfl, fun s hs => by cases hs⟩
 ·simp only [Value.cells, List.cons.injEq, Value.slice.injEq, and_true] at hcs
  obtain ⟨rfl, rfl, rfl⟩ := hcs
  simp only [if_true] at hm
  have hl : (ss.take n).length = n := by rw [List.length_take]; omega
  refine ⟨some a', ss.take n, cap, by rw [hl], by omega, hcap, ?_, fun s hs => ?_⟩
  ·by_cases hn : n = 0
   ·subst hn; exact .inl rfl
   ·right
    obtain ⟨b, off, spot⟩ := a'
    have hsp : spot = none := by
     have hc := hcell 0 (by omega)
     cases spot with
     | none => rfl
     | some s =>
      exfalso
      unfold Addr.add at hc
      unfold World.cell? at hc
      split at hc <;> simp_all
    subst hsp
    have hadd : ∀ k, (⟨b, off, none⟩ : Addr).add k = ⟨b, off + k, none⟩ := fun k => Addr.add_mid b off k
    have h0 := hcell 0 (by omega)
    rw [hadd] at h0
    refine ⟨b, off, rfl, lt_of_cell h0, fun j s hj => ?_⟩
    have hjn : j < n := by
     have := (List.getElem?_eq_some_iff.1 hj).1
     omega
    have hc := hcell j (by omega)
    rw [hadd] at hc
    have hg : ss[j]? = some s := by
     rw [List.getElem?_take_of_lt hjn] at hj
     exact hj
    rw [hc, List.getD_eq_getElem?_getD, hg]
    rfl
  ·have h := hsz s (List.mem_of_mem_take hs)
   have h3 : IntKind.i64.min = -9223372036854775808 := by decide
   have h4 : IntKind.i64.max = 9223372036854775807 := by decide
   simp [Lit.wf, h3, h4] at h
   exact ⟨by omega, by omega⟩
end Go.Proofs.YtamleilijmgoeaaGreatDoor
