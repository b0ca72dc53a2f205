/- sort.Ints at a slice of the call's own. Conditions: each theorem's own premises. -/
import Derived.Test.YtiohpmcedfbcgabDoorInts
import Derived.Test.YtiohpmcedfbcgabDoorSortI
import Derived.Shelf.SortM.Plain
import Derived.Shelf.SortM.SortNone
import Derived.Sort.OwnSortedInts
namespace Go.Proofs.YtiohpmcedfbcgabDoor
open Go.RowKit Go.Sort Go.Shelf
set_option linter.unusedVariables false

def msort (xs : List Int) : List Int := xs.mergeSort fun x y => decide (x ≤ y)
theorem msort_length (xs : List Int) : (msort xs).length = xs.length := List.length_mergeSort ..
def SortedOwn (xs : List Int) (v : Value) (w : World) (e : Ending) (w' : World) : Prop :=
  e = .returned (.tuple #[]) ∧ IntsAt w' v (msort xs) ∧ Turn (fun j => v.ownBlock = some j) w w'
theorem sortI_own {w : World} {v : Value} {xs : List Int} (h : IntsAt w v xs) (hl : xs.length ≤ 1000000) :
    Calls Tryd.prog 157 #[v] w (SortedOwn xs v w) := by
  obtain ⟨_, ⟨rfl, h0⟩ | ⟨g, cap, cur, rfl, _, hb, h1, h2, h3, h4⟩⟩ := h
  · obtain rfl := List.length_eq_zero_iff.1 h0
    refine (AnyM.slices_Sort_int_none laysSortI none 0 w).mono ?_
    rintro e w' ⟨rfl, rfl⟩
    exact ⟨rfl, ⟨by simp, .inl ⟨rfl, by rw [msort_length]; rfl⟩⟩, Turn.refl _ _⟩
  · have hi : IntsAt w (.slice (some ⟨g, 0, none⟩) xs.length cap) xs := ⟨by simp, .inr ⟨g, cap, cur, rfl, Nat.zero_le _, hb, h1, h2, h3, h4⟩⟩
    have hg : g < w.heap.size := (Array.getElem?_eq_some_iff.1 hb).1
    have hH : Holds (Value.int .i64) w g 0 xs.toArray := fun j hj => by
      have hj' : j < xs.length := by simpa using hj
      refine ⟨?_, by rw [Nat.zero_add]; exact hi.frozen j⟩
      rw [Nat.zero_add, hi.cell j xs[j] (List.getElem?_eq_getElem hj')]
      rw [getElem!_pos xs.toArray j hj]
      simp
    refine (AnyM.slices_Sort_int laysSortI g 0 cap xs w hH hg (by omega)).mono ?_
    rintro e w' ⟨rfl, n, os, rfl⟩
    refine ⟨rfl, ?_, ⟨rfl, rfl, rfl, by simp [grow, putRow, mapBlock, Sort.ahead], fun j hj hn => ?_⟩⟩
    · have hro := ownsRow_sortedI (n := n) (os := os) (ts := msort xs) (msort_length xs) (Nat.zero_le g) hb h1 h2 h3
      unfold IntsAt
      rw [msort_length]
      exact hro
    · simp only [grow, putRow, mapBlock, Sort.ahead]
      rw [Array.getElem?_append_left (by simpa using hj)]
      show (w.heap.modify g _)[j]? = w.heap[j]?
      rw [Array.getElem?_modify, if_neg (fun e => hn (by rw [e]; rfl))]
theorem sortInts_own {w : World} {v : Value} {xs : List Int} (h : IntsAt w v xs) (hl : xs.length ≤ 1000000) :
    Calls Tryd.prog 113 #[v] w (SortedOwn xs v w) := by
  have HS := hid (sortI_own h hl)
  clear h
  go_enter Tryd.func113, Tryd.ntmps113
  go_wp2_with fail
  refine HS.out.mono ?_
  rintro e w1 ⟨rfl, hi, t⟩
  have HT := hid t
  have HI := hid hi
  clear t hi
  go_wp2_with fail
  go_end0
  exact ⟨rfl, HI.out, HT.out⟩
end Go.Proofs.YtiohpmcedfbcgabDoor
