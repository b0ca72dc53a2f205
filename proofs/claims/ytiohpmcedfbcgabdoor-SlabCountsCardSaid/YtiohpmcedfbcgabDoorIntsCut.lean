/- slices.Clone and slices.Delete (of one) at ints. Conditions: the slice lies in a block of its own. -/
import Derived.Test.YtiohpmcedfbcgabDoorIntsGrow
import Derived.Test.YtiohpmcedfbcgabDoorDelI
import Derived.Shelf.Slices.Delete
import Derived.Sort.OwnSortedInts
import Derived.Lib.SliceRun
namespace Go.Proofs.YtiohpmcedfbcgabDoor
open Go.RowKit Go.Sort Go.Shelf
set_option linter.unusedVariables false

theorem delete_ints {w : World} {g cap : Nat} {xs : List Int} (h : IntsAt w (.slice (some ⟨g, 0, none⟩) xs.length cap) xs) (i : Nat) (hi : i < xs.length) :
    Calls Tryd.prog 65 #[.slice (some ⟨g, 0, none⟩) xs.length cap, .int .i64 i, .int .i64 ((i : Int) + 1)] w fun e w' =>
      e = .returned (.slice (some ⟨g, 0, none⟩) (xs.eraseIdx i).length cap) ∧ IntsAt w' (.slice (some ⟨g, 0, none⟩) (xs.eraseIdx i).length cap) (xs.eraseIdx i) ∧ Turn (fun k => k = g) w w' := by
  have h0 := h
  obtain ⟨cur, hb, h1, h2, h3, h4⟩ := h.own
  have hH : Holds (Value.int .i64) w g 0 xs.toArray := fun j hj => by
    have hj' : j < xs.length := by simpa using hj
    refine ⟨?_, by rw [Nat.zero_add]; exact h0.frozen j⟩
    rw [Nat.zero_add, h0.cell j xs[j] (List.getElem?_eq_getElem hj')]
    rw [getElem!_pos xs.toArray j hj]
    simp
  have hm : cap ≤ 9223372036854775807 := h2
  have hd := Any.slices_Delete_int laysDelI g 0 cap i (i + 1) xs w hH h1 hm (by omega) (by omega)
  have e1 : xs.length - (i + 1 - i) = (xs.eraseIdx i).length := by rw [List.length_eraseIdx_of_lt hi]; omega
  rw [e1] at hd
  refine hd.mono ?_
  rintro e w' ⟨rfl, q, rfl⟩
  have hts : (xs.take i ++ xs.drop (i + 1) ++ List.replicate (i + 1 - i) (0 : Int)).length = xs.length := by
    simp; omega
  have hro := ownsRow_sortedI (n := q) (os := #[]) (ts := xs.take i ++ xs.drop (i + 1) ++ List.replicate (i + 1 - i) (0 : Int)) hts (Nat.zero_le g) hb h1 h2 (by rw [Nat.mul_one]; exact h3)
  have hgr : ∀ W : World, grow W #[] = W := fun W => by simp [grow]
  rw [hgr] at hro
  have hI : IntsAt (putRow (Value.int .i64) (Sort.ahead w q) g 0 (xs.take i ++ xs.drop (i + 1) ++ List.replicate (i + 1 - i) (0 : Int)).toArray) (.slice (some ⟨g, 0, none⟩) (xs.take i ++ xs.drop (i + 1) ++ List.replicate (i + 1 - i) (0 : Int)).length cap) (xs.take i ++ xs.drop (i + 1) ++ List.replicate (i + 1 - i) (0 : Int)) := by
    unfold IntsAt
    rw [hts]
    exact hro
  have hp := hI.prefix (xs.eraseIdx i).length (by rw [hts, ← e1]; omega)
  have e2 : (xs.take i ++ xs.drop (i + 1) ++ List.replicate (i + 1 - i) (0 : Int)).take (xs.eraseIdx i).length = xs.eraseIdx i := by
    rw [← List.eraseIdx_eq_take_drop_succ]
    exact List.take_left
  rw [e2] at hp
  refine ⟨rfl, hp, ⟨rfl, rfl, rfl, by simp [putRow, mapBlock, Sort.ahead], fun j hj hn => ?_⟩⟩
  simp only [putRow, mapBlock, Sort.ahead]
  show (w.heap.modify g _)[j]? = w.heap[j]?
  rw [Array.getElem?_modify, if_neg (fun e => hn e.symm)]

set_option maxHeartbeats 1000000 in
set_option maxRecDepth 100000 in
theorem clone_ints {w : World} {g cap : Nat} {xs : List Int} (h : IntsAt w (.slice (some ⟨g, 0, none⟩) xs.length cap) xs) (hl : xs.length ≤ 1000000) :
    Calls Tryd.prog 66 #[.slice (some ⟨g, 0, none⟩) xs.length cap] w fun e w' => ∃ g' cap', e = .returned (.slice (some ⟨g', 0, none⟩) xs.length cap') ∧ IntsAt w' (.slice (some ⟨g', 0, none⟩) xs.length cap') xs ∧ w.heap.size ≤ g' ∧ Turn (fun _ => False) w w' := by
  obtain ⟨i0, hi0, hz0, hz1, hz2⟩ := info_split info_int
  have hnil := fun (w : World) => Lib.run_eql_slice_nil (P := Tryd.prog) (w := w)
  have HO : Hid ((w.alloc (.cells #[] 3)).ownsRow 0 3 1 (.slice (some ⟨w.heap.size, 0, none⟩) 0 0) 0 []) := hid (World.ownsRow_lit w #[] 0 (Nat.zero_le _) (Nat.zero_le _) rfl)
  have H := hid h
  have H1 := hid (h.turned ((Turn.refl (fun _ => False) w).alloc (.cells #[] 3)) (fun _ _ => id))
  clear h
  go_enter Tryd.func66, Tryd.ntmps66
  go_wp2_with (at_builtin; refine wpList_append_at rfl _ _ 70 rfl 3 i0 (.int .i64 0) 1 8 Tryd.underlying70 hi0 hz0 hz1 hz2 rfl (by decide) (.slice (some ⟨w.heap.size, 0, none⟩) 0 0) 0 [] rfl HO.out ⟨g, 0, none⟩ xs.length cap (xs.map (Value.int .i64)) rfl ?c0 ?c1 ?c2 ?c3 ?c4 ?c5 ?c6)
  case c0 => simp
  case c1 =>
    intro j u hj
    rw [List.getElem?_map] at hj
    cases hx : xs[j]? with
    | none => rw [hx] at hj; cases hj
    | some x =>
      rw [hx] at hj
      cases hj
      have := H1.out.cell j x hx
      rw [Addr.add_mid, Nat.zero_add]
      exact this
  case c2 =>
    intro u hu
    obtain ⟨x, _, rfl⟩ := List.mem_map.1 hu
    rfl
  case c3 => exact .inr (by simp)
  case c4 => unfold maxLen; omega
  case c5 => omega
  intro g' cap' w1 hI t ho
  have hI' : IntsAt w1 (.slice (some ⟨g', 0, none⟩) xs.length cap') xs := by
    unfold IntsAt
    simpa using hI
  have hg' : w.heap.size ≤ g' := by
    rcases ho with h | h
    · cases h; exact Nat.le_refl _
    · omega
  have HT := hid ((Turn.refl (fun _ => False) w).alloc (.cells #[] 3) |>.trans' t (fun k hk e => by cases e; exact absurd hk (Nat.lt_irrefl _)))
  clear hI t ho
  go_wp2_with fail
  go_ret
  exact ⟨g', cap', rfl, hI', hg', HT.out⟩
end Go.Proofs.YtiohpmcedfbcgabDoor
