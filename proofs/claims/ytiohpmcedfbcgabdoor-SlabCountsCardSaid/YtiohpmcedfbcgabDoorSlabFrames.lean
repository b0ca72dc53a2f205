/- Package slab: frames: all frames, rising. Conditions: the cache lies in memory; its frames are ints. -/
import Derived.Test.YtiohpmcedfbcgabDoorSlab
import Derived.Test.YtiohpmcedfbcgabDoorInts
import Derived.Test.YtiohpmcedfbcgabDoorKeysS
import Derived.Test.YtiohpmcedfbcgabDoorKeysAny
import Derived.Shelf.SlIterI.Nil
import Derived.Shelf.SortM.Plain
import Derived.Shelf.SortM.SortNone
namespace Go.Proofs.YtiohpmcedfbcgabDoor
open Go.RowKit Go.Maps Go.Sort Go.Shelf Go.WideElems
set_option linter.unusedVariables false

/-- The keys, rising. -/
def framesOfL (l : List (Int × Nat)) : List Int := (l.map (·.1)).mergeSort (fun x y => decide (x ≤ y))
set_option maxHeartbeats 1000000 in
set_option maxRecDepth 100000 in
theorem frames_is {w : World} {cb mb p per : Nat} {l : List (Int × Nat)} {B : Nat → Nat → Bool} (h : SlabIs w cb mb p per l B) (hwf : ∀ t ∈ l, (Lit.int .i64 t.1).wf = true) (hl : l.length ≤ 1000000) :
    Calls Tryd.prog 118 #[.pointer (some ⟨cb, 0, none⟩)] w fun e w' => ∃ v, e = .returned v ∧ w'.ownsRow w.heap.size 3 1 v l.length ((framesOfL l).map fun n : Int => Value.int .i64 n) ∧ Below w.heap.size w w' := by
  obtain ⟨D0, hown, hperm, hsize⟩ := h.mp.owns Tryd.underlying3 hwf (by unfold maxLen; omega)
  have hh := h.c2
  refine (callsIn_wide (n := 6)).1 ?_
  have hbl := hown.lt
  have hmax : Maps.size D0 ≤ maxLen := by rw [hsize]; unfold maxLen; omega
  have hbytes : Maps.size D0 * 8 ≤ 140737488355328 := by rw [hsize]; omega
  have hseq : SeqGives Fence.wide 2 Tryd.prog 198 #[.pointer (some ⟨w.heap.size, 0, none⟩)] encZ (fun ss => ss.Perm (intKeys D0)) (Maps.size D0) (w.alloc (.cells #[.map (some mb)] 178)) :=
    AnyZI.keys_gives (ρ := laysKeysS_ren) { laysKeysS with } Fence.wide _ trivial rfl (by omega) w.heap.size mb l.length D0 _ (by simp) (by simp) (by
      obtain ⟨es, clock, hb, Ft, hs, hD⟩ := hown
      exact ⟨es, clock, (Below.heap_alloc _ _ mb hbl).trans hb, Ft, hs, hD⟩)
  have cK : ∀ mb W, CallsIn Fence.wide 5 Tryd.prog 160 #[.map mb] W fun e w' => e = .returned (.func (.func 198) #[] #[.pointer (some ⟨W.heap.size, 0, none⟩)]) ∧ w' = W.alloc (.cells #[.map mb] 178) := fun mb W => AnyZI.keys_in laysKeysS Fence.wide 5 trivial rfl mb W
  have cS := AnyZI.sorted_in laysSortedI Fence.wide 5 trivial trivial trivial trivial rfl (by omega) (sortsI _) (enters_of Tryd.func157 (by kernel_rfl) rfl) 198 #[.pointer (some ⟨w.heap.size, 0, none⟩)] trivial (enters_of Tryd.func198 (by kernel_rfl) rfl) _ _ hmax hbytes _ hseq
  change CallsIn _ _ Tryd.prog 114 _ _ _ at cS
  have hfK : Fence.wide.fn 160 := trivial
  have hfS : Fence.wide.fn 114 := trivial
  have HPerm := hid hperm
  clear h hseq hperm
  refine callsIn_of_wp Tryd.func118 rfl trivial ?_ rfl
  simp only [Tryd.ntmps118, List.size_toArray, List.length_cons, List.length_nil, Nat.reduceAdd, Nat.reduceSub, Array.replicate_succ, Array.replicate_zero, List.push_toArray, List.append_toArray, List.nil_append, List.cons_append]
  gi_wp2_with (first
    | (gi_at_call 160; refine (cK _ _).mono ?_; rintro e w' ⟨rfl, rfl⟩)
    | (gi_at_call 114; refine cS.mono ?_; rintro e w' ⟨v, ss, rfl, hS, hrow, hnil, hb⟩))
  go_ret
  have hpp := hS.trans HPerm.out
  have hlen : ss.length = l.length := by rw [hpp.length_eq]; simp
  have hrow2 := ownsRow_base_a hrow (show w.heap.size ≤ _ by simp)
  rw [sorted_of_perm hpp, hlen] at hrow2
  exact ⟨v, rfl, hrow2, ((Below.refl _ w).alloc (Nat.le_refl _) _).trans (hb.mono (by simp))⟩
theorem framesOfL_length (l : List (Int × Nat)) : (framesOfL l).length = l.length := by unfold framesOfL; rw [List.length_mergeSort]; simp
theorem mem_framesOfL {l : List (Int × Nat)} {k : Int} : k ∈ framesOfL l ↔ k ∈ l.map (·.1) := (List.mergeSort_perm _ _).mem_iff
theorem frames_at {w : World} {cb mb p per : Nat} {l : List (Int × Nat)} {B : Nat → Nat → Bool} (h : SlabIs w cb mb p per l B) (hwf : ∀ t ∈ l, (Lit.int .i64 t.1).wf = true) (hl : l.length ≤ 1000000) :
    Calls Tryd.prog 118 #[.pointer (some ⟨cb, 0, none⟩)] w fun e w' => ∃ v, e = .returned v ∧ IntsAt w' v (framesOfL l) ∧ (∀ g, v.ownBlock = some g → w.heap.size ≤ g) ∧ Turn (fun _ => False) w w' := by
  refine (frames_is h hwf hl).mono ?_
  rintro e w' ⟨v, rfl, hrow, hbel⟩
  refine ⟨v, rfl, ?_, fun g hg => ownBlock_ge hrow hg, ⟨hbel.os, hbel.tape, hbel.output, hbel.size, fun k hk _ => hbel.block k hk⟩⟩
  unfold IntsAt
  rw [framesOfL_length]
  exact ownsRow_base_a hrow (Nat.zero_le _)
end Go.Proofs.YtiohpmcedfbcgabDoor
