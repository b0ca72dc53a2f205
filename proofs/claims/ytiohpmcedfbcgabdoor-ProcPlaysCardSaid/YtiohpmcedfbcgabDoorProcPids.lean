/- Package proc: Pids: all numbers, rising. Conditions: the table lies in memory; its numbers are ints. -/
import Derived.Test.YtiohpmcedfbcgabDoorProc
import Derived.Test.YtiohpmcedfbcgabDoorKeysP
import Derived.Test.YtiohpmcedfbcgabDoorSortedI
import Derived.Test.YtiohpmcedfbcgabDoorSortI
import Derived.Shelf.SlIterI.Nil
import Derived.Shelf.SortM.Plain
import Derived.Shelf.SortM.SortNone
namespace Go.Proofs.YtiohpmcedfbcgabDoor
open Go.RowKit Go.Maps Go.Sort Go.Shelf Go.WideElems
set_option linter.unusedVariables false

def unread : Value → Option (DataW Unit × List MemPlace) := fun _ => some (.nil, [])
theorem MapIs.owns {P : Program} {w : World} {mb : Nat} {β : Type} {val : β → Value} {l : List (Int × β)} {kt : TypeId} (h : MapIs w mb (.int .i64) encI val l) (hk : P.underlying kt = some (.int .i64)) (hwf : ∀ t ∈ l, (Lit.int .i64 t.1).wf = true) (hl : l.length ≤ maxLen) :
    ∃ D0 : DataW Unit, w.ownsMap P kt unread mb l.length D0 ∧ (intKeys D0).Perm (l.map (·.1)) ∧ Maps.size D0 = l.length := by
  obtain ⟨es, clock, hb, hs, hm⟩ := h.obj
  have hlen : es.size = l.length := by
    have := congrArg List.length hm
    simpa using this
  have pair : ∀ (j : Nat) (x : MapEntry), es.toList[j]? = some x → ∃ t, l[j]? = some t ∧ x.key = .int .i64 t.1 := fun j x hx => by
    have hj := (List.getElem?_eq_some_iff.1 hx).1
    obtain ⟨t, ht⟩ : ∃ t, l[j]? = some t := ⟨_, List.getElem?_eq_getElem (by rw [← hlen]; simpa using hj)⟩
    have h1 := congrArg (fun l => l[j]?) hm
    simp only [List.getElem?_map, hx, ht, Option.map_some, Option.some.injEq, Prod.mk.injEq] at h1
    exact ⟨t, ht, h1.1⟩
  have key : ∀ (x : MapEntry) (t : Int × β), t ∈ l → x.key = .int .i64 t.1 → rd P kt unread x = some (.int .i64 t.1, .nil) := fun x t ht e => by
    unfold WideElems.rd keyOf
    rw [hk, e]
    have hw := hwf t ht
    simp [mapKey, hk, hw, unread]
  refine ⟨.map ((es.toList.map (rg P kt unread)).foldr DataW.insert []), ⟨es, clock, hb, ⟨by rw [hlen]; exact hl, hs, fun x hx => ?_⟩, by rw [hlen]; exact Nat.le_refl _, rfl⟩, ?_, ?_⟩
  · obtain ⟨j, hj⟩ := List.getElem?_of_mem hx
    obtain ⟨t, ht, e⟩ := pair j x hj
    exact ⟨_, key x t (List.mem_of_getElem? ht) e⟩
  · have e1 : (es.toList.map (rg P kt unread)).map (fun p => Go.intOf p.1) = l.map (·.1) := by
      apply List.ext_getElem?
      intro j
      cases hx : es.toList[j]? with
      | none =>
        have h1 := List.getElem?_eq_none_iff.1 hx
        have : l[j]? = none := List.getElem?_eq_none_iff.2 (by rw [← hlen]; simpa using h1)
        simp [hx, this]
      | some x =>
        obtain ⟨t, ht, e⟩ := pair j x hx
        have h2 := rg_of (key x t (List.mem_of_getElem? ht) e)
        simp only [List.getElem?_map, hx, ht, Option.map_some, h2]
        rfl
    show (((es.toList.map (rg P kt unread)).foldr DataW.insert []).map fun p => Go.intOf p.1).Perm _
    rw [← e1]
    exact (Go.WideShapes.sorted_perm _).map _
  · show ((es.toList.map (rg P kt unread)).foldr DataW.insert []).length = _
    rw [length_sorted]
    simp [hlen]

/-- slices.Sort's two contracts, at the fence that asks nothing. -/
theorem sortsI (m : Nat) : AnyZI.SortsIn Tryd.prog laysSortedI_ren Fence.wide m :=
  ⟨fun blk off cap ss W hH hblk hsz => callsIn_wide.2 (AnyM.slices_Sort_int laysSortI blk off cap ss W hH hblk hsz),
   fun p cap W => callsIn_wide.2 (AnyM.slices_Sort_int_none laysSortI p cap W)⟩

theorem sorted_of_perm {xs ys : List Int} (h : xs.Perm ys) : xs.mergeSort (fun x y => decide (x ≤ y)) = ys.mergeSort (fun x y => decide (x ≤ y)) := by
  have tr : ∀ a b c : Int, decide (a ≤ b) = true → decide (b ≤ c) = true → decide (a ≤ c) = true := fun a b c h1 h2 => by simp only [decide_eq_true_eq] at *; omega
  have tot : ∀ a b : Int, (decide (a ≤ b) || decide (b ≤ a)) = true := fun a b => by simp only [Bool.or_eq_true, decide_eq_true_eq]; omega
  have hp : (xs.mergeSort (fun x y => decide (x ≤ y))).Perm (ys.mergeSort (fun x y => decide (x ≤ y))) := (List.mergeSort_perm _ _).trans (h.trans (List.mergeSort_perm _ _).symm)
  exact List.Perm.eq_of_pairwise (le := fun a b : Int => decide (a ≤ b) = true) (fun a b _ _ h1 h2 => by simp only [decide_eq_true_eq] at *; omega) (List.pairwise_mergeSort tr tot xs) (List.pairwise_mergeSort tr tot ys) hp

/-- The keys, rising. -/
def pidsOf (l : List (Int × Nat)) : List Int := (l.map (·.1)).mergeSort (fun x y => decide (x ≤ y))
set_option maxHeartbeats 1000000 in
set_option maxRecDepth 100000 in
theorem pids_is {w : World} {tb mb : Nat} {l : List (Int × Nat)} {f : Nat → Pr} (h : TabIs w tb mb l f) (hwf : ∀ t ∈ l, (Lit.int .i64 t.1).wf = true) (hl : l.length ≤ 1000000) :
    Calls Tryd.prog 46 #[.pointer (some ⟨tb, 0, none⟩)] w fun e w' => ∃ v, e = .returned v ∧ w'.ownsRow w.heap.size 3 1 v l.length ((pidsOf l).map fun n : Int => Value.int .i64 n) ∧ Below w.heap.size w w' := by
  obtain ⟨D0, hown, hperm, hsize⟩ := h.mp.owns Tryd.underlying3 hwf (by unfold maxLen; omega)
  have hh := h.hdr
  refine (callsIn_wide (n := 6)).1 ?_
  have hbl := hown.lt
  have hmax : Maps.size D0 ≤ maxLen := by rw [hsize]; unfold maxLen; omega
  have hbytes : Maps.size D0 * 8 ≤ 140737488355328 := by rw [hsize]; omega
  have hseq : SeqGives Fence.wide 2 Tryd.prog 159 #[.pointer (some ⟨w.heap.size, 0, none⟩)] encZ (fun ss => ss.Perm (intKeys D0)) (Maps.size D0) (w.alloc (.cells #[.map (some mb)] 167)) :=
    AnyZI.keys_gives (ρ := laysKeysP_ren) { laysKeysP with } Fence.wide _ trivial rfl (by omega) w.heap.size mb l.length D0 _ (by simp) (by simp) (by
      obtain ⟨es, clock, hb, Ft, hs, hD⟩ := hown
      exact ⟨es, clock, (Below.heap_alloc _ _ mb hbl).trans hb, Ft, hs, hD⟩)
  have cK : ∀ mb W, CallsIn Fence.wide 5 Tryd.prog 115 #[.map mb] W fun e w' => e = .returned (.func (.func 159) #[] #[.pointer (some ⟨W.heap.size, 0, none⟩)]) ∧ w' = W.alloc (.cells #[.map mb] 167) := fun mb W => AnyZI.keys_in laysKeysP Fence.wide 5 trivial rfl mb W
  have cS := AnyZI.sorted_in laysSortedI Fence.wide 5 trivial trivial trivial trivial rfl (by omega) (sortsI _) (enters_of Tryd.func157 (by kernel_rfl) rfl) 159 #[.pointer (some ⟨w.heap.size, 0, none⟩)] trivial (enters_of Tryd.func159 (by kernel_rfl) rfl) _ _ hmax hbytes _ hseq
  change CallsIn _ _ Tryd.prog 114 _ _ _ at cS
  have hfK : Fence.wide.fn 115 := trivial
  have hfS : Fence.wide.fn 114 := trivial
  have HPerm := hid hperm
  clear h hseq hperm
  refine callsIn_of_wp Tryd.func46 rfl trivial ?_ rfl
  simp only [Tryd.ntmps46, List.size_toArray, List.length_cons, List.length_nil, Nat.reduceAdd, Nat.reduceSub, Array.replicate_succ, Array.replicate_zero, List.push_toArray, List.append_toArray, List.nil_append, List.cons_append]
  gi_wp2_with (first
    | (gi_at_call 115; refine (cK _ _).mono ?_; rintro e w' ⟨rfl, rfl⟩)
    | (gi_at_call 114; refine cS.mono ?_; rintro e w' ⟨v, ss, rfl, hS, hrow, hnil, hb⟩))
  go_ret
  have hpp := hS.trans HPerm.out
  have hlen : ss.length = l.length := by rw [hpp.length_eq]; simp
  have hrow2 := ownsRow_base_a hrow (show w.heap.size ≤ _ by simp)
  rw [sorted_of_perm hpp, hlen] at hrow2
  exact ⟨v, rfl, hrow2, ((Below.refl _ w).alloc (Nat.le_refl _) _).trans (hb.mono (by simp))⟩
end Go.Proofs.YtiohpmcedfbcgabDoor
