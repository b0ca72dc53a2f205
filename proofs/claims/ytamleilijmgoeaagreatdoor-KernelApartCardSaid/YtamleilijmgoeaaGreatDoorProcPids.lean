/- Package proc: Pids: all numbers, rising. Conditions: the table lies in memory; its numbers are ints. -/
import Derived.Test.YtamleilijmgoeaaGreatDoorProc
import Derived.Test.YtamleilijmgoeaaGreatDoorKeysAny
import Derived.Test.YtamleilijmgoeaaGreatDoorKeysP
import Derived.Test.YtamleilijmgoeaaGreatDoorSortedI
import Derived.Test.YtamleilijmgoeaaGreatDoorSortI
import Derived.Shelf.SlIterI.Nil
import Derived.Shelf.SortM.Plain
import Derived.Shelf.SortM.SortNone
namespace Go.Proofs.YtamleilijmgoeaaGreatDoor
set_option linter.unusedVariables false
set_option maxHeartbeats 1000000
set_option maxRecDepth 100000
section
open Go.RowKit Go.Maps Go.Sort Go.Shelf Go.WideElems
def pidsOf (l:List (Int×Nat)):List Int:=(l.map (·.1)).mergeSort (fun x y => decide (x≤y))
theorem pids_is {w:World} {tb mb:Nat} {l:List (Int×Nat)} {f:Nat→Pr} (h:PrTab w tb mb l f) (hwf:∀ t∈l,(Lit.int .i64 t.1).wf=true) (hl:l.length≤1000000) :
  Calls Tryz.prog 75 #[.pointer (some ⟨tb,0,none⟩)] w fun e w' => ∃ v,e=.returned v∧w'.ownsRow w.heap.size 3 1 v l.length ((pidsOf l).map fun n:Int => Value.int .i64 n)∧Below w.heap.size w w':=by
 obtain ⟨D0,hown,hperm,hsize⟩:=h.mp.owns Tryz.underlying3 hwf (by unfold maxLen; omega)
 have hh:=h.hdr
 refine (callsIn_wide (n:=6)).1 ?_
 have hbl:=hown.lt
 have hmax:Maps.size D0≤maxLen:=by rw [hsize]; unfold maxLen; omega
 have hbytes:Maps.size D0 * 8≤140737488355328:=by rw [hsize]; omega
 have hseq:SeqGives Fence.wide 2 Tryz.prog 236 #[.pointer (some ⟨w.heap.size,0,none⟩)] encZ (fun ss => ss.Perm (intKeys D0)) (Maps.size D0) (w.alloc (.cells #[.map (some mb)] 230)) :=
  AnyZI.keys_gives (ρ:=laysKeysP_ren) { laysKeysP with } Fence.wide _ trivial rfl (by omega) w.heap.size mb l.length D0 _ (by simp) (by simp) (by
   obtain ⟨es,clock,hb,Ft,hs,hD⟩:=hown
   exact ⟨es,clock,(Below.heap_alloc _ _ mb hbl).trans hb,Ft,hs,hD⟩)
 have cK:∀ mb W,CallsIn Fence.wide 5 Tryz.prog 162 #[.map mb] W fun e w' => e=.returned (.func (.func 236) #[] #[.pointer (some ⟨W.heap.size,0,none⟩)])∧w'=W.alloc (.cells #[.map mb] 230):=fun mb W => AnyZI.keys_in laysKeysP Fence.wide 5 trivial rfl mb W
 have cS:=AnyZI.sorted_in laysSortedI Fence.wide 5 trivial trivial trivial trivial rfl (by omega) (sortsI _) (enters_of Tryz.func227 (by kernel_rfl) rfl) 236 #[.pointer (some ⟨w.heap.size,0,none⟩)] trivial (enters_of Tryz.func236 (by kernel_rfl) rfl) _ _ hmax hbytes _ hseq
 change CallsIn _ _ Tryz.prog 150 _ _ _ at cS
 have hfK:Fence.wide.fn 162:=trivial
 have hfS:Fence.wide.fn 150:=trivial
 have HPerm:=hid hperm
 clear h hseq hperm
 refine callsIn_of_wp Tryz.func75 rfl trivial ?_ rfl
 simp only [Tryz.ntmps75,List.size_toArray,List.length_cons,List.length_nil,Nat.reduceAdd,Nat.reduceSub,Array.replicate_succ,Array.replicate_zero,List.push_toArray,List.append_toArray,List.nil_append,List.cons_append]
 gi_wp2_with (first
  | (gi_at_call 162; refine (cK _ _).mono ?_; rintro e w' ⟨rfl,rfl⟩)
  | (gi_at_call 150; refine cS.mono ?_; rintro e w' ⟨v,ss,rfl,hS,hrow,hnil,hb⟩))
 go_ret
 have hpp:=hS.trans HPerm.out
 have hlen:ss.length=l.length:=by rw [hpp.length_eq]; simp
 have hrow2:=ownsRow_base_a hrow (show w.heap.size≤_ by simp)
 rw [sorted_of_perm hpp,hlen] at hrow2
 exact ⟨v,rfl,hrow2,((Below.refl _ w).alloc (Nat.le_refl _) _).trans (hb.mono (by simp))⟩
end
end Go.Proofs.YtamleilijmgoeaaGreatDoor
