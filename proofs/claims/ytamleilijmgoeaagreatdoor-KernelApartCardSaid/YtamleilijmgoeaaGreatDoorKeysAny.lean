/- Keys of a map from ints, sorted: what the kit's laid contracts want. Conditions: each theorem's own premises. -/
import Derived.Test.YtamleilijmgoeaaGreatDoorBase
import Derived.Test.YtamleilijmgoeaaGreatDoorSortedI
import Derived.Test.YtamleilijmgoeaaGreatDoorSortI
import Derived.Shelf.SlIterI.Nil
import Derived.Shelf.SortM.Plain
import Derived.Shelf.SortM.SortNone
namespace Go.Proofs.YtamleilijmgoeaaGreatDoor
set_option linter.unusedVariables false
section
open Go.RowKit Go.Maps Go.Sort Go.Shelf Go.WideElems
def unread:Value→Option (DataW Unit×List MemPlace):=fun _ => some (.nil,[])
theorem MapIs.owns {P:Program} {w:World} {mb:Nat} {β:Type} {val:β→Value} {l:List (Int×β)} {kt:TypeId} (h:MapIs w mb (.int .i64) encI val l) (hk:P.underlying kt=some (.int .i64)) (hwf:∀ t∈l,(Lit.int .i64 t.1).wf=true) (hl:l.length≤maxLen) :
    ∃ D0:DataW Unit,w.ownsMap P kt unread mb l.length D0∧(intKeys D0).Perm (l.map (·.1))∧Maps.size D0=l.length:=by
  obtain ⟨es,clock,hb,hs,hm⟩:=h.obj
  have hlen:es.size=l.length:=by
    have:=congrArg List.length hm
    simpa using this
  have pair:∀ (j:Nat) (x:MapEntry),es.toList[j]?=some x→∃ t,l[j]?=some t∧x.key=.int .i64 t.1:=fun j x hx => by
    have hj:=(List.getElem?_eq_some_iff.1 hx).1
    obtain ⟨t,ht⟩:∃ t,l[j]?=some t:=⟨_,List.getElem?_eq_getElem (by rw [← hlen]; simpa using hj)⟩
    have h1:=congrArg (fun l => l[j]?) hm
    simp only [List.getElem?_map,hx,ht,Option.map_some,Option.some.injEq,Prod.mk.injEq] at h1
    exact ⟨t,ht,h1.1⟩
  have key:∀ (x:MapEntry) (t:Int×β),t∈l→x.key=.int .i64 t.1→rd P kt unread x=some (.int .i64 t.1,.nil):=fun x t ht e => by
    unfold WideElems.rd keyOf
    rw [hk,e]
    have hw:=hwf t ht
    simp [mapKey,hk,hw,unread]
  refine ⟨.map ((es.toList.map (rg P kt unread)).foldr DataW.insert []),⟨es,clock,hb,⟨by rw [hlen]; exact hl,hs,fun x hx => ?_⟩,by rw [hlen]; exact Nat.le_refl _,rfl⟩,?_,?_⟩
  · obtain ⟨j,hj⟩:=List.getElem?_of_mem hx
    obtain ⟨t,ht,e⟩:=pair j x hj
    exact ⟨_,key x t (List.mem_of_getElem? ht) e⟩
  · have e1:(es.toList.map (rg P kt unread)).map (fun p => Go.intOf p.1)=l.map (·.1):=by
      apply List.ext_getElem?
      intro j
      cases hx:es.toList[j]? with
      | none =>
        have h1:=List.getElem?_eq_none_iff.1 hx
        have:l[j]?=none:=List.getElem?_eq_none_iff.2 (by rw [← hlen]; simpa using h1)
        simp [hx,this]
      | some x =>
        obtain ⟨t,ht,e⟩:=pair j x hx
        have h2:=rg_of (key x t (List.mem_of_getElem? ht) e)
        simp only [List.getElem?_map,hx,ht,Option.map_some,h2]
        rfl
    show (((es.toList.map (rg P kt unread)).foldr DataW.insert []).map fun p => Go.intOf p.1).Perm _
    rw [← e1]
    exact (Go.WideShapes.sorted_perm _).map _
  · show ((es.toList.map (rg P kt unread)).foldr DataW.insert []).length=_
    rw [length_sorted]
    simp [hlen]
theorem sortsI (m:Nat):AnyZI.SortsIn Tryz.prog laysSortedI_ren Fence.wide m :=
  ⟨fun blk off cap ss W hH hblk hsz => callsIn_wide.2 (AnyM.slices_Sort_int laysSortI blk off cap ss W hH hblk hsz),
   fun p cap W => callsIn_wide.2 (AnyM.slices_Sort_int_none laysSortI p cap W)⟩
theorem sorted_of_perm {xs ys:List Int} (h:xs.Perm ys):xs.mergeSort (fun x y => decide (x≤y))=ys.mergeSort (fun x y => decide (x≤y)):=by
  have tr:∀ a b c:Int,decide (a≤b)=true→decide (b≤c)=true→decide (a≤c)=true:=fun a b c h1 h2 => by simp only [decide_eq_true_eq] at *; omega
  have tot:∀ a b:Int,(decide (a≤b) || decide (b≤a))=true:=fun a b => by simp only [Bool.or_eq_true,decide_eq_true_eq]; omega
  have hp:(xs.mergeSort (fun x y => decide (x≤y))).Perm (ys.mergeSort (fun x y => decide (x≤y))):=(List.mergeSort_perm _ _).trans (h.trans (List.mergeSort_perm _ _).symm)
  exact List.Perm.eq_of_pairwise (le:=fun a b:Int => decide (a≤b)=true) (fun a b _ _ h1 h2 => by simp only [decide_eq_true_eq] at *; omega) (List.pairwise_mergeSort tr tot xs) (List.pairwise_mergeSort tr tot ys) hp
def risen (l:List Int):List Int:=l.mergeSort (fun x y => decide (x≤y))
theorem risen_perm (l:List Int):(risen l).Perm l:=List.mergeSort_perm _ _
end
end Go.Proofs.YtamleilijmgoeaaGreatDoor
