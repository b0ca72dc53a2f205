/- Keys of a map from texts, sorted: what the kit's laid contracts want. Conditions: each theorem's own premises. -/
import Derived.Test.YtacoaahomdjfnaaDoorPathText
import Derived.Test.YtacoaahomdjfnaaDoorSortedS
import Derived.Test.YtacoaahomdjfnaaDoorSortS
import Derived.Shelf.SlIter.Nil
import Derived.Shelf.SortM.Plain
import Derived.Shelf.SortM.SortNone
namespace Go.Proofs.YtacoaahomdjfnaaDoor
set_option linter.unusedVariables false
section
open Go.RowKit Go.Maps Go.Sort Go.Shelf Go.WideElems
def unreadS:Value→Option (DataW Unit×List MemPlace):=fun _ => some (.nil,[])
theorem MapIs.ownsS {P:Program} {w:World} {mb:Nat} {β:Type} {val:β→Value} {l:List (ByteArray×β)} {kt:TypeId} (h:MapIs w mb (.string) encS val l) (hk:P.underlying kt=some .string) (hwf:∀ t∈l,t.1.size≤maxLen) (hl:l.length≤maxLen) :
    ∃ D0:DataW Unit,w.ownsMap P kt unreadS mb l.length D0∧(strKeys D0).Perm (l.map (·.1.data.toList))∧Maps.size D0=l.length:=by
  obtain ⟨es,clock,hb,hs,hm⟩:=h.obj
  have hlen:es.size=l.length:=by
    have:=congrArg List.length hm
    simpa using this
  have pair:∀ (j:Nat) (x:MapEntry),es.toList[j]?=some x→∃ t,l[j]?=some t∧x.key=.string t.1:=fun j x hx => by
    have hj:=(List.getElem?_eq_some_iff.1 hx).1
    obtain ⟨t,ht⟩:∃ t,l[j]?=some t:=⟨_,List.getElem?_eq_getElem (by rw [← hlen]; simpa using hj)⟩
    have h1:=congrArg (fun l => l[j]?) hm
    simp only [List.getElem?_map,hx,ht,Option.map_some,Option.some.injEq,Prod.mk.injEq] at h1
    exact ⟨t,ht,h1.1⟩
  have key:∀ (x:MapEntry) (t:ByteArray×β),t∈l→x.key=.string t.1→rd P kt unreadS x=some (.string t.1.data.toList,.nil):=fun x t ht e => by
    unfold WideElems.rd keyOf
    rw [hk,e]
    have hw:=hwf t ht
    simp [mapKey,hk,hw,unreadS]
  refine ⟨.map ((es.toList.map (rg P kt unreadS)).foldr DataW.insert []),⟨es,clock,hb,⟨by rw [hlen]; exact hl,hs,fun x hx => ?_⟩,by rw [hlen]; exact Nat.le_refl _,rfl⟩,?_,?_⟩
  · obtain ⟨j,hj⟩:=List.getElem?_of_mem hx
    obtain ⟨t,ht,e⟩:=pair j x hj
    exact ⟨_,key x t (List.mem_of_getElem? ht) e⟩
  · have e1:(es.toList.map (rg P kt unreadS)).map (fun p => Go.strOf p.1)=l.map (·.1.data.toList):=by
      apply List.ext_getElem?
      intro j
      cases hx:es.toList[j]? with
      | none =>
        have h1:=List.getElem?_eq_none_iff.1 hx
        have:l[j]?=none:=List.getElem?_eq_none_iff.2 (by rw [← hlen]; simpa using h1)
        simp [hx,this]
      | some x =>
        obtain ⟨t,ht,e⟩:=pair j x hx
        have h2:=rg_of (key x t (List.mem_of_getElem? ht) e)
        simp only [List.getElem?_map,hx,ht,Option.map_some,h2]
        rfl
    show (((es.toList.map (rg P kt unreadS)).foldr DataW.insert []).map fun p => Go.strOf p.1).Perm _
    rw [← e1]
    exact (Go.WideShapes.sorted_perm _).map _
  · show ((es.toList.map (rg P kt unreadS)).foldr DataW.insert []).length=_
    rw [length_sorted]
    simp [hlen]
theorem sortsS (m:Nat):AnyZ.SortsIn Tryd.prog laysSortedS_ren Fence.wide m :=
  ⟨fun blk off cap ss W hH hblk hsz => callsIn_wide.2 (AnyM.slices_Sort_string laysSortS blk off cap ss W hH hblk hsz),
   fun p cap W => callsIn_wide.2 (AnyM.slices_Sort_string_none laysSortS p cap W)⟩
end
end Go.Proofs.YtacoaahomdjfnaaDoor
