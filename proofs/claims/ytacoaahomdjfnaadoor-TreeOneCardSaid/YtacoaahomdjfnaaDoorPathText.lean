/- Paths as texts: the text of names, and the names of a text. Plain: no program in sight. Conditions: each theorem's own premises. Maps in memory, as association lists: what look-up, store, delete, len and a fresh map do. No program in sight. Conditions: each theorem's own premises. An append to what the call itself owns, as one step of a region that draws its order; small general steps. Conditions: each theorem's own premises. An append to a slice in a block of its own, told where the new slice lies: in the same block, or in a new one. Conditions: each theorem's own premises. A slice of one-cell values in a block of its own: shape, cells, append. No program in sight. Conditions: each theorem's own premises. A map literal's insert in a walk. No program in sight. Conditions: each theorem's own premises. An append of another slice's one-cell values. No program in sight. Conditions: each theorem's own premises. A range over a map in memory (Maps.lean's 'MapIs'): each entry comes once, in an order that is drawn. No program in sight. Conditions: each theorem's own premises. -/
import Derived.Test.YtacoaahomdjfnaaDoorPaths
import Derived.Lib.IndexLaws
import Derived.Lib.IndexBytes
import Derived.Test.YtacoaahomdjfnaaDoorBase
import Derived.MapKept
import Derived.Maps.OwnSet
import Derived.Maps.RangeWalk
import Derived.Deep.RegionLaw
import Derived.ArgAppend
import Derived.BigRegion
import Derived.Maps.RangeRun
namespace Go.Proofs.YtacoaahomdjfnaaDoor
open Go.RowKit
set_option linter.unusedVariables false
section
open Go.Lib
section
variable {s r x y:ByteArray} {l l':List ByteArray}
theorem bytes_ext {a b:ByteArray} (h:a.data.toList=b.data.toList):a=b:=by
 have h1:(⟨a.data.toList.toArray⟩:ByteArray)=⟨b.data.toList.toArray⟩:=by rw [h]
 rw [mk_data,mk_data] at h1
 exact h1
theorem data_app (a b:ByteArray):(a ++ b).data.toList=a.data.toList ++ b.data.toList:=by simp
theorem slash_data:slash.data.toList=[47]:=rfl
def NoSl (s:ByteArray):Prop:=(47:UInt8) ∉ s.data.toList
theorem occ_slash {a:List UInt8} {i:Nat}:occAt a slash.data.toList i=true ↔ a[i]?=some 47:=by
 constructor
 ·exact fun h => occAt_head slash_data h
 ·intro h
  unfold occAt
  rw [slash_data]
  obtain ⟨hi,hv⟩:=List.getElem?_eq_some_iff.1 h
  rw [List.drop_eq_getElem_cons hi,hv]
  rfl
theorem index_no (h:NoSl s):indexB s slash=-1:=by
 rcases index_spec s.data.toList slash.data.toList with ⟨h1,_⟩ | ⟨i,h1,h2,h3,h4⟩
 ·exact h1
 ·exact absurd (List.mem_of_getElem? (occ_slash.1 h3)) h
theorem pieces_one (h:NoSl s):piecesOf s=[s]:=by
 unfold piecesOf
 exact splitB_miss slash 0 _ s (index_no h)
theorem pieces_hit {i:Nat} (h:indexB s slash=i):piecesOf s=s.extract 0 i :: piecesOf (s.extract (i+1) s.size):=by
 have hs:slash.size=1:=rfl
 have hc:=countB_hit s slash i (by decide) h
 have h5:countB s slash=countB (s.extract (i+1) s.size) slash+1:=by rw [hc,hs,Nat.add_comm]
 unfold piecesOf
 rw [h5,splitB_hit slash 0 _ s i h,hs]
 rfl
theorem index_at (h:NoSl s) (r:ByteArray):indexB (s ++ slash ++ r) slash=(s.size:Nat):=by
 have hd:(s ++ slash ++ r).data.toList=s.data.toList ++ 47 :: r.data.toList:=by rw [data_app,data_app,slash_data]; simp
 refine index_first ?_ ?_ (fun j hj => ?_)
 ·rw [hd,size_eq,List.length_append]; omega
 ·refine occ_slash.2 ?_
  rw [hd,size_eq,List.getElem?_append_right (Nat.le_refl _),Nat.sub_self]; rfl
 ·cases ho:occAt (s ++ slash ++ r).data.toList slash.data.toList j with
  | false => rfl
  | true =>
   have h1:=occ_slash.1 ho
   rw [hd,List.getElem?_append_left (by rw [← size_eq]; exact hj)] at h1
   exact absurd (List.mem_of_getElem? h1) h
theorem pieces_cons (h:NoSl s) (r:ByteArray):piecesOf (s ++ slash ++ r)=s :: piecesOf r:=by
 have hd:(s ++ slash ++ r).data.toList=s.data.toList ++ 47 :: r.data.toList:=by rw [data_app,data_app,slash_data]; simp
 rw [pieces_hit (index_at h r)]
 congr 1
 ·apply bytes_ext
  rw [extract_data,hd,List.drop_zero,Nat.sub_zero,size_eq,List.take_left']
  rfl
 ·congr 1
  apply bytes_ext
  rw [extract_data,hd,size_eq (s ++ slash ++ r),hd,size_eq]
  rw [show s.data.toList.length+1=(s.data.toList ++ [47]).length from by simp,show s.data.toList ++ 47 :: r.data.toList=(s.data.toList ++ [47]) ++ r.data.toList from by simp,List.drop_left',List.take_of_length_le]
  ·simp; omega
  ·rfl
def joinS:List ByteArray→ByteArray
 | [] => ByteArray.empty
 | [x] => x
 | x :: y :: l => x ++ slash ++ joinS (y :: l)
theorem pieces_join:∀ {l:List ByteArray},l≠[]→(∀ s∈l,NoSl s)→piecesOf (joinS l)=l
 | [],h,_ => absurd rfl h
 | [x],_,h => pieces_one (h x List.mem_cons_self)
 | x :: y :: l,_,h => by
  show piecesOf (x ++ slash ++ joinS (y :: l))=_
  rw [pieces_cons (h x List.mem_cons_self),pieces_join (by simp) (fun s hs => h s (List.mem_cons_of_mem _ hs))]
theorem join_pieces:∀ (n:Nat) (s:ByteArray),s.size≤n→joinS (piecesOf s)=s∧∀ x∈piecesOf s,NoSl x:=by
 intro n
 induction n with
 | zero =>
  intro s hs
  have e:s=ByteArray.empty:=empty_of_size (by omega)
  subst e
  have hn:NoSl ByteArray.empty:=fun h => by cases h
  rw [pieces_one hn]
  exact ⟨rfl,fun x hx => by rw [List.mem_singleton.1 hx]; exact hn⟩
 | succ n ih =>
  intro s hs
  rcases index_spec s.data.toList slash.data.toList with ⟨h1,h2⟩ | ⟨i,h1,h2,h3,h4⟩
  ·have hn:NoSl s:=fun hm => by
    obtain ⟨i,hi,hv⟩:=List.getElem_of_mem hm
    have h5:=h2 i (by omega)
    rw [occ_slash.2 (by rw [List.getElem?_eq_getElem hi,hv])] at h5
    cases h5
   rw [pieces_one hn]
   exact ⟨rfl,fun x hx => by rw [List.mem_singleton.1 hx]; exact hn⟩
  ·have hi:=occ_slash.1 h3
   obtain ⟨hil,hv⟩:=List.getElem?_eq_some_iff.1 hi
   have hsz:i < s.size:=by rw [size_eq]; exact hil
   obtain ⟨h5,h6⟩:=ih (s.extract (i+1) s.size) (by rw [extract_size s _ _ (Nat.le_refl _)]; omega)
   rw [pieces_hit h1]
   have hne:=pieces_ne (s.extract (i+1) s.size)
   refine ⟨?_,fun x hx => ?_⟩
   ·cases hp:piecesOf (s.extract (i+1) s.size) with
    | nil => exact absurd hp hne
    | cons y l =>
     rw [hp] at h5
     show s.extract 0 i ++ slash ++ joinS (y :: l)=s
     rw [h5]
     apply bytes_ext
     rw [data_app,data_app,extract_data,extract_data,slash_data,List.drop_zero,Nat.sub_zero,List.take_of_length_le (l:=List.drop (i+1) _) (by rw [List.length_drop,← size_eq]; omega)]
     conv => rhs; rw [← List.take_append_drop i s.data.toList,List.drop_eq_getElem_cons hil,hv]
     simp
   ·rcases List.mem_cons.1 hx with e | e
    ·subst e
     intro hm
     rw [extract_data,List.drop_zero,Nat.sub_zero] at hm
     obtain ⟨j,hj,hjv⟩:=List.getElem_of_mem hm
     rw [List.length_take] at hj
     rw [List.getElem_take] at hjv
     have h7:=h4 j (by omega)
     rw [occ_slash.2 (by rw [List.getElem?_eq_getElem (by omega),hjv])] at h7
     cases h7
    ·exact h6 x e
def pth:List ByteArray→ByteArray
 | [] => ByteArray.empty
 | s :: l => slash ++ s ++ pth l
def txP (l:List ByteArray):ByteArray:=if l=[] then slash else pth l
theorem pth_join:∀ {l:List ByteArray},l≠[]→pth l=slash ++ joinS l
 | [],h => absurd rfl h
 | [x],_ => by show slash ++ x ++ ByteArray.empty=slash ++ x; rw [ByteArray.append_empty]
 | x :: y :: l,_ => by
  show slash ++ x ++ pth (y :: l)=slash ++ (x ++ slash ++ joinS (y :: l))
  rw [pth_join (l:=y :: l) (by simp)]
  simp [ByteArray.append_assoc]
theorem pth_append:∀ (l l':List ByteArray),pth (l ++ l')=pth l ++ pth l'
 | [],l' => by show pth l'=ByteArray.empty ++ pth l'; rw [ByteArray.empty_append]
 | s :: l,l' => by
  show slash ++ s ++ pth (l ++ l')=slash ++ s ++ pth l ++ pth l'
  rw [pth_append l l']; simp only [ByteArray.append_assoc]
theorem txP_ne (h:l≠[]):txP l=pth l:=if_neg h
theorem txP_snoc (l:List ByteArray) (s:ByteArray):txP (l ++ [s])=pth l ++ slash ++ s:=by
 rw [txP_ne (by simp),pth_append]
 show pth l ++ (slash ++ s ++ ByteArray.empty)=_
 rw [ByteArray.append_empty,ByteArray.append_assoc]
theorem led_slash (r:ByteArray):led (slash ++ r)=true:=by
 unfold led hasPrefix
 rw [data_app,slash_data]
 rfl
theorem slash_tail (r:ByteArray):(slash ++ r).extract 1 (slash ++ r).size=r:=by
 apply bytes_ext
 rw [extract_data,size_eq,data_app,slash_data]
 simp only [List.cons_append,List.nil_append,List.drop_succ_cons,List.drop_zero,List.length_cons,Nat.add_sub_cancel]
 exact List.take_of_length_le (Nat.le_refl _)
theorem ok_size (h:okName s=true):1≤s.size∧s.size≤12:=by
 unfold okName at h
 simp only [Bool.and_eq_true,decide_eq_true_eq] at h
 exact ⟨h.1.1.1,h.1.1.2⟩
theorem join_size:∀ {l:List ByteArray},l≠[]→(∀ s∈l,okName s=true)→1≤(joinS l).size
 | [],h,_ => absurd rfl h
 | [x],_,h => (ok_size (h x List.mem_cons_self)).1
 | x :: y :: l,_,h => by
  have:=(ok_size (h x List.mem_cons_self)).1
  show 1≤(x ++ slash ++ joinS (y :: l)).size
  rw [ByteArray.size_append,ByteArray.size_append]
  omega
theorem namesOf_txP (h:∀ s∈l,okName s=true) (hn:∀ s∈l,NoSl s):namesOf (txP l)=some l:=by
 by_cases e:l=[]
 ·subst e
  exact namesOf_root (by rfl) (by rfl)
 ·rw [txP_ne e,pth_join e]
  have h1:=join_size e h
  have h2:piecesOf ((slash ++ joinS l).extract 1 (slash ++ joinS l).size)=l:=by rw [slash_tail,pieces_join e hn]
  rw [namesOf_ok (led_slash _) (by rw [ByteArray.size_append,show slash.size=1 from rfl]; omega) (by rw [h2]; exact List.all_eq_true.2 h),h2]
theorem txP_names {p:ByteArray} (h:namesOf p=some l):p=txP l∧∀ s∈l,NoSl s:=by
 unfold namesOf at h
 split at h
 ·rename_i h0
  have hp:p=slash ++ p.extract 1 p.size:=by
   apply bytes_ext
   unfold led hasPrefix at h0
   rw [data_app,slash_data,extract_data,size_eq]
   cases e:p.data.toList with
   | nil => rw [e] at h0; cases h0
   | cons a t =>
    rw [e] at h0
    have h2:a=47:=by
     simp [List.isPrefixOf] at h0
     exact h0.symm
    subst h2
    simp
  split at h
  ·rename_i h1
   cases h
   refine ⟨?_,fun s hs => by cases hs⟩
   have h3:p.extract 1 p.size=ByteArray.empty:=empty_of_size (by rw [extract_size p 1 p.size (Nat.le_refl _)]; omega)
   rw [h3,ByteArray.append_empty] at hp
   exact hp
  ·split at h
   ·cases h
    obtain ⟨h3,h4⟩:=join_pieces _ (p.extract 1 p.size) (Nat.le_refl _)
    refine ⟨?_,h4⟩
    rw [txP_ne (pieces_ne _),pth_join (pieces_ne _),h3]
    exact hp
   ·cases h
 ·cases h
theorem pth_last (h:l≠[]) (ho:∀ s∈l,okName s=true) (hn:∀ s∈l,NoSl s):1≤(pth l).size∧(((pth l).extract ((pth l).size - 1) (pth l).size).toList == [47])=false:=by
 obtain ⟨l1,s,rfl⟩:=(List.eq_nil_or_concat l).resolve_left h
 have hs:=(ok_size (ho s (by simp))).1
 have hns:=hn s (by simp)
 have e:pth (l1.concat s)=pth l1 ++ slash ++ s:=by
  have:=txP_snoc l1 s
  rw [txP_ne (by simp)] at this
  rw [List.concat_eq_append]
  exact this
 have hz:(pth (l1.concat s)).size=(pth l1).size+1+s.size:=by rw [e,ByteArray.size_append,ByteArray.size_append]; rfl
 refine ⟨by omega,?_⟩
 cases hb:(((pth (l1.concat s)).extract ((pth (l1.concat s)).size - 1) (pth (l1.concat s)).size).toList == [47]) with
 | false => rfl
 | true =>
  exfalso
  have h1:((pth (l1.concat s)).extract ((pth (l1.concat s)).size - 1) (pth (l1.concat s)).size).toList=[47]:=by simpa using hb
  rw [ByteArray.toList_eq,extract_data] at h1
  have h2:(47:UInt8)∈((pth (l1.concat s)).data.toList.drop ((pth (l1.concat s)).size - 1)):=List.mem_of_mem_take (by rw [h1]; exact List.mem_cons_self)
  have h3:(pth (l1.concat s)).data.toList.drop ((pth (l1.concat s)).size - 1)=s.data.toList.drop (s.size - 1):=by
   have h4:(pth l1 ++ slash).data.toList.length=(pth l1).size+1:=by rw [← size_eq,ByteArray.size_append]; rfl
   rw [hz,e,data_app,List.drop_append,List.drop_eq_nil_of_le (by rw [h4]; omega),List.nil_append,h4]
   congr 1
   omega
  rw [h3] at h2
  exact hns (List.mem_of_mem_drop h2)
end
end
section
open Go.RowKit Go.MapKept
set_option linter.unusedSectionVars false
section plain
variable {κ β:Type} [DecidableEq κ]
def mget (m:List (κ×β)) (k:κ):Option β:=(m.find? (fun p => decide (p.1=k))).map (·.2)
def mupd (m:List (κ×β)) (k:κ) (v:β):List (κ×β):=m.map fun p => if p.1=k then (p.1,v) else p
def mput (m:List (κ×β)) (k:κ) (v:β):List (κ×β):=if (mget m k).isSome then mupd m k v else m ++ [(k,v)]
def mdel (m:List (κ×β)) (k:κ):List (κ×β):=m.filter fun p => decide (p.1≠k)
def MNodup (m:List (κ×β)):Prop:=(m.map Prod.fst).Nodup
theorem mget_none {m:List (κ×β)} {k:κ} (h:∀ p∈m,p.1≠k):mget m k=none:=by
 unfold mget
 rw [List.find?_eq_none.2 (by simpa using h)]; rfl
theorem mget_none_iff {m:List (κ×β)} {k:κ}:mget m k=none ↔ ∀ p∈m,p.1≠k:=by
 constructor
 ·intro h p hp e
  unfold mget at h
  rw [Option.map_eq_none_iff,List.find?_eq_none] at h
  exact h p hp (by simpa using e)
 ·exact mget_none
theorem mget_mem {m:List (κ×β)} (hn:MNodup m) {k:κ} {v:β} (h:(k,v)∈m):mget m k=some v:=by
 induction m with
 | nil => cases h
 | cons p m ih =>
  simp only [MNodup,List.map_cons,List.nodup_cons] at hn
  unfold mget
  rw [List.find?_cons]
  by_cases e:p.1=k
  ·simp only [e,decide_true,Option.map_some,Option.some.injEq]
   rcases List.mem_cons.1 h with h1 | h1
   ·rw [← h1]
   ·exact absurd (List.mem_map.2 ⟨(k,v),h1,rfl⟩) (by rw [← e]; exact hn.1)
  ·simp only [e,decide_false]
   rcases List.mem_cons.1 h with h1 | h1
   ·exact absurd (by rw [← h1]) e
   ·exact ih hn.2 h1
theorem mem_of_mget {m:List (κ×β)} {k:κ} {v:β} (h:mget m k=some v):(k,v)∈m:=by
 unfold mget at h
 rw [Option.map_eq_some_iff] at h
 obtain ⟨p,hp,rfl⟩:=h
 have h1:=List.mem_of_find?_eq_some hp
 have h2:=List.find?_some hp
 simp only [decide_eq_true_eq] at h2
 rw [← h2]; exact h1
theorem mupd_keys (m:List (κ×β)) (k:κ) (v:β):(mupd m k v).map Prod.fst=m.map Prod.fst:=by
 unfold mupd
 rw [List.map_map]
 apply List.map_congr_left
 intro p _
 simp only [Function.comp]
 split <;> rfl
theorem mget_mupd (m:List (κ×β)) (k j:κ) (v:β):mget (mupd m k v) j=if j=k then (mget m k).map (fun _ => v) else mget m j:=by
 unfold mget mupd
 induction m with
 | nil => simp
 | cons p m ih =>
  rw [List.map_cons,List.find?_cons,List.find?_cons,List.find?_cons]
  by_cases e:p.1=k
  ·by_cases ej:j=k
   ·subst ej; simp [e]
   ·have:¬ p.1=j:=fun e2 => ej (e2.symm.trans e)
    rw [if_neg ej] at ih ⊢
    rw [if_pos e]
    simp only [this,decide_false]
    exact ih
  ·rw [if_neg e]
   by_cases ej:j=k
   ·subst ej
    rw [if_pos rfl] at ih ⊢
    simp only [e,decide_false]
    exact ih
   ·rw [if_neg ej] at ih ⊢
    by_cases e3:p.1=j
    ·simp [e3]
    ·simp only [e3,decide_false]; exact ih
theorem mget_mput (m:List (κ×β)) (k j:κ) (v:β):mget (mput m k v) j=if j=k then some v else mget m j:=by
 unfold mput
 split
 ·rename_i h
  rw [mget_mupd]
  obtain ⟨u,hu⟩:=Option.isSome_iff_exists.1 h
  rw [hu]; rfl
 ·rename_i h
  have hno:mget m k=none:=by simpa using h
  unfold mget at hno ⊢
  rw [List.find?_append]
  by_cases ej:j=k
  ·subst ej
   rw [Option.map_eq_none_iff] at hno
   rw [hno]; simp
  ·rw [if_neg ej]
   have:List.find? (fun p => decide (p.1=j)) [(k,v)]=none:=by simp [Ne.symm ej]
   rw [this]; simp
theorem mput_nodup {m:List (κ×β)} (hn:MNodup m) (k:κ) (v:β):MNodup (mput m k v):=by
 unfold mput
 split
 ·unfold MNodup; rw [mupd_keys]; exact hn
 ·rename_i h
  have hno:mget m k=none:=by simpa using h
  unfold MNodup at hn ⊢
  rw [List.map_append,List.nodup_append]
  refine ⟨hn,by simp,?_⟩
  intro a ha c hc
  simp only [List.map_cons,List.map_nil,List.mem_singleton] at hc
  subst hc
  obtain ⟨p,hp,rfl⟩:=List.mem_map.1 ha
  exact mget_none_iff.1 hno p hp
theorem mput_length (m:List (κ×β)) (k:κ) (v:β):(mput m k v).length=if (mget m k).isSome then m.length else m.length+1:=by
 unfold mput mupd; split <;> simp
theorem mget_mdel (m:List (κ×β)) (k j:κ):mget (mdel m k) j=if j=k then none else mget m j:=by
 unfold mget mdel
 rw [List.find?_filter]
 by_cases ej:j=k
 ·subst ej
  rw [if_pos rfl,Option.map_eq_none_iff,List.find?_eq_none]
  intro p _; simp
 ·rw [if_neg ej]
  congr 1
  congr 1
  funext p
  by_cases e:p.1=j
  ·simp [e,ej]
  ·simp [e]
theorem mdel_nodup {m:List (κ×β)} (hn:MNodup m) (k:κ):MNodup (mdel m k):=by
 unfold MNodup at hn ⊢
 exact ((List.filter_sublist (p:=fun p:κ×β => decide (p.1≠k)) (l:=m)).map Prod.fst).nodup hn
theorem mdel_none {m:List (κ×β)} {k:κ} (h:mget m k=none):mdel m k=m:=by
 unfold mdel
 rw [List.filter_eq_self]
 intro p hp
 simpa using mget_none_iff.1 h p hp
theorem mdel_length {m:List (κ×β)} (hn:MNodup m) {k:κ} {v:β} (h:mget m k=some v):(mdel m k).length+1=m.length:=by
 induction m with
 | nil => simp [mget] at h
 | cons p m ih =>
  simp only [MNodup,List.map_cons,List.nodup_cons] at hn
  unfold mdel
  rw [List.filter_cons]
  by_cases e:p.1=k
  ·have hno:mdel m k=m:=mdel_none (mget_none (fun q hq e2 => hn.1 (List.mem_map.2 ⟨q,hq,e2.trans e.symm⟩)))
   unfold mdel at hno
   simp only [e,ne_eq,not_true_eq_false,decide_false,Bool.false_eq_true,if_false,hno,List.length_cons]
  ·have hg:mget m k=some v:=by
    unfold mget at h ⊢
    rw [List.find?_cons] at h
    simpa [e] using h
   have:=ih hn.2 hg
   unfold mdel at this
   simp only [ne_eq] at this
   simp only [e,ne_eq,not_false_eq_true,decide_true,if_true,List.length_cons]
   omega
theorem mdel_eraseIdx {m:List (κ×β)} (hn:MNodup m) {k:κ} {v:β} {j:Nat} (h:m[j]?=some (k,v)):mdel m k=m.eraseIdx j:=by
 induction m generalizing j with
 | nil => simp at h
 | cons p m ih =>
  simp only [MNodup,List.map_cons,List.nodup_cons] at hn
  cases j with
  | zero =>
   simp only [List.getElem?_cons_zero,Option.some.injEq] at h
   subst h
   rw [List.eraseIdx_cons_zero]
   have:mdel m k=m:=mdel_none (mget_none (fun q hq e2 => hn.1 (List.mem_map.2 ⟨q,hq,e2⟩)))
   unfold mdel at this ⊢
   rw [List.filter_cons,if_neg (by simp)]
   exact this
  | succ j =>
   simp only [List.getElem?_cons_succ] at h
   have hpk:p.1≠k:=fun e2 => hn.1 (List.mem_map.2 ⟨(k,v),List.mem_of_getElem? h,e2.symm⟩)
   rw [List.eraseIdx_cons_succ]
   have:=ih hn.2 h
   unfold mdel at this ⊢
   rw [List.filter_cons,if_pos (by simpa using hpk),this]
theorem map_eraseIdx' {α γ:Type} (f:α→γ):∀ (l:List α) (j:Nat),(l.eraseIdx j).map f=(l.map f).eraseIdx j
 | [],j => by cases j <;> rfl
 | a :: l,0 => by simp
 | a :: l,j+1 => by simp [map_eraseIdx' f l j]
theorem nodup_idx {m:List (κ×β)} (hn:MNodup m):∀ {i j:Nat} {p q:κ×β},m[i]?=some p→m[j]?=some q→p.1=q.1→i=j:=by
 induction m with
 | nil => intro i j p q h; simp at h
 | cons a m ih =>
  simp only [MNodup,List.map_cons,List.nodup_cons] at hn
  intro i j p q hi hj e
  cases i with
  | zero =>
   cases j with
   | zero => rfl
   | succ j =>
    simp only [List.getElem?_cons_zero,Option.some.injEq] at hi
    simp only [List.getElem?_cons_succ] at hj
    subst hi
    exact absurd (List.mem_map.2 ⟨q,List.mem_of_getElem? hj,e.symm⟩) hn.1
  | succ i =>
   cases j with
   | zero =>
    simp only [List.getElem?_cons_zero,Option.some.injEq] at hj
    simp only [List.getElem?_cons_succ] at hi
    subst hj
    exact absurd (List.mem_map.2 ⟨p,List.mem_of_getElem? hi,e⟩) hn.1
   | succ j =>
    simp only [List.getElem?_cons_succ] at hi hj
    rw [ih hn.2 hi hj e]
end plain
structure KeyEnc {κ:Type} (d:TypeDesc) (enc:κ→Value):Prop where
 key:∀ k,IsKey d (enc k)
 inj:∀ a b,enc a=enc b→a=b
def encI (n:Int):Value:=.int .i64 n
def encS (s:ByteArray):Value:=.string s
theorem keyI:KeyEnc (.int .i64) encI:=⟨fun _ => by simp [IsKey,encI],fun a b h => by simp only [encI,Value.int.injEq,true_and] at h; exact h⟩
theorem keyS:KeyEnc .string encS:=⟨fun _ => by simp [IsKey,encS],fun a b h => by simp only [encS,Value.string.injEq] at h; exact h⟩
section
variable {κ β:Type} [DecidableEq κ] {d:TypeDesc} {enc:κ→Value} {val:β→Value} {w:World} {b:Nat} {m:List (κ×β)} {P:Program}
structure MapIs (w:World) (b:Nat) (d:TypeDesc) (enc:κ→Value) (val:β→Value) (m:List (κ×β)):Prop where
 obj:∃ es clock,w.heap[b]?=some (.map es clock)∧Stamped es clock∧es.toList.map (fun e => (e.key,e.val))=m.map (fun p => (enc p.1,val p.2))
 nodup:MNodup m
theorem MapIs.lt (h:MapIs w b d enc val m):b < w.heap.size:=by
 obtain ⟨es,clock,hb,_⟩:=h.obj
 exact (Array.getElem?_eq_some_iff.1 hb).1
theorem MapIs.turned {S:Nat→Prop} {w':World} (h:MapIs w b d enc val m) (t:Turn S w w') (hn:¬ S b):MapIs w' b d enc val m:=by
 obtain ⟨es,clock,hb,r⟩:=h.obj
 exact ⟨⟨es,clock,(t.block b h.lt hn).trans hb,r⟩,h.nodup⟩
theorem MapIs.made (w:World):MapIs (w.alloc (.map #[] 0)) w.heap.size d enc val ([]:List (κ×β)) :=
 ⟨⟨#[],0,(heap_alloc w _).1,stamped_empty 0,rfl⟩,List.nodup_nil⟩
theorem isKey_all (K:KeyEnc d enc) {es:Array MapEntry} (hm:es.toList.map (fun e => (e.key,e.val))=m.map (fun p => (enc p.1,val p.2))):∀ x∈es.toList,IsKey d x.key:=by
 intro x hx
 have:(x.key,x.val)∈m.map (fun p => (enc p.1,val p.2)):=by rw [← hm]; exact List.mem_map.2 ⟨x,hx,rfl⟩
 obtain ⟨p,_,hp⟩:=List.mem_map.1 this
 simp only [Prod.mk.injEq] at hp
 rw [← hp.1]; exact K.key _
theorem find_cases (K:KeyEnc d enc) {es:Array MapEntry} (hm:es.toList.map (fun e => (e.key,e.val))=m.map (fun p => (enc p.1,val p.2))) (hn:MNodup m) (k:κ) :
  (Instr.findNow d (enc k) es.toList 0=some none∧mget m k=none) ∨
  ∃ j e v,Instr.findNow d (enc k) es.toList 0=some (some (j,e.val))∧es[j]?=some e∧e.key=enc k∧m[j]?=some (k,v)∧e.val=val v∧mget m k=some v:=by
 rcases findNow_spec (K.key k) es.toList 0 (isKey_all K hm) with ⟨h1,h2⟩ | ⟨j,e,h1,h2,h3⟩
 ·left
  refine ⟨h1,mget_none fun p hp e => ?_⟩
  have:(enc p.1,val p.2)∈es.toList.map (fun e => (e.key,e.val)):=by rw [hm]; exact List.mem_map.2 ⟨p,hp,rfl⟩
  obtain ⟨x,hx,hxe⟩:=List.mem_map.1 this
  simp only [Prod.mk.injEq] at hxe
  exact h2 x hx (by rw [hxe.1,e])
 ·right
  rw [Nat.zero_add] at h1
  have hj:=congrArg (fun l => l[j]?) hm
  simp only [List.getElem?_map,h2,Option.map_some] at hj
  cases hmj:m[j]? with
  | none => simp [hmj] at hj
  | some p =>
   simp only [hmj,Option.map_some,Option.some.injEq,Prod.mk.injEq] at hj
   have hk:p.1=k:=K.inj _ _ (hj.1.symm.trans h3)
   have hmj':m[j]?=some (k,p.2):=by rw [hmj,← hk]
   exact ⟨j,e,p.2,h1,by simpa using h2,h3,hmj',hj.2,mget_mem hn (List.mem_of_getElem? hmj')⟩
theorem MapIs.run_lookup (h:MapIs w b d enc val m) (K:KeyEnc d enc) {T kt et:TypeId} (hT:P.underlying T=some (.map kt et)) (hd:P.underlying kt=some d) {z:Value} (hz:(zeroValue et).run P w=.ok z w) (k:κ) (c:Bool) :
  (Instr.lookup T (.map (some b)) (enc k) c).run P w=.ok (if c then .tuple #[(mget m k).elim z val,.bool (mget m k).isSome] else (mget m k).elim z val) w:=by
 obtain ⟨es,clock,hb,hs,hm⟩:=h.obj
 rcases find_cases K hm h.nodup k with ⟨h1,h2⟩ | ⟨j,e,v,h1,_,_,_,h5,h6⟩
 ·rw [h2]
  simp [Instr.lookup,run_underlying hT,MapKept.run_getObj_map hb,MapKept.run_checkKey hd (K.key k),MapKept.run_findKey hd h1,hz,Result.andThen]
 ·rw [h6]
  simp [Instr.lookup,run_underlying hT,MapKept.run_getObj_map hb,MapKept.run_checkKey hd (K.key k),MapKept.run_findKey hd h1,h5,Result.andThen]
theorem turn_setHeap (w:World) (b:Nat) (o:Obj):Turn (fun k => k=b) w { w with heap:=w.heap.setIfInBounds b o } :=
 ⟨rfl,rfl,rfl,by simp,fun k hk hn => by simp [Ne.symm hn]⟩
theorem MapIs.run_update (h:MapIs w b d enc val m) (K:KeyEnc d enc) {T kt et:TypeId} (hT:P.underlying T=some (.map kt et)) (hd:P.underlying kt=some d) (k:κ) (v:β) :
  ∃ w',(Instr.mapUpdate T (.map (some b)) (enc k) (val v)).run P w=.ok () w'∧MapIs w' b d enc val (mput m k v)∧Turn (fun k => k=b) w w':=by
 obtain ⟨es,clock,hb,hs,hm⟩:=h.obj
 rcases find_cases K hm h.nodup k with ⟨h1,h2⟩ | ⟨j,e,v0,h1,he,h3,h4,h5,h6⟩
 ·refine ⟨_,by simp [Instr.mapUpdate,run_underlying hT,MapKept.run_getObj_map hb,MapKept.run_checkKey hd (K.key k),MapKept.run_findKey hd h1,MapKept.run_setObj_map _ hb,Result.andThen]; rfl,⟨⟨_,_,(heap_set hb).1,?_,?_⟩,mput_nodup h.nodup k v⟩,turn_setHeap _ _ _⟩
  ·refine stamped_push hs ?_
   intro x hx e
   have:(x.key,x.val)∈m.map (fun p => (enc p.1,val p.2)):=by rw [← hm]; exact List.mem_map.2 ⟨x,hx,rfl⟩
   obtain ⟨p,hp,hpe⟩:=List.mem_map.1 this
   simp only [Prod.mk.injEq] at hpe
   exact mget_none_iff.1 h2 p hp (K.inj _ _ (hpe.1.trans e))
  ·unfold mput
   rw [h2]
   simp [hm]
 ·have hkey:∀ e',es[j]?=some e'→({ e' with key:=enc k,val:=val v }:MapEntry).key=e'.key:=fun e' he' => by rw [he] at he'; cases he'; exact h3.symm
  refine ⟨{ w with heap:=w.heap.setIfInBounds b (.map (es.modify j fun e => { e with key:=enc k,val:=val v }) clock) },by simp [Instr.mapUpdate,run_underlying hT,MapKept.run_getObj_map hb,MapKept.run_checkKey hd (K.key k),MapKept.run_findKey hd h1,he,h3,MapKept.run_keyThatStays (K.key k),MapKept.run_setObj_map _ hb,Result.andThen],⟨⟨_,_,(heap_set hb).1,stamped_modify hs _ _ (fun _ _ => rfl) (fun e' _ he' => hkey e' he'),?_⟩,mput_nodup h.nodup k v⟩,turn_setHeap _ _ _⟩
  unfold mput
  rw [h6]
  simp only [Option.isSome_some,if_true]
  unfold mupd
  apply List.ext_getElem?
  intro i
  have hi:=congrArg (fun l => l[i]?) hm
  simp only [List.getElem?_map,Array.toList_modify,List.getElem?_modify] at hi ⊢
  by_cases hij:j=i
  ·subst hij
   have he':es.toList[j]?=some e:=by simpa using he
   simp only [he',h4,Option.map_some,if_true]
   rfl
  ·simp only [if_neg hij]
   rw [show (fun a:MapEntry => a) <$> es.toList[i]?=es.toList[i]? from by cases es.toList[i]? <;> rfl,hi]
   cases hmi:m[i]? with
   | none => rfl
   | some p =>
    simp only [Option.map_some]
    have:p.1≠k:=by
     intro e2
     exact hij (nodup_idx h.nodup h4 hmi e2.symm)
    rw [if_neg this]
theorem MapIs.run_delete (h:MapIs w b d enc val m) (K:KeyEnc d enc) {T kt et ty:TypeId} (hT:P.underlying T=some (.map kt et)) (hd:P.underlying kt=some d) (k:κ) :
  ∃ w',(Builtin.delete_ #[T,kt] ty #[.map (some b),enc k]).run P w=.ok (.tuple #[]) w'∧MapIs w' b d enc val (mdel m k)∧Turn (fun k => k=b) w w':=by
 obtain ⟨es,clock,hb,hs,hm⟩:=h.obj
 rcases find_cases K hm h.nodup k with ⟨h1,h2⟩ | ⟨j,e,v0,h1,he,h3,h4,h5,h6⟩
 ·refine ⟨_,by simp [Builtin.delete_,run_underlying hT,MapKept.run_getObj_map hb,MapKept.run_checkKey hd (K.key k),MapKept.run_findKey hd h1,MapKept.run_setObj_map _ hb,Result.andThen]; rfl,⟨⟨_,_,?_,hs,?_⟩,mdel_nodup h.nodup k⟩,?_⟩
  ·exact (heap_set hb).1
  ·rw [mdel_none h2]; exact hm
  ·exact turn_setHeap _ _ _
 ·refine ⟨_,by simp [Builtin.delete_,run_underlying hT,MapKept.run_getObj_map hb,MapKept.run_checkKey hd (K.key k),MapKept.run_findKey hd h1,MapKept.run_setObj_map _ hb,Result.andThen]; rfl,⟨⟨_,_,(heap_set hb).1,stamped_erase hs _,?_⟩,mdel_nodup h.nodup k⟩,turn_setHeap _ _ _⟩
  have hj:j < es.size:=(Array.getElem?_eq_some_iff.1 he).1
  have e1:(es.eraseIdxIfInBounds j).toList=es.toList.eraseIdx j:=by
   unfold Array.eraseIdxIfInBounds
   rw [dif_pos hj]; simp
  rw [e1,mdel_eraseIdx h.nodup h4,map_eraseIdx',map_eraseIdx',hm]
theorem MapIs.run_len (h:MapIs w b d enc val m) {T kt et:TypeId} (hT:P.underlying T=some (.map kt et)) (ty:TypeId) :
  (Builtin.len_ #[T] ty #[.map (some b)]).run P w=.ok (.int .i64 m.length) w:=by
 obtain ⟨es,clock,hb,hs,hm⟩:=h.obj
 have hl:es.size=m.length:=by
  have:=congrArg List.length hm
  simpa using this
 simp [Builtin.len_,run_underlying hT,MapKept.run_getObj_map hb,Result.andThen,hl,goInt]
section laws
variable {ops:Array Oper} {rest:List Oper} {o:Oper} {a:Act} {Q:Exit→Act→World→Prop}
theorem wpList_mapput (hg:o.guard=none) (mo x vo:Operand) (T kt et:TypeId) (hop:o.op=.mapUpdate T mo x vo) (hT:P.underlying T=some (.map kt et)) (hd:P.underlying kt=some d) (K:KeyEnc d enc)
  (b:Nat) (hm:a.eval mo=.map (some b)) (h:MapIs w b d enc val m) (k:κ) (hx:a.eval x=enc k) (v:β) (hv:a.eval vo=val v)
  (hK:∀ w',MapIs w' b d enc val (mput m k v)→Turn (fun j => j=b) w w'→wpList P ops Q rest (a.put o.dst undef) w'):wpList P ops Q (o :: rest) a w:=by
 refine wpList_plain hg fun K' hK' => ?_
 obtain ⟨w',hrun,r1,r2⟩:=h.run_update K hT hd k v
 unfold Oper.wp
 simp [execOp,hop,hm,hx,hv,hrun,Result.andThen]
 exact hK' _ _ (hK w' r1 r2)
theorem wpList_maplen (hg:o.guard=none) (mo:Operand) (T kt et:TypeId) (hop:o.op=Op.call { callee:=Callee.builtin Builtin.len,args:=#[mo],argTypes:=#[T] }) (hT:P.underlying T=some (.map kt et))
  (b:Nat) (hm:a.eval mo=.map (some b)) (h:MapIs w b d enc val m)
  (hK:wpList P ops Q rest (a.put o.dst (.int .i64 m.length)) w):wpList P ops Q (o :: rest) a w:=by
 refine wpList_plain hg fun K' hK' => ?_
 unfold Oper.wp
 simp [execOp,hop,resolve,invoke,builtin,hm,h.run_len hT o.type,Result.andThen]
 exact hK' _ _ hK
end laws
end
end
theorem wp_append_at {P:Program} {o:Oper} {a:Act} {w:World} {K:Act→World→Prop} {Q:Exit→Act→World→Prop}
  (hg:o.guard=none) (s x:Operand) (t:TypeId) (hop:o.op=Op.call { callee:=Callee.builtin Builtin.append,args:=#[s,x],argTypes:=#[t,t] })
  (e:TypeId) (i:TypeInfo) (z:Value) (size bytes:Nat) (h1:P.underlying t=some (.slice e)) (h2:P.info? e=some i) (h3:i.zero=some z) (h4:i.size=size) (h5:i.bytes=bytes) (h6:z.cells.size=size) (h7:0 < size)
  (v:Value) (n:Nat) (xs:List Value) (hs:a.eval s=v) (hown:w.ownsRow 0 e size v n xs)
  (ad:Addr) (m c:Nat) (news:List Value) (hx:a.eval x=.slice (some ad) m c) (hn:news.length=m * size) (hc:∀ j u,news[j]?=some u→w.cell? (ad.add j)=some u) (h1c:∀ u∈news,u.oneCell'=true) (hm:0 < m∨v≠.slice none 0 0)
  (b1:n+m≤maxLen) (b2:(n+m) * bytes≤140737488355328)
  (hK:∀ g cap w',w'.ownsRow 0 e size (.slice (some ⟨g,0,none⟩) (n+m) cap) (n+m) (xs ++ news)→Turn (fun j => v.ownBlock=some j) w w'→(v.ownBlock=some g∨w.heap.size≤g)→K (a.put o.dst (.slice (some ⟨g,0,none⟩) (n+m) cap)) w') :
  o.wp P a w K Q:=by
 have toTurn:∀ {w':World},w.grownBy w' v.ownBlock→Turn (fun j => v.ownBlock=some j) w w':=fun {w'} hgr => ⟨hgr.os,hgr.tape,hgr.output,hgr.size,fun k hk hne => hgr.block k hk (fun e => hne e.symm)⟩
 rcases hown.2 with ⟨rfl,rfl⟩ | ⟨g,cap,cur,rfl,hb,hgg,hnc,hcm,hcs,htk⟩
 ·have hx0:xs=[]:=List.eq_nil_of_length_eq_zero (by simpa using hown.1)
  subst hx0
  refine wp_append_own w s x t hop w.heap.size e i z size bytes h1 h2 h3 h4 h5 h6 h7 _ 0 [] hs (World.ownsRow_nil _ _ _ _) ad m c news hx hn hc h1c b1 b2 (Nat.le_refl _) ?_
  intro v' w' a1 a2 a3
  obtain ⟨_,⟨h0,h00⟩ | ⟨g,cap,cur,rfl,hb,r⟩⟩:=a1
  ·rcases hm with hm | hm
   ·omega
   ·exact absurd rfl hm
  ·exact hK g cap w' ⟨‹_›,.inr ⟨g,cap,cur,rfl,Nat.zero_le _,r⟩⟩ (toTurn a2) (.inr hb)
 ·by_cases hroom:n+m≤cap
  ·subst h4
   have hlen:(xs ++ news).length=(n+m) * i.size:=by rw [List.length_append,hown.1,hn,Nat.add_mul]
   have hfit:n * i.size+news.length≤cur.size:=by rw [hn,hcs,← Nat.add_mul]; exact Nat.mul_le_mul_right _ hroom
   have hr:=run_append_room (P:=P) w t o.type e i h1 h2 g n cap cur hgg ad m c news hn hc h1c hroom hfit
   have hres:=hK g cap _ ⟨hlen,.inr ⟨g,cap,_,rfl,hb,setRow_heap w g cur (cur.toList.take (n * i.size) ++ news ++ cur.toList.drop (n * i.size+news.length)).toArray e _ hgg,hroom,hcm,by
     simp only [List.size_toArray,List.length_append,List.length_take,List.length_drop,Array.length_toList]
     omega,by
     rw [htk,← hlen]
     exact List.take_left⟩⟩ ⟨rfl,rfl,rfl,by simp,fun k _ hk => setRow_other w g k _ (fun e => hk (by simp [Value.ownBlock,e]))⟩ (.inl rfl)
   unfold Oper.wp
   simp [execOp,hop,resolve,invoke,builtin,hs,hx,hr,Result.andThen]
   simp only [List.append_assoc] at hres
   exact hres
  ·obtain ⟨v',w',hrun,a1,a2⟩:=run_append_arg_grows (P:=P) w t o.type e i z size bytes h1 h2 h3 h4 h5 h6 h7 ⟨g,0,none⟩ n cap xs hown.1 (hown.cells (g:=g) rfl) ad m c news hn hc (by omega) b1 b2
   have hres:K (a.put o.dst v') w':=by
    obtain ⟨hl,⟨h0,h00⟩ | ⟨g',cap',cur',rfl,hb',r⟩⟩:=a1
    ·omega
    ·exact hK g' cap' w' ⟨hl,.inr ⟨g',cap',cur',rfl,Nat.zero_le _,r⟩⟩ ⟨a2.os,a2.tape,a2.output,a2.size,fun k hk _ => a2.block k hk (by simp)⟩ (.inr hb')
   unfold Oper.wp
   simp [execOp,hop,resolve,invoke,builtin,hs,hx,hrun,Result.andThen]
   exact hres
theorem step_append_at {P:Program} {ops:Array Oper} {o:Oper} {a:Act} {w:World} {K:Act→World→Prop} {Q:Exit→Act→World→Prop} {E:Prop}
  (hg:o.guard=none) (s x:Operand) (t:TypeId) (hop:o.op=Op.call { callee:=Callee.builtin Builtin.append,args:=#[s,x],argTypes:=#[t,t] })
  (e:TypeId) (i:TypeInfo) (z:Value) (size bytes:Nat) (h1:P.underlying t=some (.slice e)) (h2:P.info? e=some i) (h3:i.zero=some z) (h4:i.size=size) (h5:i.bytes=bytes) (h6:z.cells.size=size) (h7:0 < size)
  (v:Value) (n:Nat) (xs:List Value) (hs:a.eval s=v) (hown:w.ownsRow 0 e size v n xs)
  (ad:Addr) (m c:Nat) (news:List Value) (hx:a.eval x=.slice (some ad) m c) (hn:news.length=m * size) (hc:∀ j u,news[j]?=some u→w.cell? (ad.add j)=some u) (h1c:∀ u∈news,u.oneCell'=true) (hm:0 < m∨v≠.slice none 0 0)
  (b1:n+m≤maxLen) (b2:(n+m) * bytes≤140737488355328)
  (hK:∀ g cap w',w'.ownsRow 0 e size (.slice (some ⟨g,0,none⟩) (n+m) cap) (n+m) (xs ++ news)→Turn (fun j => v.ownBlock=some j) w w'→(v.ownBlock=some g∨w.heap.size≤g)→K (a.put o.dst (.slice (some ⟨g,0,none⟩) (n+m) cap)) w') :
  if Region.wanted o (yielded ops a.tmps)=true then Oper.wp P o a w K Q else E:=by
 have hw:Region.wanted o (yielded ops a.tmps)=true:=by simp [Region.wanted,hg]
 rw [if_pos hw]
 exact wp_append_at hg s x t hop e i z size bytes h1 h2 h3 h4 h5 h6 h7 v n xs hs hown ad m c news hx hn hc h1c hm b1 b2 hK
theorem info_split {P:Program} {t:TypeId} {z:Value} {size bytes:Nat} (h:(P.info? t).map (fun i => (i.zero,i.size,i.bytes))=some (some z,size,bytes)):∃ i,P.info? t=some i∧i.zero=some z∧i.size=size∧i.bytes=bytes:=by
 cases hi:P.info? t with
 | none => rw [hi] at h; cases h
 | some i =>
  rw [hi] at h
  simp only [Option.map_some,Option.some.injEq,Prod.mk.injEq] at h
  exact ⟨i,rfl,h.1,h.2.1,h.2.2⟩
def RowV (w:World) (e:TypeId) (v:Value) (xs:List Value):Prop:=w.ownsRow 0 e 1 v xs.length xs
theorem RowV.shape {w:World} {e:TypeId} {v:Value} {xs:List Value} (h:RowV w e v xs):(v=.slice none 0 0∧xs=[])∨∃ g cap,v=.slice (some ⟨g,0,none⟩) xs.length cap∧xs.length≤cap∧cap≤maxLen∧g < w.heap.size:=by
 obtain ⟨_,h0 | ⟨g,cap,cur,rfl,_,hg,h1,h2,_⟩⟩:=h
 ·exact .inl ⟨h0.1,List.length_eq_zero_iff.1 h0.2⟩
 ·exact .inr ⟨g,cap,rfl,h1,h2,(Array.getElem?_eq_some_iff.1 hg).1⟩
theorem RowV.cell {w:World} {e:TypeId} {g cap:Nat} {xs:List Value} (h:RowV w e (.slice (some ⟨g,0,none⟩) xs.length cap) xs) (j:Nat) (x:Value) (hj:xs[j]?=some x):w.cell? ⟨g,j,none⟩=some x:=by
 have hl:=(List.getElem?_eq_some_iff.1 hj).1
 rw [World.ownsRow.cellAt h j (by omega),hj]
theorem RowV.turned {S:Nat→Prop} {w w':World} {e:TypeId} {v:Value} {xs:List Value} (h:RowV w e v xs) (t:Turn S w w') (hn:∀ g,v.ownBlock=some g→¬ S g):RowV w' e v xs:=by
 refine ⟨h.1,?_⟩
 rcases h.2 with h0 | ⟨g,cap,cur,rfl,hb,hg,r⟩
 ·exact .inl h0
 ·exact .inr ⟨g,cap,cur,rfl,hb,(t.block g (Array.getElem?_eq_some_iff.1 hg).1 (hn g rfl)).trans hg,r⟩
theorem RowV.own_lt {w:World} {e:TypeId} {v:Value} {xs:List Value} (h:RowV w e v xs) (g:Nat) (hg:v.ownBlock=some g):g < w.heap.size:=by
 rcases h.shape with ⟨rfl,_⟩ | ⟨g',cap,rfl,_,_,hl⟩
 ·cases hg
 ·cases hg; exact hl
theorem RowV.one (w:World) (e:TypeId) (x:Value):RowV (w.alloc (.cells #[x] e)) e (.slice (some ⟨w.heap.size,0,none⟩) 1 1) [x]:=by
 refine ⟨by simp,.inr ⟨w.heap.size,1,#[x],rfl,Nat.zero_le _,(MapKept.heap_alloc w _).1,by simp,by unfold maxLen; omega,by simp,by simp⟩⟩
section
open Go.RowKit Go.MapKept
section
variable {κ β:Type} [DecidableEq κ] {d:TypeDesc} {enc:κ→Value} {val:β→Value} {w:World} {m:List (κ×β)} {P:Program}
variable {ops:Array Oper} {rest:List Oper} {o:Oper} {a:Act} {Q:Exit→Act→World→Prop}
end
end
theorem step_append_vals {P:Program} {ops:Array Oper} {o:Oper} {a:Act} {w:World} {K:Act→World→Prop} {Q:Exit→Act→World→Prop} {E:Prop} {e t:TypeId} {z:Value} {bytes:Nat}
  (hg:o.guard=none) (s x:Operand) (hop:o.op=Op.call { callee:=Callee.builtin Builtin.append,args:=#[s,x],argTypes:=#[t,t] }) (hT:P.underlying t=some (.slice e)) (hI:(P.info? e).map (fun i => (i.zero,i.size,i.bytes))=some (some z,1,bytes)) (hz:z.cells.size=1) (hb:bytes≤16)
  (v:Value) (xs:List Value) (hs:a.eval s=v) (hi:RowV w e v xs) (b0 off c:Nat) (news:List Value) (N:Nat) (hN:news.length=N) (hx:a.eval x=.slice (some ⟨b0,off,none⟩) N c)
  (hc:∀ (j:Nat) u,news[j]?=some u→w.cell? ⟨b0,off+j,none⟩=some u) (h1:∀ u∈news,u.oneCell'=true) (hm:0 < news.length∨v≠.slice none 0 0) (hl:xs.length+news.length≤1000000) (M:Nat) (hM:xs.length+news.length=M)
  (hK:∀ g cap w',RowV w' e (.slice (some ⟨g,0,none⟩) M cap) (xs ++ news)→Turn (fun j => v.ownBlock=some j) w w'→(v.ownBlock=some g∨w.heap.size≤g)→K (a.put o.dst (.slice (some ⟨g,0,none⟩) M cap)) w') :
  if Region.wanted o (yielded ops a.tmps)=true then Oper.wp P o a w K Q else E:=by
 obtain ⟨i0,hi0,hz0,hz1,hz2⟩:=info_split hI
 subst hN hM
 refine step_append_at hg s x t hop e i0 z 1 bytes hT hi0 hz0 hz1 hz2 hz (by decide) v xs.length _ hs hi ⟨b0,off,none⟩ news.length c news hx (by omega) ?_ h1 hm (by unfold maxLen; omega) (by
  have h2:(xs.length+news.length) * bytes≤1000000 * 16:=Nat.mul_le_mul hl hb
  omega) ?_
 ·intro j u hj
  rw [Addr.add_mid]
  exact hc j u hj
 ·intro g cap w' r1 r2 r3
  refine hK g cap w' ?_ r2 r3
  unfold RowV
  rw [List.length_append]
  exact r1
section
open Go.RowKit Go.MapKept
open Go.ChangeMaps (setBlock)
set_option linter.unusedSectionVars false
section
variable {κ β:Type} [DecidableEq κ] {d:TypeDesc} {enc:κ→Value} {val:β→Value} {w:World} {mb r cnt:Nat} {m:List (κ×β)} {P:Program} {seenK:κ→Prop}
def RangeOf (w:World) (mb r:Nat) (enc:κ→Value) (val:β→Value) (m:List (κ×β)) (seenK:κ→Prop) (cnt:Nat):Prop :=
 ∃ es clock since seen c0,w.heap[mb]?=some (.map es clock)∧Stamped es clock∧es.toList.map (fun e => (e.key,e.val))=m.map (fun p => (enc p.1,val p.2))∧MNodup m ∧
  w.heap[r]?=some (.mapIter (some mb) since seen c0)∧(∀ x∈es.toList,x.born < since)∧(Go.leftOf es seen).size=cnt ∧
  (∀ (j:Nat) (x:MapEntry) (p:κ×β),es.toList[j]?=some x→m[j]?=some p→(seen.contains x.born=true ↔ seenK p.1))∧since≤c0∧since≤clock
theorem RangeOf.lt (h:RangeOf w mb r enc val m seenK cnt):mb < w.heap.size∧r < w.heap.size∧r≠mb:=by
 obtain ⟨es,clock,since,seen,c0,hb,_,_,_,hr,_⟩:=h
 refine ⟨(Array.getElem?_eq_some_iff.1 hb).1,(Array.getElem?_eq_some_iff.1 hr).1,fun e => ?_⟩
 rw [e,hb] at hr
 cases hr
theorem MapIs.run_range (h:MapIs w mb d enc val m) {T kt et:TypeId} (hT:P.underlying T=some (.map kt et)) :
  ∃ w',(Instr.range T (.map (some mb))).run P w=.ok (.pointer (some ⟨w.heap.size,0,none⟩)) w'∧RangeOf w' mb w.heap.size enc val m (fun _ => False) m.length∧Turn (fun _ => False) w w'∧w'.heap.size=w.heap.size+1:=by
 have hlt:=h.lt
 obtain ⟨es,clock,hb,hs,hm⟩:=h.obj
 have hl:es.size=m.length:=by
  have:=congrArg List.length hm
  simpa using this
 refine ⟨_,run_range_map w T kt et mb es clock hT hb,⟨es,clock,clock,#[],clock,?_,hs,hm,h.nodup,(MapKept.heap_alloc w _).1,hs.1,?_,fun j x p _ _ => by simp,Nat.le_refl _,Nat.le_refl _⟩,(Turn.refl _ _).alloc _,by simp⟩
 ·exact ((MapKept.heap_alloc w _).2 mb hlt).trans hb
 ·rw [← hl]; simp [Go.leftOf]
theorem RangeOf.next (h:RangeOf w mb r enc val m seenK cnt) (ty:TypeId) :
  ((∀ p∈m,seenK p.1)∧(Instr.next (.pointer (some ⟨r,0,none⟩)) false ty).run P w=.ok (.tuple #[.bool false]) w) ∨
  ∃ p w' cnt',p∈m∧¬ seenK p.1∧(Instr.next (.pointer (some ⟨r,0,none⟩)) false ty).run P w=.ok (.tuple #[.bool true,enc p.1,val p.2]) w' ∧
   RangeOf w' mb r enc val m (fun k => seenK k∨k=p.1) cnt'∧cnt' < cnt∧Turn (fun j => j=r) w w'∧w'.heap.size=w.heap.size∧(Instr.entry (.pointer (some ⟨r,0,none⟩))).run P w'=.ok (.tuple #[enc p.1,val p.2]) w':=by
 have hne:=h.lt.2.2
 obtain ⟨es,clock,since,seen,c0,hb,hst,hm,hn,hr,hold,rfl,hsn,hsc,hsk⟩:=h
 have hlen:es.toList.length=m.length:=by
  have:=congrArg List.length hm
  simpa using this
 have pair:∀ (j:Nat) (x:MapEntry) (p:κ×β),es.toList[j]?=some x→m[j]?=some p→x.key=enc p.1∧x.val=val p.2:=fun j x p hx hp => by
  have h1:=congrArg (fun l => l[j]?) hm
  simp only [List.getElem?_map,hx,hp,Option.map_some,Option.some.injEq,Prod.mk.injEq] at h1
  exact h1
 rcases run_next_at (P:=P) w ty r mb since c0 seen es clock hr hb hold hsc with ⟨h0,hrun⟩ | ⟨e,he,w1,hal,hrun⟩
 ·refine Or.inl ⟨fun p hp => ?_,hrun⟩
  obtain ⟨j,hj⟩:=List.getElem?_of_mem hp
  obtain ⟨x,hx⟩:∃ x,es.toList[j]?=some x:=⟨_,List.getElem?_eq_getElem (by rw [hlen]; exact (List.getElem?_eq_some_iff.1 hj).1)⟩
  exact (hsn j x p hx hj).1 (all_seen es seen h0 x (List.mem_of_getElem? hx))
 ·obtain ⟨hem,hes⟩:=Go.mem_left he
  obtain ⟨j,hj⟩:=List.getElem?_of_mem hem
  obtain ⟨p,hp⟩:∃ p,m[j]?=some p:=⟨_,List.getElem?_eq_getElem (by rw [← hlen]; exact (List.getElem?_eq_some_iff.1 hj).1)⟩
  obtain ⟨k1,k2⟩:=pair j e p hj hp
  have hr1:w1.heap[r]?=some (.mapIter (some mb) since seen c0):=by rcases hal with rfl | rfl <;> exact hr
  have hb1:w1.heap[mb]?=some (.map es clock):=by rcases hal with rfl | rfl <;> exact hb
  have hset:=heap_set (o':=.mapIter (some mb) since (seen.push e.born) clock) hr1
  have hb':(setBlock w1 r (.mapIter (some mb) since (seen.push e.born) clock)).heap[mb]?=some (.map es clock):=(hset.2 mb (fun e1 => hne e1.symm)).trans hb1
  have hent:=run_entry_at (P:=P) _ r mb since seen es clock e hset.1 hb' hem hst.2.1
  rw [k1,k2] at hrun hent
  refine Or.inr ⟨p,_,_,List.mem_of_getElem? hp,fun hs => ?_,hrun,⟨es,clock,since,seen.push e.born,clock,hb',hst,hm,hn,hset.1,hold,rfl,fun i x q hx hq => ?_,hsk,hsk⟩,left_shrinks es seen e he,?_,?_,hent⟩
  ·have:=(hsn j e p hj hp).2 hs
   rw [hes] at this; cases this
  ·rw [contains_push,Bool.or_eq_true,hsn i x q hx hq,beq_iff_eq]
   constructor
   ·rintro (h1 | h1)
    ·exact .inl h1
    ·right
     have hij:i=j:=by
      have h2:(es.toList.map (·.born))[i]?=some x.born:=by rw [List.getElem?_map,hx]; rfl
      have h3:(es.toList.map (·.born))[j]?=some x.born:=by rw [List.getElem?_map,hj,h1]; rfl
      have hi:=(List.getElem?_eq_some_iff.1 h2).1
      exact (List.getElem?_inj hi hst.2.1).1 (h2.trans h3.symm)
     subst hij
     rw [hp] at hq
     cases hq; rfl
   ·rintro (h1 | h1)
    ·exact .inl h1
    ·right
     have hij:=nodup_idx hn hq hp h1
     subst hij
     rw [hj] at hx
     cases hx; rfl
  ·rcases hal with rfl | rfl <;> exact ⟨rfl,rfl,rfl,by simp [setBlock],fun i _ hi => hset.2 i (fun e1 => hi (by rw [e1]))⟩
  ·rcases hal with rfl | rfl <;> simp [setBlock]
section laws
variable {ops:Array Oper} {rest:List Oper} {o:Oper} {a:Act} {Q:Exit→Act→World→Prop}
theorem wpList_maprange (hg:o.guard=none) (mo:Operand) (T kt et:TypeId) (hop:o.op=Op.range T mo) (hT:P.underlying T=some (.map kt et)) (hm:a.eval mo=.map (some mb)) (h:MapIs w mb d enc val m)
  (hK:∀ w',RangeOf w' mb w.heap.size enc val m (fun _ => False) m.length→Turn (fun _ => False) w w'→w'.heap.size=w.heap.size+1→wpList P ops Q rest (a.put o.dst (.pointer (some ⟨w.heap.size,0,none⟩))) w'):wpList P ops Q (o :: rest) a w:=by
 refine wpList_plain hg fun K' hK' => ?_
 obtain ⟨w',hrun,r1,r2,r3⟩:=h.run_range (P:=P) hT
 unfold Oper.wp
 simp [execOp,hop,hm,hrun,Result.andThen]
 exact hK' _ _ (hK w' r1 r2 r3)
theorem wpList_mapnext (hg:o.guard=none) (it:Operand) (hop:o.op=Op.next it false) (hit:a.eval it=.pointer (some ⟨r,0,none⟩)) (h:RangeOf w mb r enc val m seenK cnt)
  (hDone:(∀ p∈m,seenK p.1)→wpList P ops Q rest (a.put o.dst (.tuple #[.bool false])) w)
  (hMore:∀ (p:κ×β) (w':World) (cnt':Nat),p∈m→¬ seenK p.1→RangeOf w' mb r enc val m (fun k => seenK k∨k=p.1) cnt'→cnt' < cnt→Turn (fun j => j=r) w w'→w'.heap.size=w.heap.size →
   (Instr.entry (.pointer (some ⟨r,0,none⟩))).run P w'=.ok (.tuple #[enc p.1,val p.2]) w'→wpList P ops Q rest (a.put o.dst (.tuple #[.bool true,enc p.1,val p.2])) w'):wpList P ops Q (o :: rest) a w:=by
 refine wpList_plain hg fun K' hK' => ?_
 unfold Oper.wp
 rcases h.next (P:=P) o.type with ⟨h0,hrun⟩ | ⟨p,w',cnt',h1,h2,hrun,h3,h4,h5,h6,h7⟩
 ·simp [execOp,hop,hit,hrun,Result.andThen]
  exact hK' _ _ (hDone h0)
 ·simp [execOp,hop,hit,hrun,Result.andThen]
  exact hK' _ _ (hMore p w' cnt' h1 h2 h3 h4 h5 h6 h7)
end laws
end
end
end Go.Proofs.YtacoaahomdjfnaaDoor
