/- Package tree: List: a directory's names, in order. Conditions: each theorem's own premises. TreeOne, plain: all paths that there are, each once, and where they lead. Conditions: each theorem's own premises. TreeOne, plain: each change keeps that each node is found, directories by one path alone. Conditions: each theorem's own premises. TreeOne, plain: what is moved can be moved back, and all is as it was. Conditions: each theorem's own premises. TreeOne, plain: a path and its node as one text; such texts tell paths and nodes. Conditions: each theorem's own premises. A tree of a law's own: the calls that change names, told over the plain tree alone. Conditions: each theorem's own premises. TreeOne: the small functions that its law calls: TrimSuffix at a slash, Equal and Contains of texts. Conditions: each theorem's own premises. A tree of a law's own beside a slice of the law's own: each call of package tree that the law makes. Conditions: each theorem's own premises. TreeOne: the tree that the law keeps; one change of names ('name'). Conditions: each theorem's own premises. TreeOne: 'paths' tells all paths that there are, in order. Conditions: each theorem's own premises; the variable internal/strconv.uint64pow10 holds what is laid. TreeOne, plain: how often a number's text comes, as a map tells it. Conditions: each theorem's own premises. The laws' own fact 'named': a file in a directory. Conditions: each theorem's own premises. TreeOne: the tree beside two maps; a row of paths as texts; the last equals sign of a path's text. Conditions: each theorem's own premises. TreeOne walked: true, and nothing that was there turns. Conditions: the arguments lie in memory; the table of powers is laid. -/
import Derived.Test.YtacoaahomdjfnaaDoorTreePlain
import Derived.Test.YtacoaahomdjfnaaDoorKeysStr
import Derived.Test.YtacoaahomdjfnaaDoorKeysN
import Derived.Test.YtacoaahomdjfnaaDoorPathText
import Derived.Lib.ItoaLen
import Derived.Lib.LastIndexLaws
import Derived.Test.YtacoaahomdjfnaaDoorItoaText
import Derived.Deep.QuietTactic
import Derived.BigQuiet
import Derived.Deep.RegionHeld3
import Derived.StillTailTactics
import Derived.Test.YtacoaahomdjfnaaDoorLastI
import Derived.Deep.LoopGhost
namespace Go.Proofs.YtacoaahomdjfnaaDoor
open Go.RowKit
set_option linter.unusedVariables false
set_option maxHeartbeats 16000000
set_option maxRecDepth 100000
section
open Go.RowKit Go.Maps Go.Sort Go.Shelf Go.WideElems
theorem sortedS_of_perm {xs ys:List (List UInt8)} (h:xs.Perm ys):xs.mergeSort (fun x y => decide (x≤y))=ys.mergeSort (fun x y => decide (x≤y)):=by
 have tr:∀ a b c:List UInt8,decide (a≤b)=true→decide (b≤c)=true→decide (a≤c)=true:=fun a b c h1 h2 => by simp only [decide_eq_true_eq] at *; exact List.le_trans h1 h2
 have tot:∀ a b:List UInt8,(decide (a≤b) || decide (b≤a))=true:=fun a b => by simp only [Bool.or_eq_true,decide_eq_true_eq]; exact List.le_total a b
 have hp:(xs.mergeSort (fun x y => decide (x≤y))).Perm (ys.mergeSort (fun x y => decide (x≤y))):=(List.mergeSort_perm _ _).trans (h.trans (List.mergeSort_perm _ _).symm)
 exact List.Perm.eq_of_pairwise (le:=fun a b:List UInt8 => decide (a≤b)=true) (fun a b _ _ h1 h2 => by simp only [decide_eq_true_eq] at *; exact List.le_antisymm h1 h2) (List.pairwise_mergeSort tr tot xs) (List.pairwise_mergeSort tr tot ys) hp
def sortedNs (ds:List (ByteArray×Int)):List ByteArray:=((ds.map (·.1.data.toList)).mergeSort fun x y => decide (x≤y)).map fun l => ⟨l.toArray⟩
theorem sortedNs_length (ds:List (ByteArray×Int)):(sortedNs ds).length=ds.length:=by
 unfold sortedNs
 rw [List.length_map,(List.mergeSort_perm _ _).length_eq,List.length_map]
theorem sortedNs_mem {ds:List (ByteArray×Int)} {s:ByteArray}:s∈sortedNs ds ↔ ∃ e∈ds,e.1=s:=by
 unfold sortedNs
 rw [List.mem_map]
 constructor
 ·rintro ⟨l,hl,rfl⟩
  obtain ⟨e,he,rfl⟩:=List.mem_map.1 ((List.mergeSort_perm _ _).mem_iff.1 hl)
  exact ⟨e,he,(Go.Lib.mk_data e.1).symm⟩
 ·rintro ⟨e,he,rfl⟩
  exact ⟨_,(List.mergeSort_perm _ _).mem_iff.2 (List.mem_map.2 ⟨e,he,rfl⟩),Go.Lib.mk_data e.1⟩
section
variable {w w' w1 w2 w3:World} {tb nm b d:Nat} {T:PT} {B D:Int→Nat} {F:Nat→Prop} {p q:PN} {n:Int} {ds:List (ByteArray×Int)}
theorem keysN_is (mb:Option Nat) (W:World):Calls Tryd.prog 25 #[.map mb] W fun e w' => e=.returned (.func (.func 37) #[] #[.pointer (some ⟨W.heap.size,0,none⟩)])∧w'=W.alloc (.cells #[.map mb] 35) :=
 callsIn_wide.1 (AnyZ.keys_in laysKeysN Fence.wide 5 trivial rfl mb W)
theorem sortedN_is (h:MapIs w d .string encS encI ds) (hwf:∀ t∈ds,t.1.size≤maxLen) (hl:ds.length≤1000000) :
  Calls Tryd.prog 24 #[.func (.func 37) #[] #[.pointer (some ⟨w.heap.size,0,none⟩)]] (w.alloc (.cells #[.map (some d)] 35)) fun e w' => ∃ v,e=.returned v∧RowV w' 9 v ((sortedNs ds).map encS)∧Turn (fun _ => False) w w'∧∀ g,v.ownBlock=some g→w.heap.size≤g:=by
 obtain ⟨D0,hown,hperm,hsize⟩:=h.ownsS Tryd.underlying9 hwf (by unfold maxLen; omega)
 have hbl:=hown.lt
 have hmax:Maps.size D0≤maxLen:=by rw [hsize]; unfold maxLen; omega
 have hbytes:Maps.size D0 * 16≤140737488355328:=by rw [hsize]; omega
 have hseq:SeqGives Fence.wide 2 Tryd.prog 37 #[.pointer (some ⟨w.heap.size,0,none⟩)] encStr (fun ss => ss.Perm (strKeys D0)) (Maps.size D0) (w.alloc (.cells #[.map (some d)] 35)) :=
  AnyZ.keys_gives (ρ:=laysKeysN_ren) { laysKeysN with } Fence.wide _ trivial rfl (by omega) w.heap.size d ds.length D0 _ (by simp) (by simp) (by
   obtain ⟨es,clock,hb,Ft,hs,hD⟩:=hown
   exact ⟨es,clock,(Below.heap_alloc _ _ d hbl).trans hb,Ft,hs,hD⟩)
 have cS:=AnyZ.sorted_in laysSortedS Fence.wide 5 trivial trivial trivial trivial rfl (by omega) (sortsS _) (enters_of Tryd.func36 (by kernel_rfl) rfl) 37 #[.pointer (some ⟨w.heap.size,0,none⟩)] trivial (enters_of Tryd.func37 (by kernel_rfl) rfl) _ _ hmax hbytes _ hseq
 change CallsIn _ _ Tryd.prog 24 _ _ _ at cS
 refine (callsIn_wide.1 cS).mono ?_
 rintro e w' ⟨v,ss,rfl,hS,hrow,hnil,hb⟩
 have hpp:=hS.trans hperm
 have hlen:ss.length=ds.length:=by rw [hpp.length_eq]; simp
 have hrow2:=ownsRow_base_a hrow (Nat.zero_le _)
 have hfresh:∀ g,v.ownBlock=some g→w.heap.size≤g:=fun g hg => by
  have h5:=ownBlock_ge hrow hg
  rw [World.size_alloc] at h5
  omega
 rw [sortedS_of_perm hpp,hlen] at hrow2
 have hbel:=((Below.refl _ w).alloc (Nat.le_refl _) (.cells #[.map (some d)] 35)).trans (hb.mono (by simp))
 refine ⟨v,rfl,?_,⟨hbel.os,hbel.tape,hbel.output,hbel.size,fun k hk _ => hbel.block k hk⟩,hfresh⟩
 unfold RowV
 rw [List.length_map,sortedNs_length]
 have e1:(sortedNs ds).map encS=((ds.map (·.1.data.toList)).mergeSort fun x y => decide (x≤y)).map encStr:=by
  unfold sortedNs
  rw [List.map_map]
  rfl
 rw [e1]
 exact hrow2
theorem RowV.strs {v:Value} {l:List ByteArray} (h:RowV w 9 v (l.map encS)):∃ a cap,v=.slice a l.length cap∧StrsIn w a l∧(l≠[]→l.length≤cap):=by
 rcases h.shape with ⟨rfl,h0⟩ | ⟨g,cap,rfl,hc,_,hg⟩
 ·have:l=[]:=List.map_eq_nil_iff.1 h0
  subst this
  exact ⟨none,0,rfl,.inl rfl,fun h => absurd rfl h⟩
 ·refine ⟨some ⟨g,0,none⟩,cap,by rw [List.length_map],.inr ⟨g,0,rfl,hg,fun j s hs => ?_⟩,fun _ => by rw [List.length_map] at hc; exact hc⟩
  have h1:=h.cell j (encS s) (by rw [List.getElem?_map,hs]; rfl)
  rw [Nat.zero_add]
  exact h1
def listE (T:PT) (path:ByteArray):Int:=if (findT T path).1≠0 then (findT T path).1 else if isDirT T (findT T path).2 then 0 else 6
def listT (T:PT) (path:ByteArray):List ByteArray:=if listE T path=0 then sortedNs ((mget T (findT T path).2).elim [] (·.ds)) else []
theorem findT_there2 (h:TOk T) {path:ByteArray} (hz:(findT T path).1=0):∃ q,mget T (findT T path).2=some q:=by
 unfold findT at *
 cases hn:namesOf path with
 | none => rw [hn] at hz; cases hz
 | some l =>
  rw [hn] at hz
  obtain ⟨p0,hp0,_⟩:=h.root
  exact walkT_there h l 0 p0 hp0 hz
def ListIs (T:PT) (path:ByteArray) (w:World) (e:Ending) (w':World):Prop:=∃ v,e=.returned (.tuple #[v,TErr (listE T path)])∧RowV w' 9 v ((listT T path).map encS)∧Turn (fun _ => False) w w'∧∀ g,v.ownBlock=some g→w.heap.size≤g
theorem RowV.none (w:World) (e:TypeId):RowV w e (.slice none 0 0) []:=⟨by simp,.inl ⟨rfl,rfl⟩⟩
theorem list_is (h:TreeIs w tb T F) (path:ByteArray) (hs:path.size < 4294967281) (hb:∀ n p,mget T n=some p→p.ds.length≤1000000) :
  Calls Tryd.prog 11 #[.pointer (some ⟨tb,0,none⟩),.string path] w (ListIs T path w):=by
 have HI:=hid h
 have HFd:=hid (find_is h path hs)
 have HB:=hid hb
 clear h hb
 go_enter Tryd.func11,Tryd.ntmps11
 go_wp2_with fail
 refine HFd.out.mono ?_
 rintro e w1 ⟨rfl,t1⟩
 have HT1:=hid t1
 clear t1
 by_cases hz:(findT T path).1=0
 ·obtain ⟨q,hq⟩:=findT_there2 HI.out.ok hz
  obtain ⟨n,hn⟩:∃ n,(findT T path).2=n:=⟨_,rfl⟩
  rw [hn] at hq
  rw [hz,hn]
  have te:TErr 0=.nilIface:=rfl
  obtain ⟨nm,B,D,h1,hok,hF⟩:=HI.out.turned HT1.out (fun _ _ => id)
  have hh:=h1.hdr
  have lk:=h1.look hq
  have nd:=h1.nd n q hq
  have c0:=nd.c0
  have mno:=map_some_nil (D n) w1
  have myes:=map_nil_nil w1
  cases hqd:q.isDir with
  | false =>
   rw [hqd] at c0
   simp only [Bool.false_eq_true,if_false] at c0
   have hE:listE T path=6:=by
    unfold listE
    rw [if_neg (by rw [hz]; simp),hn,if_neg (by unfold isDirT; rw [hq]; show ¬ q.isDir=true; rw [hqd]; decide)]
   have hL:listT T path=[]:=if_neg (by rw [hE]; decide)
   have HE:=hid hE
   have HLs:=hid hL
   clear nd hqd hE hL h1 hok hF hz hn hq
   go_wp2_with fail
   go_returns
   unfold ListIs
   rw [HE.out,HLs.out]
   exact ⟨_,rfl,RowV.none _ _,HT1.out,fun g hg => by cases hg⟩
  | true =>
   rw [hqd] at c0
   simp only [if_true] at c0
   have hE:listE T path=0:=by
    unfold listE
    rw [if_neg (by rw [hz]; simp),hn,if_pos (by unfold isDirT; rw [hq]; exact hqd)]
   have hL:listT T path=sortedNs q.ds:=by
    unfold listT
    rw [if_pos hE,hn,hq]; rfl
   have HE:=hid hE
   have HLs:=hid hL
   have HK:=hid (keysN_is (some (D n)) w1)
   have HSo:=hid (sortedN_is (nd.dir hqd) (fun t ht => by
    have h2:=okName_true (hok.nms n q hq t ht)
    unfold maxLen; omega) (HB.out n q hq))
   clear nd hqd hE hL h1 hok hF hz hn hq
   go_wp2_with fail
   refine HK.out.mono ?_
   rintro e w2 ⟨rfl,hw⟩; subst w2
   go_wp2_with fail
   refine HSo.out.mono ?_
   rintro e w3 ⟨v,rfl,hrow,t3,hf3⟩
   have HF3:=hid hf3
   have HS1:=hid HT1.out.size
   clear hf3
   have HRow:=hid hrow
   have HT3:=hid t3
   clear hrow t3
   go_wp2_with fail
   go_returns
   unfold ListIs
   rw [HE.out,HLs.out]
   exact ⟨v,rfl,HRow.out,HT1.out.trans HT3.out,fun g hg => Nat.le_trans HS1.out (HF3.out g hg)⟩
 ·have te:=TErr_of hz
  have hE:listE T path=(findT T path).1:=if_pos hz
  have hL:listT T path=[]:=if_neg (by rw [hE]; exact hz)
  have HE:=hid hE
  have HLs:=hid hL
  have HTe:=hid te
  rw [te]
  clear hz hE te hL
  go_wp2_with fail
  go_returns
  unfold ListIs
  rw [HE.out,HLs.out,HTe.out]
  exact ⟨_,rfl,RowV.none _ _,HT1.out,fun g hg => by cases hg⟩
end
end
def preT (T:PT):Nat→Int→List ByteArray→List (List ByteArray×Int)
 | 0,_,_ => []
 | f+1,n,l => (l,n) :: (sortedNs (dsO T n)).flatMap fun s => (ent T n s).elim [] fun m => preT T f m (l ++ [s])
section
variable {T T':PT} {n m d e k:Int} {p p' q q':PN} {s s':ByteArray} {l l' r:List ByteArray}
theorem pre_led:∀ (f:Nat) (n:Int) (l:List ByteArray) {x:List ByteArray×Int},x∈preT T f n l→∃ r,x.1=l ++ r∧goP T n r=some x.2
 | 0,_,_,x,h => by cases h
 | f+1,n,l,x,h => by
  rcases List.mem_cons.1 h with e | e
  ·subst e; exact ⟨[],(List.append_nil l).symm,rfl⟩
  ·obtain ⟨s,hs,hx⟩:=List.mem_flatMap.1 e
   cases he:ent T n s with
   | none => rw [he] at hx; cases hx
   | some m =>
    rw [he] at hx
    obtain ⟨r,h1,h2⟩:=pre_led f m (l ++ [s]) hx
    refine ⟨s :: r,by rw [h1,List.append_assoc]; rfl,?_⟩
    show (ent T n s).bind (fun m => goP T m r)=some x.2
    rw [he]; exact h2
theorem pre_all:∀ (f:Nat) (n:Int) (l r:List ByteArray) (m:Int),goP T n r=some m→r.length < f→(l ++ r,m)∈preT T f n l
 | 0,_,_,_,_,_,h => absurd h (Nat.not_lt_zero _)
 | f+1,n,l,[],m,hg,_ => by cases hg; rw [List.append_nil]; exact List.mem_cons_self
 | f+1,n,l,s :: r,m,hg,hl => by
  have hg:(ent T n s).bind (fun m => goP T m r)=some m:=hg
  cases he:ent T n s with
  | none => rw [he] at hg; cases hg
  | some k =>
   rw [he] at hg
   refine List.mem_cons_of_mem _ (List.mem_flatMap.2 ⟨s,?_,?_⟩)
   ·rw [ent_ds] at he
    exact sortedNs_mem.2 ⟨_,mem_of_mget he,rfl⟩
   ·rw [he]
    have h1:=pre_all f k (l ++ [s]) r m hg (by simp at hl; omega)
    rw [List.append_assoc] at h1
    exact h1
theorem sortedNs_nodup {ds:List (ByteArray×Int)} (h:MNodup ds):(sortedNs ds).Nodup:=by
 unfold sortedNs
 have hinj:∀ a b:ByteArray,a.data.toList=b.data.toList→a=b:=fun a b e => bytes_ext e
 have h1:(ds.map (·.1.data.toList)).Nodup:=by
  have:ds.map (·.1.data.toList)=(ds.map Prod.fst).map (·.data.toList):=by rw [List.map_map]; rfl
  rw [this]
  exact List.pairwise_map.2 (List.Pairwise.imp (fun hne e => hne (hinj _ _ e)) h)
 refine List.pairwise_map.2 ?_
 refine List.Pairwise.imp ?_ ((List.mergeSort_perm _ _).nodup_iff.2 h1)
 intro a b hne e
 exact hne (by have:=congrArg (fun x:ByteArray => x.data.toList) e; simpa using this)
theorem pre_nodup (hd:∀ n,MNodup (dsO T n)):∀ (f:Nat) (n:Int) (l:List ByteArray),(preT T f n l).Pairwise fun x y => x.1≠y.1
 | 0,_,_ => List.Pairwise.nil
 | f+1,n,l => by
  refine List.pairwise_cons.2 ⟨fun x hx e => ?_,List.pairwise_flatMap.2 ⟨fun s hs => ?_,?_⟩⟩
  ·obtain ⟨s,hs,hx⟩:=List.mem_flatMap.1 hx
   cases he:ent T n s with
   | none => rw [he] at hx; cases hx
   | some m =>
    rw [he] at hx
    obtain ⟨r,h1,_⟩:=pre_led f m (l ++ [s]) hx
    have h2:=congrArg List.length (h1.symm.trans e.symm)
    simp at h2
  ·cases ent T n s with
   | none => exact List.Pairwise.nil
   | some m => exact pre_nodup hd f m (l ++ [s])
  ·refine List.Pairwise.imp ?_ (sortedNs_nodup (hd n))
   intro a b hne x hx y hy e
   have led:∀ (s:ByteArray) (x:List ByteArray×Int),x∈((ent T n s).elim [] fun m => preT T f m (l ++ [s]))→∃ r,x.1=l ++ (s :: r):=fun s x hx => by
    cases he:ent T n s with
    | none => rw [he] at hx; cases hx
    | some m =>
     rw [he] at hx
     obtain ⟨r,h1,_⟩:=pre_led f m (l ++ [s]) hx
     exact ⟨r,by rw [h1,List.append_assoc]; rfl⟩
   obtain ⟨r1,e1⟩:=led a x hx
   obtain ⟨r2,e2⟩:=led b y hy
   rw [e1,e2] at e
   have e3:=List.append_cancel_left e
   injection e3 with e4
   exact hne e4
def allP (T:PT):List (List ByteArray×Int):=preT T (T.length+1) 0 []
theorem One.dsn (h:One T) (n:Int):MNodup (dsO T n):=by
 unfold dsO
 cases hn:mget T n with
 | none => exact List.nodup_nil
 | some p => exact h.ok.dnd n p hn
theorem One.all_iff (h:One T) {x:List ByteArray×Int}:x∈allP T ↔ goP T 0 x.1=some x.2:=by
 constructor
 ·intro hx
  obtain ⟨r,h1,h2⟩:=pre_led _ 0 [] hx
  rw [List.nil_append] at h1
  rw [h1]; exact h2
 ·intro hg
  have h1:=pre_all (T.length+1) 0 [] x.1 x.2 hg (by have:=h.depth hg; omega)
  exact h1
theorem One.all_nodup (h:One T):(allP T).Pairwise fun x y => x.1≠y.1:=pre_nodup h.dsn _ _ _
theorem One.dir_once (h:One T) (hn:mget T n=some p) (hd:p.isDir=true):((allP T).filter fun x => decide (x.2=n)).length=1:=by
 obtain ⟨l,hl⟩:=h.reach n p hn
 have hmem:(l,n)∈(allP T).filter fun x => decide (x.2=n):=List.mem_filter.2 ⟨h.all_iff.2 hl,by simp⟩
 have hpw:((allP T).filter fun x => decide (x.2=n)).Pairwise fun x y => x.1≠y.1:=h.all_nodup.filter _
 have hone:∀ x∈(allP T).filter fun x => decide (x.2=n),x.1=l:=fun x hx => by
  obtain ⟨h1,h2⟩:=List.mem_filter.1 hx
  have h3:=h.all_iff.1 h1
  rw [of_decide_eq_true h2] at h3
  exact h.uniq _ (Nat.le_refl _) hn hd h3 hl
 cases hf:(allP T).filter fun x => decide (x.2=n) with
 | nil => rw [hf] at hmem; cases hmem
 | cons a t =>
  cases t with
  | nil => rfl
  | cons b t =>
   exfalso
   rw [hf] at hpw hone
   have h1:=hone a List.mem_cons_self
   have h2:=hone b (List.mem_cons_of_mem _ List.mem_cons_self)
   exact (List.pairwise_cons.1 hpw).1 b List.mem_cons_self (h1.trans h2.symm)
theorem One.node_there (h:One T):(∃ x∈allP T,x.2=n) ↔ ∃ p,mget T n=some p:=by
 obtain ⟨p0,h0,_⟩:=h.ok.root
 constructor
 ·rintro ⟨x,hx,rfl⟩
  exact h.ok.go_to h0 (h.all_iff.1 hx)
 ·rintro ⟨p,hp⟩
  obtain ⟨l,hl⟩:=h.reach n p hp
  exact ⟨(l,n),h.all_iff.2 hl,rfl⟩
theorem pre_congr (h1:∀ n,sortedNs (dsO T' n)=sortedNs (dsO T n)) (h2:∀ n s,ent T' n s=ent T n s):∀ (f:Nat) (n:Int) (l:List ByteArray),preT T' f n l=preT T f n l
 | 0,_,_ => rfl
 | f+1,n,l => by
  show (l,n) :: (sortedNs (dsO T' n)).flatMap (fun s => (ent T' n s).elim [] fun m => preT T' f m (l ++ [s]))=(l,n) :: (sortedNs (dsO T n)).flatMap fun s => (ent T n s).elim [] fun m => preT T f m (l ++ [s])
  rw [h1]
  congr 1
  congr 1
  funext s
  rw [h2]
  cases ent T n s with
  | none => rfl
  | some m => exact pre_congr h1 h2 f m (l ++ [s])
theorem sortedNs_perm {ds ds':List (ByteArray×Int)} (h:(ds.map Prod.fst).Perm (ds'.map Prod.fst)):sortedNs ds=sortedNs ds':=by
 unfold sortedNs
 congr 1
 refine sortedS_of_perm ?_
 have:∀ d:List (ByteArray×Int),d.map (·.1.data.toList)=(d.map Prod.fst).map (·.data.toList):=fun d => by rw [List.map_map]; rfl
 rw [this,this]
 exact h.map _
theorem sortedNs_same {ds ds':List (ByteArray×Int)} (hn:MNodup ds) (hn':MNodup ds') (h:∀ s,mget ds s=mget ds' s):sortedNs ds=sortedNs ds':=by
 refine sortedNs_perm ?_
 refine (List.perm_ext_iff_of_nodup hn hn').2 (fun s => ?_)
 have key:∀ d:List (ByteArray×Int),s∈d.map Prod.fst ↔ (mget d s).isSome=true:=fun d => by
  cases e:mget d s with
  | none =>
   constructor
   ·intro hq
    obtain ⟨t,ht,rfl⟩:=List.mem_map.1 hq
    exact absurd rfl (mget_none_iff.1 e t ht)
   ·intro hq; cases hq
  | some b => exact ⟨fun _ => rfl,fun _ => List.mem_map.2 ⟨_,mem_of_mget e,rfl⟩⟩
 rw [key,key,h]
end
section
variable {T T':PT} {n m d e k x:Int} {p p' q q':PN} {s s' t:ByteArray} {l l' r:List ByteArray} {path old:ByteArray} {b:Bool}
theorem isDirT_some (h:isDirT T n=true):∃ p,mget T n=some p∧p.isDir=true:=by
 unfold isDirT at h
 cases hn:mget T n with
 | none => rw [hn] at h; cases h
 | some p => rw [hn] at h; exact ⟨p,rfl,h⟩
theorem dsT_dsO:dsT T n=dsO T n:=rfl
theorem goP_mono (hE:∀ x t m,ent T x t=some m→ent T' x t=some m):∀ {l:List ByteArray} {n:Int},goP T n l=some m→goP T' n l=some m
 | [],n,h => h
 | s :: l,n,h => by
  have h:(ent T n s).bind (fun m => goP T m l)=some m:=h
  show (ent T' n s).bind (fun m => goP T' m l)=some m
  cases he:ent T n s with
  | none => rw [he] at h; cases h
  | some k =>
   rw [he] at h
   rw [hE n s k he]
   exact goP_mono hE h
theorem goP_shun (hE:∀ x t m,¬ (x=d∧t=s)→ent T x t=some m→ent T' x t=some m):∀ {l:List ByteArray} {n:Int},goP T n l=some m→(∀ l1 l2,l=l1 ++ s :: l2→goP T n l1≠some d)→goP T' n l=some m
 | [],n,h,_ => h
 | t :: l,n,h,ha => by
  have h:(ent T n t).bind (fun m => goP T m l)=some m:=h
  show (ent T' n t).bind (fun m => goP T' m l)=some m
  cases he:ent T n t with
  | none => rw [he] at h; cases h
  | some k =>
   rw [he] at h
   have hne:¬ (n=d∧t=s):=fun ⟨e1,e2⟩ => ha [] l (by rw [e2]; rfl) (by rw [e1]; rfl)
   rw [hE n t k hne he]
   refine goP_shun hE h (fun l1 l2 e h1 => ha (t :: l1) l2 (by rw [e]; rfl) ?_)
   show (ent T n t).bind (fun m => goP T m l1)=some d
   rw [he]; exact h1
theorem One.add (h:One T) (hok:TOk T') (hE:∀ x t,ent T' x t=if x=d∧t=s then some n else ent T x t) (hnone:ent T d s=none)
  (hT:∀ x q',mget T' x=some q'→q'.held=0∧((∃ q,mget T x=some q∧q.isDir=q'.isDir)∨(x=n∧mget T n=none)))
  (hn:mget T n=none∨∃ q,mget T n=some q∧q.isDir=false) (hl:goP T 0 l=some d) (hs:NoSl s):One T':=by
 obtain ⟨p0,h0,hd0⟩:=h.ok.root
 have mono:∀ x t m,ent T x t=some m→ent T' x t=some m:=fun x t m hx => by
  rw [hE]
  by_cases e:x=d∧t=s
  ·rw [e.1,e.2,hnone] at hx; cases hx
  ·rw [if_neg e]; exact hx
 have noto:mget T n=none→∀ x t,ent T x t≠some n:=fun hno x t hx => by
  obtain ⟨q,hq⟩:=h.ok.ent_to hx
  rw [hno] at hq; cases hq
 refine ⟨hok,fun d1 s1 d2 s2 x q' h1 h2 hx hdir => ?_,fun x t hx => ?_,fun x q' hx => ?_,fun x q' hx => (hT x q' hx).1,fun x q' hx e he => ?_⟩
 ·rw [hE] at h1 h2
  have hxn:x=n→mget T n=none:=fun e => by
   rcases hn with h3 | ⟨q,h3,h4⟩
   ·exact h3
   ·exfalso
    rcases (hT x q' hx).2 with ⟨q2,h5,h6⟩ | ⟨_,h5⟩
    ·rw [e,h3] at h5
     cases h5
     rw [← h6,h4] at hdir; cases hdir
    ·rw [h3] at h5; cases h5
  by_cases e1:d1=d∧s1=s
  ·rw [if_pos e1] at h1
   have hxe:x=n:=(Option.some.inj h1).symm
   by_cases e2:d2=d∧s2=s
   ·exact ⟨e1.1.trans e2.1.symm,e1.2.trans e2.2.symm⟩
   ·rw [if_neg e2,hxe] at h2
    exact absurd h2 (noto (hxn hxe) d2 s2)
  ·rw [if_neg e1] at h1
   by_cases e2:d2=d∧s2=s
   ·rw [if_pos e2] at h2
    have hxe:x=n:=(Option.some.inj h2).symm
    rw [hxe] at h1
    exact absurd h1 (noto (hxn hxe) d1 s1)
   ·rw [if_neg e2] at h2
    rcases (hT x q' hx).2 with ⟨q,h3,h4⟩ | ⟨h3,h4⟩
    ·exact h.par d1 s1 d2 s2 x q h1 h2 h3 (by rw [h4]; exact hdir)
    ·rw [h3] at h1
     exact absurd h1 (noto h4 d1 s1)
 ·rw [hE] at hx
  by_cases e:x=d∧t=s
  ·rw [if_pos e] at hx
   have e0:n=0:=Option.some.inj hx
   subst e0
   rcases hn with h3 | ⟨q,h3,h4⟩
   ·rw [h0] at h3; cases h3
   ·rw [h0] at h3; cases h3
    rw [hd0] at h4; cases h4
  ·rw [if_neg e] at hx
   exact h.root x t hx
 ·rcases (hT x q' hx).2 with ⟨q,h3,_⟩ | ⟨h3,_⟩
  ·obtain ⟨l2,h4⟩:=h.reach x q h3
   exact ⟨l2,goP_mono mono h4⟩
  ·refine ⟨l ++ [s],?_⟩
   rw [h3]
   refine goP_snoc.2 ⟨d,goP_mono mono hl,?_⟩
   rw [hE,if_pos ⟨rfl,rfl⟩]
 ·have h3:ent T' x e.1=some e.2:=ent_some.2 ⟨q',hx,mget_mem (hok.dnd x q' hx) he⟩
  rw [hE] at h3
  by_cases e2:x=d∧e.1=s
  ·rw [e2.2]; exact hs
  ·rw [if_neg e2] at h3
   obtain ⟨q,h4,h5⟩:=ent_some.1 h3
   exact h.sl x q h4 _ (mem_of_mget h5)
theorem ent_at (hd:mget T d=some p):ent T d t=mget p.ds t:=by unfold ent; rw [hd]; rfl
theorem ent_no (hd:mget T d=none):ent T d t=none:=by unfold ent; rw [hd]; rfl
theorem ds_at (hd:mget T d=some p):dsT T d=p.ds:=by unfold dsT; rw [hd]; rfl
theorem nosl_place (hp:namesOf path=some (l ++ [s])):NoSl s:=(txP_names hp).2 s (by simp)
theorem One.make (h:One T) (hok:TOk (makeT T path b)):One (makeT T path b):=by
 by_cases hz:makeE T path=0
 ·have hz1:=hz
  unfold makeE at hz1
  by_cases h1:(placeT T path).1≠0
  ·rw [if_pos h1] at hz1; exact absurd hz1 h1
  ·rw [if_neg h1] at hz1
   have h1:(placeT T path).1=0:=by simpa using h1
   obtain ⟨l,hnm,hl,hdir⟩:=h.placed h1
   obtain ⟨d,hd⟩:∃ d,(placeT T path).2.1=d:=⟨_,rfl⟩
   obtain ⟨s,hs⟩:∃ s,(placeT T path).2.2=s:=⟨_,rfl⟩
   rw [hd] at hl hdir hz1
   rw [hs] at hnm hz1
   obtain ⟨p,hp,hpd⟩:=isDirT_some hdir
   rw [ds_at hp] at hz1
   by_cases h2:(mget p.ds s).isSome=true
   ·rw [if_pos h2] at hz1; cases hz1
   ·rw [if_neg h2] at hz1
    have h2:mget p.ds s=none:=by simpa using h2
    by_cases h3:60≤T.length
    ·rw [if_pos h3] at hz1; cases hz1
    ·obtain ⟨f1,f2,f3,_⟩:=freeT_spec h.ok (by omega)
     obtain ⟨k,hk⟩:∃ k:Int,(freeT T:Int)=k:=⟨_,rfl⟩
     have hkd:d≠k:=fun e => by rw [hk,← e,hp] at f3; cases f3
     have hT:makeT T path b=mput (mput T k (newN b)) d { p with ds:=mput p.ds s k }:=by
      unfold makeT
      rw [if_pos hz,hd,hs,ds_at hp,hk]
      unfold nameT
      rw [mget_mput,if_neg hkd,hp]
      rfl
     rw [hk] at f3
     have hg:∀ x,mget (makeT T path b) x=if x=d then some { p with ds:=mput p.ds s k } else if x=k then some (newN b) else mget T x:=fun x => by rw [hT,mget_mput,mget_mput]
     refine h.add (d:=d) (s:=s) (n:=k) (l:=l) hok (fun x t => ?_) (by rw [ent_at hp]; exact h2) (fun x q' hx => ?_) (.inl f3) hl (nosl_place hnm)
     ·by_cases e:x=d
      ·subst e
       rw [ent_at (by rw [hg,if_pos rfl]),ent_at hp]
       show mget (mput p.ds s k) t=_
       rw [mget_mput]
       by_cases e2:t=s
       ·rw [if_pos e2,if_pos ⟨rfl,e2⟩]
       ·rw [if_neg e2,if_neg (fun h => e2 h.2)]
      ·rw [if_neg (fun h => e h.1)]
       by_cases e2:x=k
       ·subst e2
        rw [ent_at (by rw [hg,if_neg e,if_pos rfl]),ent_no f3]
        rfl
       ·unfold ent
        rw [hg,if_neg e,if_neg e2]
     ·rw [hg] at hx
      by_cases e:x=d
      ·rw [if_pos e] at hx
       cases hx
       exact ⟨h.held d p hp,.inl ⟨p,by rw [e]; exact hp,rfl⟩⟩
      ·rw [if_neg e] at hx
       by_cases e2:x=k
       ·rw [if_pos e2] at hx
        cases hx
        exact ⟨rfl,.inr ⟨e2,f3⟩⟩
       ·rw [if_neg e2] at hx
        exact ⟨h.held x q' hx,.inl ⟨q',hx,rfl⟩⟩
 ·rw [show makeT T path b=T from if_neg hz]; exact h
theorem One.link_ (h:One T) (hok:TOk (linkT T old path)):One (linkT T old path):=by
 by_cases hz:linkE T old path=0
 ·have hz1:=hz
  unfold linkE at hz1
  by_cases h0:(findT T old).1≠0
  ·rw [if_pos h0] at hz1; exact absurd hz1 h0
  ·rw [if_neg h0] at hz1
   have h0:(findT T old).1=0:=by simpa using h0
   obtain ⟨q,hq⟩:=findT_there h.ok h0
   by_cases hfd:isDirT T (findT T old).2=true
   ·rw [if_pos hfd] at hz1; cases hz1
   ·rw [if_neg hfd] at hz1
    by_cases h1:(placeT T path).1≠0
    ·rw [if_pos h1] at hz1; exact absurd hz1 h1
    ·rw [if_neg h1] at hz1
     have h1:(placeT T path).1=0:=by simpa using h1
     obtain ⟨l,hnm,hl,hdir⟩:=h.placed h1
     obtain ⟨d,hd⟩:∃ d,(placeT T path).2.1=d:=⟨_,rfl⟩
     obtain ⟨s,hs⟩:∃ s,(placeT T path).2.2=s:=⟨_,rfl⟩
     obtain ⟨n,hn⟩:∃ n,(findT T old).2=n:=⟨_,rfl⟩
     rw [hd] at hl hdir hz1
     rw [hs] at hnm hz1
     rw [hn] at hq hfd
     obtain ⟨p,hp,hpd⟩:=isDirT_some hdir
     rw [ds_at hp] at hz1
     have hqd:q.isDir=false:=by
      unfold isDirT at hfd
      rw [hq] at hfd
      simpa using hfd
     by_cases h2:(mget p.ds s).isSome=true
     ·rw [if_pos h2] at hz1; cases hz1
     ·have h2:mget p.ds s=none:=by simpa using h2
      have hnd:n≠d:=fun e => by rw [e,hp] at hq; cases hq; rw [hpd] at hqd; cases hqd
      have hT:linkT T old path=mput (mput T d { p with ds:=mput p.ds s n }) n { q with names:=q.names+1 }:=by
       unfold linkT
       rw [if_pos hz,hd,hs,hn,updN_is hp]
       rw [updN_is (p:=q) (by rw [mget_mput,if_neg hnd]; exact hq)]
      have hg:∀ x,mget (linkT T old path) x=if x=n then some { q with names:=q.names+1 } else if x=d then some { p with ds:=mput p.ds s n } else mget T x:=fun x => by rw [hT,mget_mput,mget_mput]
      refine h.add (d:=d) (s:=s) (n:=n) (l:=l) hok (fun x t => ?_) (by rw [ent_at hp]; exact h2) (fun x q' hx => ?_) (.inr ⟨q,hq,hqd⟩) hl (nosl_place hnm)
      ·by_cases e:x=d
       ·subst e
        rw [ent_at (by rw [hg,if_neg (fun e => hnd e.symm),if_pos rfl]),ent_at hp]
        show mget (mput p.ds s n) t=_
        rw [mget_mput]
        by_cases e2:t=s
        ·rw [if_pos e2,if_pos ⟨rfl,e2⟩]
        ·rw [if_neg e2,if_neg (fun h => e2 h.2)]
       ·rw [if_neg (fun h => e h.1)]
        by_cases e2:x=n
        ·subst e2
         rw [ent_at (by rw [hg,if_pos rfl]),ent_at hq]
        ·unfold ent
         rw [hg,if_neg e2,if_neg e]
      ·rw [hg] at hx
       by_cases e:x=n
       ·rw [if_pos e] at hx
        cases hx
        exact ⟨h.held n q hq,.inl ⟨q,by rw [e]; exact hq,rfl⟩⟩
       ·rw [if_neg e] at hx
        by_cases e2:x=d
        ·rw [if_pos e2] at hx
         cases hx
         exact ⟨h.held d p hp,.inl ⟨p,by rw [e2]; exact hp,rfl⟩⟩
        ·rw [if_neg e2] at hx
         exact ⟨h.held x q' hx,.inl ⟨q',hx,rfl⟩⟩
 ·rw [show linkT T old path=T from if_neg hz]; exact h
theorem One.unlink_ (h:One T) (hok:TOk (unlinkT T path)):One (unlinkT T path):=by
 by_cases hz:unlinkE T path=0
 ·have hz1:=hz
  unfold unlinkE at hz1
  by_cases h1:(placeT T path).1≠0
  ·rw [if_pos h1] at hz1; exact absurd hz1 h1
  ·rw [if_neg h1] at hz1
   have h1:(placeT T path).1=0:=by simpa using h1
   obtain ⟨l,hnm,hl,hdir⟩:=h.placed h1
   obtain ⟨d,hd⟩:∃ d,(placeT T path).2.1=d:=⟨_,rfl⟩
   obtain ⟨s,hs⟩:∃ s,(placeT T path).2.2=s:=⟨_,rfl⟩
   rw [hd] at hl hdir hz1
   rw [hs] at hnm hz1
   obtain ⟨p,hp,hpd⟩:=isDirT_some hdir
   rw [ds_at hp] at hz1
   cases hm:mget p.ds s with
   | none => rw [hm] at hz1; cases hz1
   | some n =>
    rw [hm] at hz1
    have hed:ent T d s=some n:=by rw [ent_at hp]; exact hm
    obtain ⟨q,hq⟩:=h.ok.ent_to hed
    have hz1:(if dsT T n≠[] then (6:Int) else 0)=0:=hz1
    have hqs:q.ds=[]:=by
     by_cases e:dsT T n≠[]
     ·rw [if_pos e] at hz1; cases hz1
     ·rw [ds_at hq] at e
      simpa using e
    have hnd:n≠d:=fun e => by
     rw [e,hp] at hq
     cases hq
     rw [hqs] at hm; cases hm
    obtain ⟨q1,hq1⟩:∃ q1:PN,q1={ q with names:=q.names - 1 }:=⟨_,rfl⟩
    have hT:unlinkT T path=goneT (mput (mput T d { p with ds:=mdel p.ds s }) n q1) n q1:=by
     unfold unlinkT
     rw [if_pos hz,hd,hs,ds_at hp,hm,updN_is hp,hq1]
     simp only [Option.elim]
     rw [hq]
    have hg:∀ x q',mget (unlinkT T path) x=some q'→(x=n∧q'=q1∧q1.names≠0)∨(x≠n∧x=d∧q'={ p with ds:=mdel p.ds s })∨(x≠n∧x≠d∧mget T x=some q'):=fun x q' hx => by
     rw [hT] at hx
     unfold goneT at hx
     by_cases hc:q1.names=0∧q1.held=0
     ·rw [if_pos hc,mget_mdel] at hx
      by_cases e:x=n
      ·rw [if_pos e] at hx; cases hx
      ·rw [if_neg e,mget_mput,if_neg e,mget_mput] at hx
       by_cases e2:x=d
       ·rw [if_pos e2] at hx; cases hx; exact .inr (.inl ⟨e,e2,rfl⟩)
       ·rw [if_neg e2] at hx; exact .inr (.inr ⟨e,e2,hx⟩)
     ·rw [if_neg hc,mget_mput] at hx
      by_cases e:x=n
      ·rw [if_pos e] at hx
       cases hx
       refine .inl ⟨e,rfl,fun h0 => hc ⟨h0,?_⟩⟩
       rw [hq1]; exact h.held n q hq
      ·rw [if_neg e,mget_mput] at hx
       by_cases e2:x=d
       ·rw [if_pos e2] at hx; cases hx; exact .inr (.inl ⟨e,e2,rfl⟩)
       ·rw [if_neg e2] at hx; exact .inr (.inr ⟨e,e2,hx⟩)
    have hg2:∀ x,x≠n→mget (unlinkT T path) x=if x=d then some { p with ds:=mdel p.ds s } else mget T x:=fun x e => by
     rw [hT]
     unfold goneT
     split
     ·rw [mget_mdel,if_neg e,mget_mput,if_neg e,mget_mput]
     ·rw [mget_mput,if_neg e,mget_mput]
    have hnn:∀ t,ent (unlinkT T path) n t=none:=fun t => by
     cases hc:mget (unlinkT T path) n with
     | none => exact ent_no hc
     | some q' =>
      rw [ent_at hc]
      rcases hg n q' hc with ⟨_,e,_⟩ | ⟨e,_⟩ | ⟨e,_⟩
      ·rw [e,hq1]
       show mget q.ds t=none
       rw [hqs]; rfl
      ·exact absurd rfl e
      ·exact absurd rfl e
    have hE:∀ x t,ent (unlinkT T path) x t=if x=d∧t=s then none else ent T x t:=fun x t => by
     by_cases e:x=n
     ·subst e
      rw [hnn,if_neg (fun h => hnd h.1),ent_at hq,hqs]; rfl
     ·by_cases e2:x=d
      ·subst e2
       rw [ent_at (by rw [hg2 x e,if_pos rfl]),ent_at hp]
       show mget (mdel p.ds s) t=_
       rw [mget_mdel]
       by_cases e3:t=s
       ·rw [if_pos e3,if_pos ⟨rfl,e3⟩]
       ·rw [if_neg e3,if_neg (fun h => e3 h.2)]
      ·rw [if_neg (fun h => e2 h.1)]
       unfold ent
       rw [hg2 x e,if_neg e2]
    have sub:∀ x t m,ent (unlinkT T path) x t=some m→ent T x t=some m:=fun x t m hx => by
     rw [hE] at hx
     split at hx
     ·cases hx
     ·exact hx
    have shun:∀ {l:List ByteArray} {x:Int},goP T 0 l=some x→x≠n→goP (unlinkT T path) 0 l=some x:=fun {l x} hgo hxn => by
     refine goP_shun (d:=d) (s:=s) (fun x t m hne hx => by rw [hE,if_neg hne]; exact hx) hgo (fun l1 l2 e h1 => hxn ?_)
     rw [e] at hgo
     obtain ⟨d',h3,h4⟩:=goP_split.1 hgo
     rw [h1] at h3
     cases h3
     have h4:(ent T d s).bind (fun m => goP T m l2)=some x:=h4
     rw [hed] at h4
     cases l2 with
     | nil => exact (Option.some.inj h4).symm
     | cons u l2 =>
      have h4:(ent T n u).bind (fun m => goP T m l2)=some x:=h4
      rw [ent_at hq,hqs] at h4
      cases h4
    refine ⟨hok,fun d1 s1 d2 s2 x q' h2 h3 hx hxd => ?_,fun x t hx => h.root x t (sub x t 0 hx),fun x q' hx => ?_,fun x q' hx => ?_,fun x q' hx e he => ?_⟩
    ·rcases hg x q' hx with ⟨e1,e2,_⟩ | ⟨_,e1,e2⟩ | ⟨_,_,e1⟩
     ·exact h.par d1 s1 d2 s2 x q (sub _ _ _ h2) (sub _ _ _ h3) (by rw [e1]; exact hq) (by rw [e2,hq1] at hxd; exact hxd)
     ·exact h.par d1 s1 d2 s2 x p (sub _ _ _ h2) (sub _ _ _ h3) (by rw [e1]; exact hp) hpd
     ·exact h.par d1 s1 d2 s2 x q' (sub _ _ _ h2) (sub _ _ _ h3) e1 hxd
    ·by_cases e:x=n
     ·subst e
      rcases hg x q' hx with ⟨_,e2,hnz⟩ | ⟨e2,_⟩ | ⟨e2,_⟩
      ·have hc:=hok.cnt x q' hx
       have hx0:x≠0:=fun e => h.root d s (by rw [hed,e])
       rw [if_neg hx0,e2] at hc
       obtain ⟨u,hu,h2⟩:=linksT_some (n:=x) (T:=unlinkT T path) (by omega)
       obtain ⟨t,ht⟩:=linksIn_some h2
       have hu2:mget (unlinkT T path) u.1=some u.2:=mget_mem hok.nd hu
       have h3:ent (unlinkT T path) u.1 t=some x:=ent_some.2 ⟨u.2,hu2,mget_mem (hok.dnd _ _ hu2) ht⟩
       have h4:=sub _ _ _ h3
       obtain ⟨pu,h5,_⟩:=ent_some.1 h4
       obtain ⟨lu,h6⟩:=h.reach _ _ h5
       have hun:u.1≠x:=fun e => by
        rw [e,hnn] at h3; cases h3
       exact ⟨lu ++ [t],goP_snoc.2 ⟨u.1,shun h6 hun,h3⟩⟩
      ·exact absurd rfl e2
      ·exact absurd rfl e2
     ·rcases hg x q' hx with ⟨e1,_⟩ | ⟨_,e1,e2⟩ | ⟨_,_,e1⟩
      ·exact absurd e1 e
      ·obtain ⟨lx,h2⟩:=h.reach x p (by rw [e1]; exact hp)
       exact ⟨lx,shun h2 e⟩
      ·obtain ⟨lx,h2⟩:=h.reach x q' e1
       exact ⟨lx,shun h2 e⟩
    ·rcases hg x q' hx with ⟨_,e2,_⟩ | ⟨_,_,e2⟩ | ⟨_,_,e1⟩
     ·rw [e2,hq1]; exact h.held n q hq
     ·rw [e2]; exact h.held d p hp
     ·exact h.held x q' e1
    ·have h3:=sub _ _ _ (ent_some.2 ⟨q',hx,mget_mem (hok.dnd x q' hx) he⟩)
     obtain ⟨q2,h4,h5⟩:=ent_some.1 h3
     exact h.sl x q2 h4 _ (mem_of_mget h5)
 ·rw [show unlinkT T path=T from if_neg hz]; exact h
end
section
variable {T T':PT} {n m d e k x:Int} {p p' q q':PN} {s s' t:ByteArray} {l l' r la lb ld le:List ByteArray} {path old:ByteArray} {b:Bool}
theorem preB_iff {a b:ByteArray}:preB a b=true ↔ ∃ r,a=b ++ r:=by
 unfold preB
 simp only [Bool.and_eq_true,decide_eq_true_eq,beq_iff_eq]
 constructor
 ·rintro ⟨h1,h2⟩
  refine ⟨a.extract b.size a.size,?_⟩
  apply bytes_ext
  rw [ByteArray.toList_eq,ByteArray.toList_eq,Go.Lib.extract_data,List.drop_zero,Nat.sub_zero] at h2
  rw [data_app,Go.Lib.extract_data,← h2,List.take_of_length_le (l:=List.drop _ _) (by rw [List.length_drop,← Go.Lib.size_eq]; omega),List.take_append_drop]
 ·rintro ⟨r,rfl⟩
  refine ⟨by rw [ByteArray.size_append]; omega,?_⟩
  rw [ByteArray.toList_eq,ByteArray.toList_eq,Go.Lib.extract_data,List.drop_zero,Nat.sub_zero,data_app,Go.Lib.size_eq,List.take_left']
  rfl
theorem pieces_append:∀ {l:List ByteArray} (r:ByteArray),l≠[]→(∀ s∈l,NoSl s)→piecesOf (joinS l ++ slash ++ r)=l ++ piecesOf r
 | [],r,h,_ => absurd rfl h
 | [x],r,_,h => pieces_cons (h x List.mem_cons_self) r
 | x :: y :: l,r,_,h => by
  show piecesOf (x ++ slash ++ joinS (y :: l) ++ slash ++ r)=_
  have e:x ++ slash ++ joinS (y :: l) ++ slash ++ r=x ++ slash ++ (joinS (y :: l) ++ slash ++ r):=by simp only [ByteArray.append_assoc]
  rw [e,pieces_cons (h x List.mem_cons_self),pieces_append r (by simp) (fun s hs => h s (List.mem_cons_of_mem _ hs))]
  rfl
theorem slash_cancel {a b:ByteArray} (h:slash ++ a=slash ++ b):a=b:=by
 have h1:=congrArg (fun x:ByteArray => x.data.toList) h
 simp only [data_app,slash_data] at h1
 exact bytes_ext (List.append_cancel_left h1)
theorem names_led {a b:ByteArray} (ha:namesOf a=some la) (hb:namesOf b=some lb) (hne:lb≠[]) (h:preB a (b ++ slash)=true):∃ r,r≠[]∧la=lb ++ r:=by
 obtain ⟨r,hr⟩:=preB_iff.1 h
 obtain ⟨h1,h2⟩:=txP_names ha
 obtain ⟨h3,h4⟩:=txP_names hb
 have hla:la≠[]:=fun e => by
  subst e
  rw [h3,txP_ne hne,pth_join hne] at hr
  have h6:a=slash:=h1.trans (if_pos rfl)
  rw [h6] at hr
  have h6:=congrArg ByteArray.size hr
  rw [ByteArray.size_append,ByteArray.size_append,ByteArray.size_append] at h6
  have:slash.size=1:=rfl
  omega
 have h5:joinS la=joinS lb ++ slash ++ r:=by
  apply slash_cancel
  rw [← pth_join hla,← txP_ne hla,← h1,hr,h3,txP_ne hne,pth_join hne]
  simp only [ByteArray.append_assoc]
 refine ⟨piecesOf r,pieces_ne r,?_⟩
 rw [← pieces_append r hne h4,← h5,pieces_join hla h2]
theorem text_led {a b:ByteArray} (ha:namesOf a=some (lb ++ s :: r)) (hb:namesOf b=some lb) (hne:lb≠[]):preB a (b ++ slash)=true:=by
 obtain ⟨h1,_⟩:=txP_names ha
 obtain ⟨h3,_⟩:=txP_names hb
 refine preB_iff.2 ⟨s ++ pth r,?_⟩
 rw [h1,h3,txP_ne (by simp),txP_ne hne,pth_append]
 show pth lb ++ (slash ++ s ++ pth r)=_
 simp only [ByteArray.append_assoc]
structure Moved (T T':PT) (old path:ByteArray) (d:Int) (s:ByteArray) (n e:Int) (s':ByteArray) (ld le:List ByteArray):Prop where
 nold:namesOf old=some (ld ++ [s])
 gd:goP T 0 ld=some d
 dd:isDirT T d=true
 en:ent T d s=some n
 npath:namesOf path=some (le ++ [s'])
 ge:goP T 0 le=some e
 de:isDirT T e=true
 no:ent T e s'=none
 not_in:∀ r,le ++ [s']≠(ld ++ [s]) ++ r
 ents:∀ x t,ent T' x t=if x=e∧t=s' then some n else if x=d∧t=s then none else ent T x t
 back:∀ x q',mget T' x=some q'→∃ q,mget T x=some q∧q.isDir=q'.isDir∧q.held=q'.held
 forth:∀ x q,mget T x=some q→∃ q',mget T' x=some q'∧q'.isDir=q.isDir
 len:T'.length=T.length
theorem One.moved (h:One T) (hz:moveE T old path=0):∃ d s n e s' ld le,Moved T (moveT T old path) old path d s n e s' ld le:=by
 have hz1:=hz
 unfold moveE at hz1
 by_cases h0:(placeT T old).1≠0
 ·rw [if_pos h0] at hz1; exact absurd hz1 h0
 ·rw [if_neg h0] at hz1
  have h0:(placeT T old).1=0:=by simpa using h0
  obtain ⟨ld,hnd,hgd,hdd⟩:=h.placed h0
  obtain ⟨d,hd⟩:∃ d,(placeT T old).2.1=d:=⟨_,rfl⟩
  obtain ⟨s,hs⟩:∃ s,(placeT T old).2.2=s:=⟨_,rfl⟩
  rw [hd] at hgd hdd hz1
  rw [hs] at hnd hz1
  obtain ⟨p,hp,hpd⟩:=isDirT_some hdd
  rw [ds_at hp] at hz1
  cases hm:mget p.ds s with
  | none => rw [hm] at hz1; cases hz1
  | some n =>
   rw [hm] at hz1
   simp only [Option.elim] at hz1
   by_cases h1:(placeT T path).1≠0
   ·rw [if_pos h1] at hz1; exact absurd hz1 h1
   ·rw [if_neg h1] at hz1
    have h1:(placeT T path).1=0:=by simpa using h1
    obtain ⟨le,hne,hge,hde⟩:=h.placed h1
    obtain ⟨e,he⟩:∃ e,(placeT T path).2.1=e:=⟨_,rfl⟩
    obtain ⟨s',hs'⟩:∃ s',(placeT T path).2.2=s':=⟨_,rfl⟩
    rw [he] at hge hde hz1
    rw [hs'] at hne hz1
    obtain ⟨q,hq,hqd⟩:=isDirT_some hde
    rw [ds_at hq] at hz1
    by_cases h2:(mget q.ds s').isSome=true
    ·rw [if_pos h2] at hz1; cases hz1
    ·rw [if_neg h2] at hz1
     have h2:mget q.ds s'=none:=by simpa using h2
     by_cases h3:preB path (old ++ ⟨#[47]⟩)=true
     ·rw [if_pos h3] at hz1; cases hz1
     ·have hen:ent T d s=some n:=by rw [ent_at hp]; exact hm
      have hno:ent T e s'=none:=by rw [ent_at hq]; exact h2
      have hT:moveT T old path=updN (mput T d { p with ds:=mdel p.ds s }) e fun q => { q with ds:=mput q.ds s' n }:=by
       unfold moveT
       rw [if_pos hz,hd,hs,he,hs',ds_at hp,hm,updN_is hp]
       rfl
      obtain ⟨q1,hq1,hq2⟩:∃ q1:PN,mget (mput T d { p with ds:=mdel p.ds s }) e=some q1∧q1=if e=d then { p with ds:=mdel p.ds s } else q:=by
       refine ⟨_,?_,rfl⟩
       rw [mget_mput]
       by_cases c:e=d
       ·rw [if_pos c,if_pos c]
       ·rw [if_neg c,if_neg c]; exact hq
      have hT2:moveT T old path=mput (mput T d { p with ds:=mdel p.ds s }) e { q1 with ds:=mput q1.ds s' n }:=by rw [hT,updN_is hq1]
      have hg:∀ x,mget (moveT T old path) x=if x=e then some { q1 with ds:=mput q1.ds s' n } else if x=d then some { p with ds:=mdel p.ds s } else mget T x:=fun x => by rw [hT2,mget_mput,mget_mput]
      have hq1d:q1.isDir=q.isDir∧q1.held=q.held:=by
       rw [hq2]
       by_cases c:e=d
       ·rw [if_pos c]
        rw [c,hp] at hq
        cases hq
        exact ⟨rfl,rfl⟩
       ·rw [if_neg c]; exact ⟨rfl,rfl⟩
      refine ⟨d,s,n,e,s',ld,le,hnd,hgd,hdd,hen,hne,hge,hde,hno,fun r hr => ?_,fun x t => ?_,fun x q' hx => ?_,fun x q0 hx => ?_,?_⟩
      ·rcases r with _ | ⟨u,r⟩
       ·rw [List.append_nil] at hr
        obtain ⟨e1,e2⟩:=List.append_inj' hr rfl
        rw [e1] at hge
        rw [hgd] at hge
        cases hge
        injection e2 with e3
        rw [e3,hen] at hno
        cases hno
       ·rw [hr] at hne
        exact h3 (text_led hne hnd (by simp))
      ·by_cases c:x=e
       ·subst c
        rw [ent_at (by rw [hg,if_pos rfl])]
        show mget (mput q1.ds s' n) t=_
        rw [mget_mput]
        by_cases c2:t=s'
        ·rw [if_pos c2,if_pos ⟨rfl,c2⟩]
        ·rw [if_neg c2,if_neg (fun h => c2 h.2),hq2]
         by_cases c3:x=d
         ·subst c3
          rw [if_pos rfl]
          show mget (mdel p.ds s) t=_
          rw [mget_mdel]
          by_cases c4:t=s
          ·rw [if_pos c4,if_pos ⟨rfl,c4⟩]
          ·rw [if_neg c4,if_neg (fun h => c4 h.2),ent_at hp]
         ·rw [if_neg c3,if_neg (fun h => c3 h.1),ent_at hq]
       ·rw [if_neg (fun h => c h.1)]
        by_cases c3:x=d
        ·subst c3
         rw [ent_at (by rw [hg,if_neg c,if_pos rfl])]
         show mget (mdel p.ds s) t=_
         rw [mget_mdel]
         by_cases c4:t=s
         ·rw [if_pos c4,if_pos ⟨rfl,c4⟩]
         ·rw [if_neg c4,if_neg (fun h => c4 h.2),ent_at hp]
        ·rw [if_neg (fun h => c3 h.1)]
         unfold ent
         rw [hg,if_neg c,if_neg c3]
      ·rw [hg] at hx
       by_cases c:x=e
       ·rw [if_pos c] at hx
        cases hx
        exact ⟨q,by rw [c]; exact hq,hq1d.1.symm,hq1d.2.symm⟩
       ·rw [if_neg c] at hx
        by_cases c3:x=d
        ·rw [if_pos c3] at hx
         cases hx
         exact ⟨p,by rw [c3]; exact hp,rfl,rfl⟩
        ·rw [if_neg c3] at hx
         exact ⟨q',hx,rfl,rfl⟩
      ·rw [hg]
       by_cases c:x=e
       ·rw [if_pos c]
        refine ⟨_,rfl,?_⟩
        rw [c,hq] at hx
        cases hx
        exact hq1d.1
       ·rw [if_neg c]
        by_cases c3:x=d
        ·rw [if_pos c3]
         refine ⟨_,rfl,?_⟩
         rw [c3,hp] at hx
         cases hx
         rfl
        ·rw [if_neg c3]
         exact ⟨q0,hx,rfl⟩
      ·rw [hT2,mput_length_same hq1,mput_length_same hp]
theorem Moved.shun (hm:Moved T T' old path d s n e s' ld le) {l:List ByteArray} {y:Int} (hg:goP T y l=some x) (ha:∀ l1 l2,l=l1 ++ s :: l2→goP T y l1≠some d):goP T' y l=some x:=by
 refine goP_shun (d:=d) (s:=s) (fun x t m hne hx => ?_) hg ha
 rw [hm.ents]
 by_cases c:x=e∧t=s'
 ·rw [c.1,c.2,hm.no] at hx; cases hx
 ·rw [if_neg c,if_neg hne]; exact hx
section
variable (h:One T) (hm:Moved T T' old path d s n e s' ld le)
include h hm
theorem Moved.d_uniq {l1:List ByteArray} (hg:goP T 0 l1=some d):l1=ld:=by
 obtain ⟨p,hp,hpd⟩:=isDirT_some hm.dd
 exact h.uniq _ (Nat.le_refl _) hp hpd hg hm.gd
theorem Moved.ge':goP T' 0 le=some e:=by
 refine hm.shun hm.ge (fun l1 l2 c h1 => hm.not_in (l2 ++ [s']) ?_)
 rw [c,hm.d_uniq h h1]
 simp
theorem Moved.gd':goP T' 0 ld=some d:=by
 refine hm.shun hm.gd (fun l1 l2 c h1 => ?_)
 rw [hm.d_uniq h h1] at c
 have:=congrArg List.length c
 simp at this
theorem One.move_ (hok:TOk T'):One T':=by
 have hn0:n≠0:=fun c => h.root d s (by rw [hm.en,c])
 refine ⟨hok,fun d1 s1 d2 s2 x q' h1 h2 hx hxd => ?_,fun x t hx => ?_,fun x q' hx => ?_,fun x q' hx => ?_,fun x q' hx u hu => ?_⟩
 ·obtain ⟨q,hq,hqd,_⟩:=hm.back x q' hx
  rw [hm.ents] at h1 h2
  have old1:∀ d1 s1,¬ (d1=e∧s1=s')→(if d1=d∧s1=s then none else ent T d1 s1)=some x→ent T d1 s1=some x∧¬ (d1=d∧s1=s):=fun d1 s1 _ hh => by
   by_cases c:d1=d∧s1=s
   ·rw [if_pos c] at hh; cases hh
   ·rw [if_neg c] at hh; exact ⟨hh,c⟩
  by_cases c1:d1=e∧s1=s'
  ·rw [if_pos c1] at h1
   have hxn:n=x:=Option.some.inj h1
   by_cases c2:d2=e∧s2=s'
   ·exact ⟨c1.1.trans c2.1.symm,c1.2.trans c2.2.symm⟩
   ·rw [if_neg c2] at h2
    obtain ⟨h3,h4⟩:=old1 d2 s2 c2 h2
    exact absurd (h.par d2 s2 d s x q h3 (by rw [← hxn]; exact hm.en) hq (by rw [hqd]; exact hxd)) h4
  ·rw [if_neg c1] at h1
   obtain ⟨h3,h4⟩:=old1 d1 s1 c1 h1
   by_cases c2:d2=e∧s2=s'
   ·rw [if_pos c2] at h2
    have hxn:n=x:=Option.some.inj h2
    exact absurd (h.par d1 s1 d s x q h3 (by rw [← hxn]; exact hm.en) hq (by rw [hqd]; exact hxd)) h4
   ·rw [if_neg c2] at h2
    obtain ⟨h5,h6⟩:=old1 d2 s2 c2 h2
    exact h.par d1 s1 d2 s2 x q h3 h5 hq (by rw [hqd]; exact hxd)
 ·rw [hm.ents] at hx
  by_cases c:x=e∧t=s'
  ·rw [if_pos c] at hx; exact hn0 (Option.some.inj hx)
  ·rw [if_neg c] at hx
   split at hx
   ·cases hx
   ·exact h.root x t hx
 ·obtain ⟨q,hq,_⟩:=hm.back x q' hx
  obtain ⟨l,hl⟩:=h.reach x q hq
  by_cases ha:∀ l1 l2,l=l1 ++ s :: l2→goP T 0 l1≠some d
  ·exact ⟨l,hm.shun hl ha⟩
  ·simp only [Classical.not_forall,Classical.not_not] at ha
   obtain ⟨l1,l2,c,h1⟩:=ha
   have hl2:goP T n l2=some x:=by
    rw [c] at hl
    obtain ⟨d',h3,h4⟩:=goP_split.1 hl
    rw [h1] at h3
    cases h3
    have h4:(ent T d s).bind (fun m => goP T m l2)=some x:=h4
    rw [hm.en] at h4
    exact h4
   have hl2':goP T' n l2=some x:=by
    refine hm.shun hl2 (fun l3 l4 c2 h3 => ?_)
    have h5:goP T 0 (ld ++ s :: l3)=some d:=by
     refine goP_split.2 ⟨d,hm.gd,?_⟩
     show (ent T d s).bind (fun m => goP T m l3)=some d
     rw [hm.en]
     exact h3
    have:=congrArg List.length (hm.d_uniq h h5)
    simp at this
   refine ⟨le ++ s' :: l2,goP_split.2 ⟨e,hm.ge' h,?_⟩⟩
   show (ent T' e s').bind (fun m => goP T' m l2)=some x
   rw [hm.ents,if_pos ⟨rfl,rfl⟩]
   exact hl2'
 ·obtain ⟨q,hq,_,hh⟩:=hm.back x q' hx
  rw [← hh]; exact h.held x q hq
 ·have h3:ent T' x u.1=some u.2:=ent_some.2 ⟨q',hx,mget_mem (hok.dnd x q' hx) hu⟩
  rw [hm.ents] at h3
  by_cases c:x=e∧u.1=s'
  ·rw [c.2]; exact nosl_place hm.npath
  ·rw [if_neg c] at h3
   split at h3
   ·cases h3
   ·obtain ⟨q2,h4,h5⟩:=ent_some.1 h3
    exact h.sl x q2 h4 _ (mem_of_mget h5)
end
theorem placed_at (hok:TOk T) (hn:namesOf path=some (l ++ [s])) (hg:goP T 0 l=some d) (hd:isDirT T d=true):placeT T path=(0,d,s):=by
 obtain ⟨p0,h0,_⟩:=hok.root
 have hw:walkT T 0 (l ++ [s]).dropLast=(0,d):=by rw [List.dropLast_concat]; exact (hok.walk h0).2 hg
 rw [placeT_dir hn (by simp) hw hd]
 simp
theorem Moved.again (h:One T) (hm:Moved T T' old path d s n e s' ld le) (h1:One T'):moveE T' path old=0∧∀ T2,T2=moveT T' path old→One T2→(∀ x t,ent T2 x t=ent T x t)∧T2.length=T.length:=by
 have de':isDirT T' e=true:=by
  obtain ⟨q,hq,hqd⟩:=isDirT_some hm.de
  obtain ⟨q',hq',hqd'⟩:=hm.forth e q hq
  unfold isDirT; rw [hq']; exact hqd'.trans hqd
 have dd':isDirT T' d=true:=by
  obtain ⟨q,hq,hqd⟩:=isDirT_some hm.dd
  obtain ⟨q',hq',hqd'⟩:=hm.forth d q hq
  unfold isDirT; rw [hq']; exact hqd'.trans hqd
 have p1:=placed_at h1.ok hm.npath (hm.ge' h) de'
 have p2:=placed_at h1.ok hm.nold (hm.gd' h) dd'
 have hds:¬ (d=e∧s=s'):=fun c => by
  have:=hm.no
  rw [← c.1,← c.2,hm.en] at this
  cases this
 have e1:mget (dsT T' e) s'=some n:=by
  rw [dsT_dsO,← ent_ds,hm.ents,if_pos ⟨rfl,rfl⟩]
 have e2:mget (dsT T' d) s=none:=by
  rw [dsT_dsO,← ent_ds,hm.ents,if_neg hds,if_pos ⟨rfl,rfl⟩]
 have e3:preB old (path ++ ⟨#[47]⟩)=false:=by
  cases hb:preB old (path ++ ⟨#[47]⟩) with
  | false => rfl
  | true =>
   exfalso
   obtain ⟨r,hr,hr2⟩:=names_led hm.nold hm.npath (by simp) hb
   obtain ⟨r1,u,rfl⟩:=(List.eq_nil_or_concat r).resolve_left hr
   rw [List.concat_eq_append,← List.append_assoc] at hr2
   obtain ⟨h3,_⟩:=List.append_inj' hr2 rfl
   have h4:=hm.gd
   rw [h3,List.append_assoc] at h4
   obtain ⟨e',h5,h6⟩:=goP_split.1 h4
   rw [hm.ge] at h5
   cases h5
   have h6:(ent T e s').bind (fun m => goP T m r1)=some d:=h6
   rw [hm.no] at h6
   cases h6
 have hz:moveE T' path old=0:=by
  unfold moveE
  rw [p1,p2]
  simp only
  rw [e1,e2]
  simp only [Option.elim]
  rw [if_neg (by simp),if_neg (by simp),if_neg (by simp),e3]
  rfl
 refine ⟨hz,fun T2 hT2 hone => ?_⟩
 obtain ⟨d2,s2,n2,e4,s4,ld2,le2,hm2⟩:=h1.moved hz
 rw [← hT2] at hm2
 have hp1:=hm2.nold
 rw [hm.npath] at hp1
 obtain ⟨a1,a2⟩:=List.append_inj' (Option.some.inj hp1) rfl
 have hp2:=hm2.npath
 rw [hm.nold] at hp2
 obtain ⟨a3,a4⟩:=List.append_inj' (Option.some.inj hp2) rfl
 injection a2 with a2
 injection a4 with a4
 have a5:=hm2.gd
 rw [← a1,hm.ge' h] at a5
 have a5:=Option.some.inj a5
 have a6:=hm2.ge
 rw [← a3,hm.gd' h] at a6
 have a6:=Option.some.inj a6
 have a7:=hm2.en
 rw [← a5,← a2,hm.ents,if_pos ⟨rfl,rfl⟩] at a7
 have a7:=Option.some.inj a7
 refine ⟨fun x t => ?_,hm2.len.trans hm.len⟩
 rw [hm2.ents,← a6,← a4,← a5,← a2,← a7]
 by_cases c:x=d∧t=s
 ·rw [if_pos c,c.1,c.2,hm.en]
 ·rw [if_neg c]
  by_cases c2:x=e∧t=s'
  ·rw [if_pos c2,c2.1,c2.2,hm.no]
  ·rw [if_neg c2,hm.ents,if_neg c2,if_neg c]
theorem allP_same (h:One T) (h':One T') (he:∀ x t,ent T' x t=ent T x t) (hl:T'.length=T.length):allP T'=allP T:=by
 unfold allP
 rw [hl]
 exact pre_congr (fun n => sortedNs_same (h'.dsn n) (h.dsn n) (fun s => by rw [← ent_ds,← ent_ds]; exact he n s)) he _ _ _
end
section
open Go.RowKit Go.Lib
def numB (n:Int):ByteArray:=⟨(itoa n).toArray⟩
def eqS:ByteArray:=⟨#[61]⟩
def errS:ByteArray:=⟨#[101,114,114,111,114]⟩
def txN (x:List ByteArray×Int):ByteArray:=txP x.1 ++ eqS ++ numB x.2
section
variable {T T':PT} {n m:Int} {x y:List ByteArray×Int}
def litD (i:Nat):List UInt8:=if i < 10 then [UInt8.ofNat (48+i)] else [UInt8.ofNat (48+i / 10),UInt8.ofNat (48+i % 10)]
theorem itoa_lit {i:Nat} (hi:i < 100):itoa (i:Int)=litD i:=by
 rw [itoa_nonneg]
 unfold litD
 by_cases h:i < 10
 ·rw [if_pos h,decDigits_one h]
 ·rw [if_neg h,decDigits_two h hi]
theorem all_below60 {p:Nat→Bool} (h:(List.range 60).all p=true) {i:Nat} (hi:i < 60):p i=true:=List.all_eq_true.1 h i (List.mem_range.2 hi)
theorem lit_no {i:Nat} (hi:i < 60):(61:UInt8) ∉ litD i:=by
 have h:(List.range 60).all (fun i => decide ((61:UInt8) ∉ litD i))=true:=by decide +kernel
 exact of_decide_eq_true (all_below60 h hi)
theorem lit_inj {i j:Nat} (hi:i < 60) (hj:j < 60) (e:litD i=litD j):i=j:=by
 have h:(List.range 60).all (fun i => (List.range 60).all fun j => decide (litD i=litD j→i=j))=true:=by decide +kernel
 exact of_decide_eq_true (all_below60 (all_below60 h hi) hj) e
theorem lit_len (i:Nat):(litD i).length≤2:=by
 unfold litD
 split <;> simp
theorem numB_data (n:Int):(numB n).data.toList=itoa n:=rfl
theorem numB_no (h:0≤n∧n < 60):(61:UInt8) ∉ (numB n).data.toList:=by
 obtain ⟨i,rfl⟩:∃ i:Nat,n=i:=⟨n.toNat,by omega⟩
 rw [numB_data,itoa_lit (by omega)]
 exact lit_no (by omega)
theorem numB_inj (h:0≤n∧n < 60) (h':0≤m∧m < 60) (e:numB n=numB m):n=m:=by
 obtain ⟨i,rfl⟩:∃ i:Nat,n=i:=⟨n.toNat,by omega⟩
 obtain ⟨j,rfl⟩:∃ j:Nat,m=j:=⟨m.toNat,by omega⟩
 have e1:=congrArg (fun x:ByteArray => x.data.toList) e
 simp only [numB_data] at e1
 rw [itoa_lit (by omega),itoa_lit (by omega)] at e1
 rw [lit_inj (by omega) (by omega) e1]
theorem numB_size (h:0≤n∧n < 60):(numB n).size≤2:=by
 obtain ⟨i,rfl⟩:∃ i:Nat,n=i:=⟨n.toNat,by omega⟩
 rw [size_eq,numB_data,itoa_lit (by omega)]
 exact lit_len i
theorem txN_data (x:List ByteArray×Int):(txN x).data.toList=(txP x.1).data.toList ++ 61 :: (numB x.2).data.toList:=by
 unfold txN
 rw [data_app,data_app]
 simp [eqS]
theorem occ_eq {a:List UInt8} {i:Nat}:occAt a [61] i=true ↔ a[i]?=some 61:=by
 constructor
 ·exact fun h => occAt_head rfl h
 ·intro h
  unfold occAt
  obtain ⟨hi,hv⟩:=List.getElem?_eq_some_iff.1 h
  rw [List.drop_eq_getElem_cons hi,hv]
  rfl
theorem txN_size (x:List ByteArray×Int):(txN x).size=(txP x.1).size+1+(numB x.2).size:=by
 unfold txN
 rw [ByteArray.size_append,ByteArray.size_append]; rfl
theorem txN_last (h:0≤x.2∧x.2 < 60):lastIndex (txN x).data.toList [61]=((txP x.1).size:Nat):=by
 have hat:(txN x).data.toList[(txP x.1).size]?=some 61:=by
  rw [txN_data,size_eq,List.getElem?_append_right (Nat.le_refl _),Nat.sub_self]; rfl
 have hlen:(txN x).data.toList.length=(txP x.1).size+1+(numB x.2).size:=by rw [← size_eq,txN_size]
 unfold lastIndex
 rw [if_pos (by rw [hlen]; simp; omega)]
 have hk:(txN x).data.toList.length - [(61:UInt8)].length+1=(txP x.1).size+1+(numB x.2).size:=by rw [hlen]; simp; omega
 rw [hk]
 rcases lastOcc_spec (txN x).data.toList [61] ((txP x.1).size+1+(numB x.2).size) with ⟨_,h2⟩ | ⟨i,h1,h2,h3,h4⟩
 ·have:=h2 (txP x.1).size (by omega)
  rw [occ_eq.2 hat] at this
  cases this
 ·rw [h2]
  congr 1
  rcases Nat.lt_trichotomy i (txP x.1).size with c | c | c
  ·have:=h4 (txP x.1).size c (by omega)
   rw [occ_eq.2 hat] at this
   cases this
  ·exact c
  ·exfalso
   have h5:=occ_eq.1 h3
   rw [txN_data,List.getElem?_append_right (by rw [← size_eq]; omega)] at h5
   cases hd:i - (txP x.1).data.toList.length with
   | zero => rw [← size_eq] at hd; omega
   | succ j =>
    rw [hd,List.getElem?_cons_succ] at h5
    exact numB_no h (List.mem_of_getElem? h5)
theorem txN_path (x:List ByteArray×Int):(txN x).extract 0 (txP x.1).size=txP x.1:=by
 apply bytes_ext
 rw [extract_data,txN_data,List.drop_zero,Nat.sub_zero,size_eq,List.take_left']
 rfl
theorem txN_num (x:List ByteArray×Int):(txN x).extract ((txP x.1).size+1) (txN x).size=numB x.2:=by
 apply bytes_ext
 rw [extract_data,txN_size,txN_data,size_eq (txP x.1)]
 rw [show (txP x.1).data.toList.length+1=((txP x.1).data.toList ++ [61]).length from by simp,show (txP x.1).data.toList ++ 61 :: (numB x.2).data.toList=((txP x.1).data.toList ++ [61]) ++ (numB x.2).data.toList from by simp,List.drop_left',List.take_of_length_le]
 ·rw [← size_eq]; simp
 ·rfl
theorem txP_head (l:List ByteArray):∃ r,(txP l).data.toList=47 :: r:=by
 cases l with
 | nil => exact ⟨[],rfl⟩
 | cons s l =>
  rw [txP_ne (by simp)]
  show ∃ r,(slash ++ s ++ pth l).data.toList=47 :: r
  exact ⟨s.data.toList ++ (pth l).data.toList,by rw [data_app,data_app,slash_data]; simp⟩
theorem txN_err (x:List ByteArray×Int):txN x≠errS:=fun h => by
 have h1:=congrArg (fun x:ByteArray => x.data.toList) h
 simp only [txN_data] at h1
 obtain ⟨r,hr⟩:=txP_head x.1
 rw [hr] at h1
 cases h1
theorem One.nums (h:One T) (hx:x∈allP T):0≤x.2∧x.2 < 60:=by
 obtain ⟨p,hp⟩:=h.node_there.1 ⟨x,hx,rfl⟩
 exact h.ok.keys _ _ hp
theorem pth_size:∀ {l:List ByteArray},(∀ s∈l,okName s=true)→(pth l).size≤13 * l.length
 | [],_ => Nat.zero_le _
 | s :: l,h => by
  have h1:=pth_size (l:=l) (fun s hs => h s (List.mem_cons_of_mem _ hs))
  have h2:=(ok_size (h s List.mem_cons_self)).2
  show (slash ++ s ++ pth l).size≤_
  rw [ByteArray.size_append,ByteArray.size_append,List.length_cons,show slash.size=1 from rfl]
  omega
theorem txP_size {l:List ByteArray} (h:∀ s∈l,okName s=true) (hl:l.length≤60):(txP l).size≤1000:=by
 by_cases e:l=[]
 ·rw [e]; decide
 ·rw [txP_ne e]
  have:=pth_size h
  omega
end
end
structure TreeLaw (W w:World) (tb:Nat) (T:PT):Prop where
 tree:∃ F,TreeIs w tb T F∧∀ k,F k→W.heap.size≤k
 turn:Turn (fun _ => False) W w
section
variable {W w w' w1 w2:World} {tb:Nat} {T T':PT} {n:Int} {F:Nat→Prop}
theorem TreeLaw.ok (h:TreeLaw W w tb T):TOk T:=by obtain ⟨F,h1,_⟩:=h.tree; exact h1.ok
theorem TreeLaw.still (h:TreeLaw W w tb T) (t:Turn (fun _ => False) w w'):TreeLaw W w' tb T:=by
 obtain ⟨F,h1,h2⟩:=h.tree
 exact ⟨⟨F,h1.turned t (fun _ _ => id),h2⟩,h.turn.trans t⟩
theorem TreeLaw.next (h1:Turn (fun _ => False) W w) (h2:∀ k,F k→W.heap.size≤k) (ht:TreeTo tb F w w' T'):TreeLaw W w' tb T':=by
 obtain ⟨F',a,b,c⟩:=ht
 refine ⟨⟨F',a,fun k hk => ?_⟩,h1.trans' b (fun k hk hf => by have:=h2 k hf; omega)⟩
 rcases c k hk with h3 | h3
 ·exact h2 k h3
 ·exact Nat.le_trans h1.size h3
theorem law_new (w:World):Calls Tryd.prog 5 #[] w fun e w' => ∃ tb,e=.returned (.pointer (some ⟨tb,0,none⟩))∧TreeLaw w w' tb rootT:=by
 refine (treeNew_is w).mono ?_
 rintro e w' ⟨tb,F,rfl,h,t,hf⟩
 exact ⟨tb,rfl,⟨⟨F,h,hf⟩,t⟩⟩
theorem law_create (h:TreeLaw W w tb T) (path:ByteArray) (hs:path.size < 4294967281) :
  Calls Tryd.prog 15 #[.pointer (some ⟨tb,0,none⟩),.string path] w fun e w' => e=.returned (.tuple #[.int .i64 (makeK T path),TErr (makeE T path)])∧TreeLaw W w' tb (makeT T path false):=by
 obtain ⟨F,h1,h2⟩:=h.tree
 exact (create_is h1 path hs).mono fun e w' x => ⟨x.1,TreeLaw.next h.turn h2 x.2⟩
theorem law_mkdir (h:TreeLaw W w tb T) (path:ByteArray) (hs:path.size < 4294967281) :
  Calls Tryd.prog 14 #[.pointer (some ⟨tb,0,none⟩),.string path] w fun e w' => e=.returned (.tuple #[.int .i64 (makeK T path),TErr (makeE T path)])∧TreeLaw W w' tb (makeT T path true):=by
 obtain ⟨F,h1,h2⟩:=h.tree
 exact (mkdir_is h1 path hs).mono fun e w' x => ⟨x.1,TreeLaw.next h.turn h2 x.2⟩
theorem law_nodes (h:TreeLaw W w tb T):Calls Tryd.prog 12 #[.pointer (some ⟨tb,0,none⟩)] w fun e w' => e=.returned (.int .i64 (T.length:Int))∧w'=w:=by
 obtain ⟨F,h1,h2⟩:=h.tree
 exact nodes_is h1
theorem law_list (h:TreeLaw W w tb T) (path:ByteArray) (hs:path.size < 4294967281) (hb:∀ n p,mget T n=some p→p.ds.length≤1000000) :
  Calls Tryd.prog 11 #[.pointer (some ⟨tb,0,none⟩),.string path] w fun e w' => ∃ a cap,e=.returned (.tuple #[.slice a (listT T path).length cap,TErr (listE T path)])∧StrsIn w' a (listT T path)∧TreeLaw W w' tb T:=by
 obtain ⟨F,h1,h2⟩:=h.tree
 refine (list_is h1 path hs hb).mono ?_
 rintro e w' ⟨v,rfl,hrow,t,_⟩
 obtain ⟨a,cap,rfl,hl,_⟩:=hrow.strs
 exact ⟨a,cap,rfl,hl,h.still t⟩
end
section
variable {W w w' w1:World} {tb:Nat} {T T':PT} {s x:ByteArray} {l:List ByteArray}
theorem suffix_yes (w:World):Calls Tryd.prog 42 #[.string slash,.string slash] w fun e w' => e=.returned (.bool true)∧w'=w:=by
 have hb:((slash.extract 0 1).toList == slash.toList)=true:=by decide +kernel
 have hz:slash.size=1:=rfl
 go_enter Tryd.func42,Tryd.ntmps42
 go_wp2_with fail
 go_returns
 exact ⟨rfl,rfl⟩
theorem suffix_no (h1:1≤s.size) (h2:s.size≤100000) (h:((s.extract (s.size - 1) s.size).toList == [47])=false) (w:World):Calls Tryd.prog 42 #[.string s,.string slash] w fun e w' => e=.returned (.bool false)∧w'=w:=by
 have hz:slash.size=1:=rfl
 have hl:slash.toList=[47]:=by decide +kernel
 obtain ⟨z,hs⟩:∃ z,s.size=z:=⟨_,rfl⟩
 have hq:((z:Int) - 1).toNat=z - 1:=by omega
 have h1':(1:Int)≤z:=by omega
 have hw:wrap64 ((z:Int) - 1)=(z:Int) - 1:=IntWalk.wrap64_in _ (by omega)
 rw [hs] at h
 go_enter Tryd.func42,Tryd.ntmps42
 go_wp2_with fail
 go_returns
 exact ⟨rfl,rfl⟩
theorem sltrim_yes (w:World):Calls Tryd.prog 32 #[.string slash,.string slash] w fun e w' => e=.returned (.string ByteArray.empty)∧w'=w:=by
 have hz:slash.size=1:=rfl
 go_enter Tryd.func32,Tryd.ntmps32
 go_wp2_with fail
 refine (suffix_yes w).mono ?_
 rintro e w1 ⟨rfl,hw⟩; subst w1
 go_wp2_with fail
 go_returns
 exact ⟨rfl,rfl⟩
theorem sltrim_no (h1:1≤s.size) (h2:s.size≤100000) (h:((s.extract (s.size - 1) s.size).toList == [47])=false) (w:World):Calls Tryd.prog 32 #[.string s,.string slash] w fun e w' => e=.returned (.string s)∧w'=w:=by
 have HS:=hid (suffix_no h1 h2 h)
 clear h1 h h2
 go_enter Tryd.func32,Tryd.ntmps32
 go_wp2_with fail
 refine (HS.out w).mono ?_
 rintro e w1 ⟨rfl,hw⟩; subst w1
 go_wp2_with fail
 go_returns
 exact ⟨rfl,rfl⟩
theorem trim_is (hz:(txP l).size≤1000) (ho:∀ s∈l,okName s=true) (hn:∀ s∈l,NoSl s) (w:World):Calls Tryd.prog 18 #[.string (txP l),.string slash] w fun e w' => e=.returned (.string (pth l))∧w'=w:=by
 have HT:Hid (Calls Tryd.prog 32 #[.string (txP l),.string slash] w fun e w' => e=.returned (.string (pth l))∧w'=w):=hid (by
  by_cases e:l=[]
  ·subst e
   exact sltrim_yes w
  ·obtain ⟨h1,h2⟩:=pth_last e ho hn
   rw [txP_ne e] at hz ⊢
   exact sltrim_no h1 (by omega) h2 w)
 clear ho hn hz
 go_enter Tryd.func18,Tryd.ntmps18
 go_wp2_with fail
 refine HT.out.mono ?_
 rintro e w1 ⟨rfl,hw⟩; subst w1
 go_wp2_with fail
 go_returns
 exact ⟨rfl,rfl⟩
theorem equal_same (l:List ByteArray) (a a2:Option Addr) (cap cap2:Nat) (hl:l.length≤1000000) (h1:StrsIn w a l) (h2:StrsIn w a2 l) :
  Calls Tryd.prog 8 #[.slice a l.length cap,.slice a2 l.length cap2] w fun e w' => e=.returned (.bool true)∧Turn (fun _ => False) w w':=by
 have H1:=hid h1
 have H2:=hid h2
 have hne:((l.length:Int) != l.length)=false:=by simp
 clear h1 h2
 go_enter Tryd.func8,Tryd.ntmps8
 go_wp2_with fail
 go_loopg [13] (l.length) (fun gl i wr => ∃ j:Nat,j+gl=l.length∧i=.int .i64 j∧Hid (Turn (fun _ => False) w wr))
 case atStart => exact ⟨0,by omega,rfl,hid (Turn.refl _ _)⟩
 case round =>
  obtain ⟨j,hj,rfl,hT⟩:=hrel
  by_cases hlt:j < l.length
  ·have hlt':(j:Int) < l.length:=by omega
   have h0:(0:Int)≤(j:Int):=by omega
   obtain ⟨s,hs⟩:∃ t,l[j]?=some t:=⟨_,List.getElem?_eq_getElem hlt⟩
   obtain ⟨g,o1,rfl,hg,hb⟩:=H1.out.resolve_left (by rintro rfl; simp at hlt)
   obtain ⟨g2,o2,rfl,hg2,hb2⟩:=H2.out.resolve_left (by rintro rfl; simp at hlt)
   have c0:=(hT.out.cell (a:=⟨g,o1+j,none⟩) hg id).trans (hb j s hs)
   have k0:=(hT.out.cell (a:=⟨g2,o2+j,none⟩) hg2 id).trans (hb2 j s hs)
   clear hb hb2 hs
   go_wp2_with fail
   go_quiet (fail)
   go_wp2_with fail
   go_roundg (gk - 1)
   case measure => omega
   case rel => exact ⟨j+1,by omega,by go_num,hid (hT.out.drewN _)⟩
  ·have hlt':¬ (j:Int) < l.length:=by omega
   go_wp2_with fail
   go_returns
   exact ⟨rfl,hT.out⟩
theorem index_none_s (l:List ByteArray) (a:Option Addr) (cap:Nat) (hl:l.length≤1000000) (h1:StrsIn w a l) (hx:∀ s∈l,(x.toList == s.toList)=false) :
  Calls Tryd.prog 21 #[.slice a l.length cap,.string x] w fun e w' => e=.returned (.int .i64 (-1))∧Turn (fun _ => False) w w':=by
 have H1:=hid h1
 have HX:=hid hx
 clear h1 hx
 go_enter Tryd.func21,Tryd.ntmps21
 go_wp2_with fail
 go_loopg [8] (l.length) (fun gl i wr => ∃ j:Nat,j+gl=l.length∧i=.int .i64 j∧Hid (Turn (fun _ => False) w wr))
 case atStart => exact ⟨0,by omega,rfl,hid (Turn.refl _ _)⟩
 case round =>
  obtain ⟨j,hj,rfl,hT⟩:=hrel
  by_cases hlt:j < l.length
  ·have hlt':(j:Int) < l.length:=by omega
   have h0:(0:Int)≤(j:Int):=by omega
   obtain ⟨s,hs⟩:∃ t,l[j]?=some t:=⟨_,List.getElem?_eq_getElem hlt⟩
   obtain ⟨g,o1,rfl,hg,hb⟩:=H1.out.resolve_left (by rintro rfl; simp at hlt)
   have c0:=(hT.out.cell (a:=⟨g,o1+j,none⟩) hg id).trans (hb j s hs)
   have hb2:=HX.out s (List.mem_of_getElem? hs)
   clear hb hs
   go_wp2_with fail
   go_roundg (gk - 1)
   case measure => omega
   case rel => exact ⟨j+1,by omega,by go_num,hT⟩
  ·have hlt':¬ (j:Int) < l.length:=by omega
   go_wp2_with fail
   go_returns
   exact ⟨rfl,hT.out⟩
theorem contains_no (l:List ByteArray) (a:Option Addr) (cap:Nat) (hl:l.length≤1000000) (h1:StrsIn w a l) (hx:∀ s∈l,(x.toList == s.toList)=false) :
  Calls Tryd.prog 9 #[.slice a l.length cap,.string x] w fun e w' => e=.returned (.bool false)∧Turn (fun _ => False) w w':=by
 have HI:=hid (index_none_s l a cap hl h1 hx)
 clear h1 hx
 go_enter Tryd.func9,Tryd.ntmps9
 go_wp2_with fail
 refine HI.out.mono ?_
 rintro e w1 ⟨rfl,t⟩
 have HT:=hid t
 clear t
 go_wp2_with fail
 go_returns
 exact ⟨rfl,HT.out⟩
end
structure TreeRow (W w:World) (tb:Nat) (T:PT) (v:Value) (xs:List Value):Prop where
 tree:∃ F,TreeIs w tb T F∧(∀ k,F k→W.heap.size≤k)∧∀ g,v.ownBlock=some g→¬ F g∧W.heap.size≤g
 row:RowV w 9 v xs
 turn:Turn (fun _ => False) W w
section
variable {W w w' w1 w2:World} {tb g cap:Nat} {T T':PT} {n:Int} {F:Nat→Prop} {v v':Value} {xs ys:List Value}
theorem TreeRow.law (h:TreeRow W w tb T v xs):TreeLaw W w tb T:=by
 obtain ⟨F,h1,h2,_⟩:=h.tree
 exact ⟨⟨F,h1,h2⟩,h.turn⟩
theorem TreeRow.still (h:TreeRow W w tb T v xs) (t:Turn (fun _ => False) w w'):TreeRow W w' tb T v xs:=by
 obtain ⟨F,h1,h2,h3⟩:=h.tree
 exact ⟨⟨F,h1.turned t (fun _ _ => id),h2,h3⟩,h.row.turned t (fun _ _ => id),h.turn.trans t⟩
theorem TreeRow.app (h:TreeRow W w tb T v xs) (hr:RowV w' 9 (.slice (some ⟨g,0,none⟩) ys.length cap) ys) (t:Turn (fun j => v.ownBlock=some j) w w') (hg:v.ownBlock=some g∨w.heap.size≤g):TreeRow W w' tb T (.slice (some ⟨g,0,none⟩) ys.length cap) ys:=by
 obtain ⟨F,h1,h2,h3⟩:=h.tree
 refine ⟨⟨F,h1.turned t (fun k hk e => (h3 k e).1 hk),h2,fun g' hg' => ?_⟩,hr,h.turn.trans' t (fun k hk e => by have:=(h3 k e).2; omega)⟩
 cases hg'
 rcases hg with hg | hg
 ·exact h3 _ hg
 ·exact ⟨fun hf => by have:=h1.foot_lt _ hf; simp only at this; omega,Nat.le_trans h.turn.size hg⟩
theorem TreeRow.to {F:Nat→Prop} (hrow:RowV w 9 v xs) (ht:Turn (fun _ => False) W w) (h2:∀ k,F k→W.heap.size≤k) (h3:∀ g,v.ownBlock=some g→¬ F g∧W.heap.size≤g) (hto:TreeTo tb F w w' T'):TreeRow W w' tb T' v xs:=by
 obtain ⟨F',a,b,c⟩:=hto
 refine ⟨⟨F',a,fun k hk => ?_,fun g hg => ⟨fun hf => ?_,(h3 g hg).2⟩⟩,hrow.turned b (fun g hg hf => (h3 g hg).1 hf),ht.trans' b (fun k hk hf => by have:=h2 k hf; omega)⟩
 ·rcases c k hk with h4 | h4
  ·exact h2 k h4
  ·exact Nat.le_trans ht.size h4
 ·rcases c g hf with h4 | h4
  ·exact (h3 g hg).1 h4
  ·have:=hrow.own_lt g hg; omega
end
structure TOne (W w:World) (tb:Nat) (T:PT) (k:Nat):Prop where
 law:TreeLaw W w tb T
 one:One T
 bnd:TBnd T k
structure TRow (W w:World) (tb:Nat) (T:PT) (k:Nat) (v:Value) (xs:List Value):Prop where
 law:TreeRow W w tb T v xs
 one:One T
 bnd:TBnd T k
def nmE (T:PT) (z:Int) (s t:ByteArray):Int:=if z=0 then makeE T s else if z=1 then makeE T s else if z=2 then linkE T s t else if z=3 then unlinkE T s else if z=4 then moveE T s t else 0
def nmT (T:PT) (z:Int) (s t:ByteArray):PT:=if z=0 then makeT T s true else if z=1 then makeT T s false else if z=2 then linkT T s t else if z=3 then unlinkT T s else if z=4 then moveT T s t else T
section
variable {W w w' w1:World} {tb k:Nat} {T T':PT} {s t:ByteArray} {l:List ByteArray} {z:Int} {v v':Value} {xs xs':List Value}
theorem TOne.still (h:TOne W w tb T k) (tt:Turn (fun _ => False) w w'):TOne W w' tb T k:=⟨h.law.still tt,h.one,h.bnd⟩
theorem TOne.mono (h:TOne W w tb T k) {k':Nat} (hk:k≤k'):TOne W w tb T k':=⟨h.law,h.one,h.bnd.mono hk⟩
theorem nmE_err (h:nmE T z s t≠0):nmT T z s t=T:=by
 unfold nmE at h
 unfold nmT
 by_cases h0:z=0
 ·rw [if_pos h0] at h ⊢; exact if_neg h
 ·rw [if_neg h0] at h ⊢
  by_cases h1:z=1
  ·rw [if_pos h1] at h ⊢; exact if_neg h
  ·rw [if_neg h1] at h ⊢
   by_cases h2:z=2
   ·rw [if_pos h2] at h ⊢; exact if_neg h
   ·rw [if_neg h2] at h ⊢
    by_cases h3:z=3
    ·rw [if_pos h3] at h ⊢; exact if_neg h
    ·rw [if_neg h3] at h ⊢
     by_cases h4:z=4
     ·rw [if_pos h4] at h ⊢; exact if_neg h
     ·rw [if_neg h4]
theorem move_one (h:One T) (hok:TOk (moveT T s t)):One (moveT T s t):=by
 by_cases hz:moveE T s t=0
 ·obtain ⟨d,u,n,e,u',ld,le,hm⟩:=h.moved hz
  exact h.move_ hm hok
 ·rw [show moveT T s t=T from if_neg hz]; exact h
theorem TRow.toOne (h:TRow W w tb T k v xs):TOne W w tb T k:=⟨h.law.law,h.one,h.bnd⟩
theorem TRow.still (h:TRow W w tb T k v xs) (tt:Turn (fun _ => False) w w'):TRow W w' tb T k v xs:=⟨h.law.still tt,h.one,h.bnd⟩
theorem TRow.mono (h:TRow W w tb T k v xs) {k':Nat} (hk:k≤k'):TRow W w tb T k' v xs:=⟨h.law,h.one,h.bnd.mono hk⟩
theorem TOne.beside (h:TOne W w tb T k) (hr:RowV w' 9 v xs) (tt:Turn (fun _ => False) w w') (hf:∀ g,v.ownBlock=some g→w.heap.size≤g):TRow W w' tb T k v xs:=by
 obtain ⟨F,h1,h2⟩:=h.law.tree
 exact ⟨⟨⟨F,h1.turned tt (fun _ _ => id),h2,fun g hg => ⟨fun hF => by have h3:=h1.foot_lt _ hF; have h4:=hf g hg; (try simp only at h3); omega,Nat.le_trans h.law.turn.size (hf g hg)⟩⟩,hr,h.law.turn.trans tt⟩,h.one,h.bnd⟩
theorem TRow.to (h:TRow W w tb T k v xs) {k':Nat} {F:Nat→Prop} (h2:∀ k,F k→W.heap.size≤k) (h3:∀ g,v.ownBlock=some g→¬ F g∧W.heap.size≤g) (hto:TreeTo tb F w w' T') (ho:TOk T'→One T') (hb:TBnd T' k'):TRow W w' tb T' k' v xs:=by
 have r:=TreeRow.to h.law.row h.law.turn h2 h3 hto
 exact ⟨r,ho r.law.ok,hb⟩
theorem one_mkdir (h:TRow W w tb T k v xs) (hk:1≤k) (hs:s.size≤60) :
  Calls Tryd.prog 14 #[.pointer (some ⟨tb,0,none⟩),.string s] w fun e w' => e=.returned (.tuple #[.int .i64 (makeK T s),TErr (makeE T s)])∧TRow W w' tb (makeT T s true) (k+2) v xs:=by
 obtain ⟨F,h1,h2,h3⟩:=h.law.tree
 exact (mkdir_is h1 s (by omega)).mono fun e w' x => ⟨x.1,h.to h2 h3 x.2 h.one.make ((h.bnd.make hk s true).mono (by omega))⟩
theorem one_create (h:TRow W w tb T k v xs) (hk:1≤k) (hs:s.size≤60) :
  Calls Tryd.prog 15 #[.pointer (some ⟨tb,0,none⟩),.string s] w fun e w' => e=.returned (.tuple #[.int .i64 (makeK T s),TErr (makeE T s)])∧TRow W w' tb (makeT T s false) (k+2) v xs:=by
 obtain ⟨F,h1,h2,h3⟩:=h.law.tree
 exact (create_is h1 s (by omega)).mono fun e w' x => ⟨x.1,h.to h2 h3 x.2 h.one.make ((h.bnd.make hk s false).mono (by omega))⟩
theorem one_link (h:TRow W w tb T k v xs) (hk:k < 1000) (hs:s.size≤60) (ht:t.size≤60) :
  Calls Tryd.prog 19 #[.pointer (some ⟨tb,0,none⟩),.string s,.string t] w fun e w' => e=.returned (TErr (linkE T s t))∧TRow W w' tb (linkT T s t) (k+2) v xs:=by
 obtain ⟨F,h1,h2,h3⟩:=h.law.tree
 exact (link_is h1 s t (by omega) (by omega) (fun n p hp => by have:=(h.bnd n p hp).1; omega)).mono fun e w' x => ⟨x.1,h.to h2 h3 x.2 h.one.link_ (h.bnd.link s t)⟩
theorem one_unlink (h:TRow W w tb T k v xs) (hk:k < 1000) (hs:s.size≤60) :
  Calls Tryd.prog 20 #[.pointer (some ⟨tb,0,none⟩),.string s] w fun e w' => e=.returned (TErr (unlinkE T s))∧TRow W w' tb (unlinkT T s) (k+2) v xs:=by
 obtain ⟨F,h1,h2,h3⟩:=h.law.tree
 exact (unlink_is h1 s (by omega) (fun n p hp => by have:=h.bnd n p hp; omega)).mono fun e w' x => ⟨x.1,h.to h2 h3 x.2 h.one.unlink_ ((h.bnd.unlink s).mono (by omega))⟩
theorem one_rename (h:TRow W w tb T k v xs) (hs:s.size≤60) (ht:t.size≤60) :
  Calls Tryd.prog 13 #[.pointer (some ⟨tb,0,none⟩),.string s,.string t] w fun e w' => e=.returned (TErr (moveE T s t))∧TRow W w' tb (moveT T s t) (k+2) v xs:=by
 obtain ⟨F,h1,h2,h3⟩:=h.law.tree
 exact (rename_is h1 s t (by omega) (by omega)).mono fun e w' x => ⟨x.1,h.to h2 h3 x.2 (move_one h.one) (h.bnd.move s t)⟩
theorem name_is (h:TRow W w tb T k v xs) (hk1:1≤k) (hk:k < 1000) (z:Int) (hs:s.size≤60) (ht:t.size≤60) :
  Calls Tryd.prog 7 #[.pointer (some ⟨tb,0,none⟩),.agg #[.int .i64 z,.string s,.string t]] w fun e w' => e=.returned (TErr (nmE T z s t))∧TRow W w' tb (nmT T z s t) (k+2) v xs:=by
 have ha:TRow W (w.alloc (.cells #[.int .i64 z,.string s,.string t] 27)) tb T k v xs:=h.still ((Turn.refl _ _).alloc _)
 by_cases h0:z=0
 ·subst h0
  have HC:=hid (one_mkdir ha hk1 hs)
  clear h ha
  go_enter Tryd.func7,Tryd.ntmps7
  go_wp2_with fail
  refine HC.out.mono ?_
  rintro e w1 ⟨rfl,h1⟩
  have H1:=hid h1
  clear h1
  go_wp2_with fail
  go_returns
  exact ⟨rfl,H1.out⟩
 by_cases h1:z=1
 ·subst h1
  have HC:=hid (one_create ha hk1 hs)
  clear h ha
  go_enter Tryd.func7,Tryd.ntmps7
  go_wp2_with fail
  refine HC.out.mono ?_
  rintro e w1 ⟨rfl,h1⟩
  have H1:=hid h1
  clear h1
  go_wp2_with fail
  go_returns
  exact ⟨rfl,H1.out⟩
 by_cases h2:z=2
 ·subst h2
  have HC:=hid (one_link ha hk hs ht)
  clear h ha
  go_enter Tryd.func7,Tryd.ntmps7
  go_wp2_with fail
  refine HC.out.mono ?_
  rintro e w1 ⟨rfl,h1⟩
  have H1:=hid h1
  clear h1
  go_wp2_with fail
  go_returns
  exact ⟨rfl,H1.out⟩
 by_cases h3:z=3
 ·subst h3
  have HC:=hid (one_unlink ha hk hs)
  clear h ha
  go_enter Tryd.func7,Tryd.ntmps7
  go_wp2_with fail
  refine HC.out.mono ?_
  rintro e w1 ⟨rfl,h1⟩
  have H1:=hid h1
  clear h1
  go_wp2_with fail
  go_returns
  exact ⟨rfl,H1.out⟩
 by_cases h4:z=4
 ·subst h4
  have HC:=hid (one_rename ha hs ht)
  clear h ha
  go_enter Tryd.func7,Tryd.ntmps7
  go_wp2_with fail
  refine HC.out.mono ?_
  rintro e w1 ⟨rfl,h1⟩
  have H1:=hid h1
  clear h1
  go_wp2_with fail
  go_returns
  exact ⟨rfl,H1.out⟩
 have e1:nmE T z s t=0:=by unfold nmE; rw [if_neg h0,if_neg h1,if_neg h2,if_neg h3,if_neg h4]
 have e2:nmT T z s t=T:=by unfold nmT; rw [if_neg h0,if_neg h1,if_neg h2,if_neg h3,if_neg h4]
 rw [e1,e2]
 have g0:(z == 0)=false:=by simpa using h0
 have g1:(z == 1)=false:=by simpa using h1
 have g2:(z == 2)=false:=by simpa using h2
 have g3:(z == 3)=false:=by simpa using h3
 have g4:(z == 4)=false:=by simpa using h4
 have HA:=hid ha
 clear h ha h0 h1 h2 h3 h4 e1 e2
 go_enter Tryd.func7,Tryd.ntmps7
 go_wp2_with fail
 go_returns
 exact ⟨rfl,HA.out.mono (by omega)⟩
end
def encN (x:List ByteArray×Int):Value:=encS (txN x)
section
variable {W w w' w1:World} {tb k f:Nat} {T T':PT} {s t:ByteArray} {l:List ByteArray} {n m z:Int} {x:List ByteArray×Int}
/-! ### how many paths -/
def edgesT (T:PT):List (Int×ByteArray):=T.flatMap fun t => t.2.ds.map fun e => (t.1,e.1)
theorem edges_len (h:TBnd T k) (hn:MNodup T):(edgesT T).length≤T.length * k:=by
 have key:∀ U:PT,(∀ t∈U,t.2.ds.length≤k)→(edgesT U).length≤U.length * k:=by
  intro U
  induction U with
  | nil => intro _; exact Nat.zero_le _
  | cons t U ih =>
   intro hU
   have h1:=ih (fun t ht => hU t (List.mem_cons_of_mem _ ht))
   have h2:=hU t List.mem_cons_self
   show ((t.2.ds.map fun e => (t.1,e.1)) ++ edgesT U).length≤_
   rw [List.length_append,List.length_map,List.length_cons,Nat.add_mul]
   omega
 exact key T (fun t ht => (h t.1 t.2 (mget_mem hn ht)).2.2)
theorem edge_in (he:ent T n s=some m):(n,s)∈edgesT T:=by
 obtain ⟨p,hp,hs⟩:=ent_some.1 he
 exact List.mem_flatMap.2 ⟨(n,p),mem_of_mget hp,List.mem_map.2 ⟨(s,m),mem_of_mget hs,rfl⟩⟩
theorem One.all_len (h:One T) (hb:TBnd T k):(allP T).length≤1+60 * k:=by
 have h1:=edges_len hb h.ok.nd
 have h2:(edgesT T).length≤60 * k:=Nat.le_trans h1 (Nat.mul_le_mul_right k h.ok.size)
 have key:(((allP T).map Prod.fst).map fun l => if l=[] then none else (goP T 0 l.dropLast).map fun d => (d,l.getLastD ByteArray.empty)).Nodup:=by
  rw [List.map_map]
  refine List.pairwise_map.2 (List.Pairwise.imp_of_mem ?_ h.all_nodup)
  intro x y hx hy hne he
  have hgx:=h.all_iff.1 hx
  have hgy:=h.all_iff.1 hy
  obtain ⟨lx,nx⟩:=x
  obtain ⟨ly,ny⟩:=y
  simp only [Function.comp] at he hne hgx hgy
  rcases List.eq_nil_or_concat lx with e1 | ⟨l1,s1,e1⟩
  ·rw [if_pos e1] at he
   rcases List.eq_nil_or_concat ly with e2 | ⟨l2,s2,e2⟩
   ·exact hne (e1.trans e2.symm)
   ·rw [List.concat_eq_append] at e2
    subst e2
    obtain ⟨d,h3,h4⟩:=goP_snoc.1 hgy
    rw [if_neg (by simp),List.dropLast_concat,h3] at he
    cases he
  ·rw [List.concat_eq_append] at e1
   subst e1
   obtain ⟨d,h3,h4⟩:=goP_snoc.1 hgx
   rw [if_neg (by simp),List.dropLast_concat,h3] at he
   rcases List.eq_nil_or_concat ly with e2 | ⟨l2,s2,e2⟩
   ·rw [if_pos e2] at he; cases he
   ·rw [List.concat_eq_append] at e2
    subst e2
    obtain ⟨d2,h5,h6⟩:=goP_snoc.1 hgy
    rw [if_neg (by simp),List.dropLast_concat,h5] at he
    simp only [Option.map_some,Option.some.injEq,Prod.mk.injEq,List.getLastD_concat] at he
    obtain ⟨e3,e4⟩:=he
    subst e3; subst e4
    obtain ⟨p,h7,h8,_⟩:=h.ok.ent_dir h4
    exact hne (by rw [h.uniq _ (Nat.le_refl _) h7 h8 h3 h5])
 have hsub:∀ y∈(((allP T).map Prod.fst).map fun l => if l=[] then none else (goP T 0 l.dropLast).map fun d => (d,l.getLastD ByteArray.empty)),y∈none :: (edgesT T).map some:=fun y hy => by
  obtain ⟨l,hl,rfl⟩:=List.mem_map.1 hy
  obtain ⟨x,hx,rfl⟩:=List.mem_map.1 hl
  have hg:=h.all_iff.1 hx
  rcases List.eq_nil_or_concat x.1 with e1 | ⟨l1,s1,e1⟩
  ·rw [if_pos e1]; exact List.mem_cons_self
  ·rw [List.concat_eq_append] at e1
   rw [e1] at hg ⊢
   obtain ⟨d,h3,h4⟩:=goP_snoc.1 hg
   rw [if_neg (by simp),List.dropLast_concat,h3,List.getLastD_concat]
   exact List.mem_cons_of_mem _ (List.mem_map.2 ⟨(d,s1),edge_in h4,rfl⟩)
 have h3:=List.Nodup.length_le_of_subset key hsub
 rw [List.length_map,List.length_map,List.length_cons,List.length_map] at h3
 omega
theorem One.pre_len (h:One T) (hb:TBnd T k) (hg:goP T 0 l=some n) (f:Nat):(preT T f n l).length≤1+60 * k:=by
 refine Nat.le_trans ?_ (h.all_len hb)
 have h1:((preT T f n l).map Prod.fst).Nodup:=List.pairwise_map.2 (pre_nodup h.dsn f n l)
 have h2:∀ y∈(preT T f n l).map Prod.fst,y∈(allP T).map Prod.fst:=fun y hy => by
  obtain ⟨x,hx,rfl⟩:=List.mem_map.1 hy
  obtain ⟨r,e,h3⟩:=pre_led f n l hx
  exact List.mem_map.2 ⟨x,h.all_iff.2 (by rw [e]; exact goP_split.2 ⟨n,hg,h3⟩),rfl⟩
 have:=List.Nodup.length_le_of_subset h1 h2
 rw [List.length_map,List.length_map] at this
 exact this
/-! ### Find and List,by a path that there is -/
theorem one_find (h:TOne W w tb T k) (hg:goP T 0 l=some n) :
  Calls Tryd.prog 16 #[.pointer (some ⟨tb,0,none⟩),.string (txP l)] w fun e w' => e=.returned (.tuple #[.int .i64 n,.nilIface])∧Turn (fun _ => False) w w':=by
 obtain ⟨F,h1,h2⟩:=h.law.tree
 have hd:=h.one.depth hg
 have hz:=h.one.ok.size
 have hs:=txP_size (fun s hs => (h.one.nms hg s hs).1) (by omega)
 refine (find_is h1 (txP l) (by omega)).mono ?_
 rintro e w' ⟨rfl,t⟩
 rw [h.one.find hg]
 exact ⟨rfl,t⟩
theorem list_at (h:One T) (hg:goP T 0 l=some n):listE T (txP l)=(if isDirT T n then 0 else 6)∧listT T (txP l)=sortedNs (dsO T n):=by
 have hf:=h.find hg
 have e1:listE T (txP l)=(if isDirT T n then 0 else 6):=by unfold listE; rw [hf]; rfl
 refine ⟨e1,?_⟩
 unfold listT
 rw [e1,hf]
 by_cases hd:isDirT T n=true
 ·rw [if_pos hd,if_pos rfl]; rfl
 ·rw [if_neg hd,if_neg (by decide)]
  have hz:dsO T n=[]:=by
   unfold dsO
   cases hn:mget T n with
   | none => rfl
   | some p =>
    refine h.ok.file n p hn ?_
    unfold isDirT at hd
    rw [hn] at hd
    simpa using hd
  rw [hz]; simp [sortedNs]
theorem one_list (h:TOne W w tb T k) (hk:k < 1000) (hg:goP T 0 l=some n) :
  Calls Tryd.prog 11 #[.pointer (some ⟨tb,0,none⟩),.string (txP l)] w fun e w' => ∃ a cap,e=.returned (.tuple #[.slice a (sortedNs (dsO T n)).length cap,TErr (if isDirT T n then 0 else 6)])∧StrsIn w' a (sortedNs (dsO T n))∧Turn (fun _ => False) w w'∧∀ g off,a=some ⟨g,off,none⟩→w.heap.size≤g:=by
 obtain ⟨F,h1,h2⟩:=h.law.tree
 have hd:=h.one.depth hg
 have hz:=h.one.ok.size
 have hs:=txP_size (fun s hs => (h.one.nms hg s hs).1) (by omega)
 obtain ⟨e1,e2⟩:=list_at h.one hg
 refine (list_is h1 (txP l) (by omega) (fun n p hp => by have:=(h.bnd n p hp).2.2; omega)).mono ?_
 rintro e w' ⟨v,rfl,hrow,t,hf⟩
 have hsh:=hrow.shape
 obtain ⟨a,cap,rfl,hl,_⟩:=hrow.strs
 rw [e1]
 rw [e2] at hl ⊢
 refine ⟨a,cap,rfl,hl,t,fun g off ha => ?_⟩
 subst ha
 rcases hsh with ⟨h3,_⟩ | ⟨g2,c2,h3,_⟩
 ·cases h3
 ·injection h3 with h3 _ _
  cases h3
  exact hf g rfl
/-! ### paths -/
theorem step_append_strs {ops:Array Oper} {o:Oper} {a:Act} {w:World} {K:Act→World→Prop} {Q:Exit→Act→World→Prop} {E:Prop}
  (hg:o.guard=none) (s x:Operand) (hop:o.op=Op.call { callee:=Callee.builtin Builtin.append,args:=#[s,x],argTypes:=#[28,28] })
  (v:Value) (xs:List Value) (hs:a.eval s=v) (hi:RowV w 9 v xs) (g6 c:Nat) (news:List Value) (N:Nat) (hN:news.length=N) (hx:a.eval x=.slice (some ⟨g6,0,none⟩) N c)
  (hr:RowV w 9 (.slice (some ⟨g6,0,none⟩) N c) news) (h1:∀ u∈news,u.oneCell'=true) (hp:0 < news.length) (hl:xs.length+news.length≤1000000)
  (hK:∀ g cap w',RowV w' 9 (.slice (some ⟨g,0,none⟩) (xs.length+news.length) cap) (xs ++ news)→Turn (fun j => v.ownBlock=some j) w w'→(v.ownBlock=some g∨w.heap.size≤g)→K (a.put o.dst (.slice (some ⟨g,0,none⟩) (xs.length+news.length) cap)) w') :
  if Region.wanted o (yielded ops a.tmps)=true then Oper.wp Tryd.prog o a w K Q else E:=by
 refine step_append_vals (z:=.string ⟨#[]⟩) (bytes:=16) hg s x hop Tryd.underlying28 (by kernel_rfl) rfl (by decide) v xs hs hi g6 0 c news N hN hx (fun jj u hu => ?_) h1 (.inl hp) hl _ rfl hK
 rw [Nat.zero_add]
 rw [← hN] at hr
 exact hr.cell jj u hu
def PathsTo (W:World) (tb:Nat) (T:PT) (k:Nat) (L:List (List ByteArray×Int)) (w:World) (e:Ending) (w':World):Prop :=
 ∃ v,e=.returned v∧RowV w' 9 v (L.map encN)∧Turn (fun _ => False) w w'∧∀ g,v.ownBlock=some g→w.heap.size≤g
def PathsAt (W:World) (tb:Nat) (T:PT) (k f:Nat):Prop:=∀ (l:List ByteArray) (n:Int) (w:World),TOne W w tb T k→Tab w→k < 1000→goP T 0 l=some n→T.length < f+l.length →
  Calls Tryd.prog 6 #[.pointer (some ⟨tb,0,none⟩),.string (txP l),.int .i64 l.length] w (PathsTo W tb T k (preT T f n l) w)
theorem paths_step (ih:PathsAt W tb T k f):PathsAt W tb T k (f+1):=by
  intro l n w h hT hk hg hl
  have IH:=hid ih
  clear ih
  have H:=hid h
  have HTb:=hid hT
  have HG:=hid hg
  have HFi:=hid (one_find h hg)
  have HLi:=hid (fun w' (tt:Turn (fun _ => False) w w') => one_list (h.still tt) hk hg)
  have hdp:=h.one.depth hg
  have hsz:=h.one.ok.size
  have h100:¬ (100:Int) < l.length:=by omega
  have hnk:0≤n∧n < 60:=by
   obtain ⟨p0,h0,_⟩:=h.one.ok.root
   obtain ⟨p,hp⟩:=h.one.ok.go_to h0 hg
   exact h.one.ok.keys n p hp
  have HIt:Hid (∀ w',Turn (fun _ => False) w w'→Calls Tryd.prog 17 #[.int .i64 n] w' fun e w'' => e=.returned (.string (numB n))∧Turn (fun _ => False) w' w''):=hid (fun w' (tt:Turn (fun _ => False) w w') => itoa_is n (by omega) (by omega) w' (hT.turned tt))
  have hPz:=txP_size (fun s hs => (h.one.nms hg s hs).1) (by omega)
  have hBz:=numB_size hnk
  obtain ⟨B,hB⟩:∃ B,numB n=B:=⟨_,rfl⟩
  obtain ⟨P,hP⟩:∃ P,txP l=P:=⟨_,rfl⟩
  obtain ⟨dp,hdpe⟩:∃ dp,l.length=dp:=⟨_,rfl⟩
  rw [hB] at HIt hBz
  rw [hP] at HFi HLi hPz ⊢
  rw [hdpe] at h100 hdp ⊢
  have HE:=hid (show numB n=B∧txP l=P∧l.length=dp from ⟨hB,hP,hdpe⟩)
  clear h hT hg hB hP hdpe hnk
  unfold PathsTo
  go_enter Tryd.func6,Tryd.ntmps6
  go_wp2_with fail
  refine HFi.out.mono ?_
  rintro e w1 ⟨rfl,t1⟩
  have HT1:=hid t1
  clear t1 HFi
  go_wp2_with fail
  refine (HIt.out _ HT1.out).mono ?_
  rintro e w2 ⟨rfl,t2⟩
  have HT2:=hid (HT1.out.trans t2)
  clear t2 HIt
  go_wp2_with fail
  refine (HLi.out _ ?_).mono ?_
  ·exact HT2.out.alloc _
  rintro e w3 ⟨a,cap,rfl,hS,t3,hfa⟩
  have HFa:Hid (∀ g off,(Value.slice (some ⟨w2.heap.size,0,none⟩) 1 1).ownBlock=some g→a=some ⟨g,off,none⟩→False):=hid (fun g off h1 h2 => by
   have h3:=hfa g off h2
   have h4:w2.heap.size=g:=Option.some.inj h1
   rw [World.size_alloc] at h3
   omega)
  clear hfa
  have hrow0:RowV w3 9 (.slice (some ⟨w2.heap.size,0,none⟩) 1 1) [encN (l,n)]:=by
   have h1:=(RowV.one w2 9 (.string (P ++ ⟨#[61]⟩ ++ B))).turned t3 (fun _ _ => id)
   rw [← HE.out.1,← HE.out.2.1] at h1
   exact h1
  have HT3:=hid ((HT2.out.alloc _).trans t3)
  have HR0:=hid hrow0
  have HS:=hid hS
  have hge:=HT2.out.size
  clear t3 hrow0 hS
  by_cases hd:isDirT T n=true
  ·rw [if_pos hd,show TErr 0=.nilIface from rfl]
   obtain ⟨NS,hNS⟩:∃ NS,sortedNs (dsO T n)=NS:=⟨_,rfl⟩
   have HNS:=hid hNS
   rw [hNS] at HS ⊢
   obtain ⟨N,hN⟩:∃ N,NS.length=N:=⟨_,rfl⟩
   have HN:=hid hN
   have hNk:N≤1000:=by
    rw [← hN,← hNS,sortedNs_length]
    unfold dsO
    cases hc:mget T n with
    | none => exact Nat.zero_le _
    | some p => have:=(H.out.bnd n p hc).2.2; show p.ds.length≤1000; omega
   rw [hN]
   clear hd hNS hN
   go_wp2_with fail
   go_loopg [9,11] (N) (fun gl v ix wr => ∃ (j:Nat) (X:List (List ByteArray×Int)) (V:Value),V=v∧j+gl=N∧ix=.int .i64 j∧Hid (X=(l,n) :: (NS.take j).flatMap fun s => (ent T n s).elim [] fun m => preT T f m (l ++ [s]))∧Hid (RowV wr 9 v (X.map encN))∧Hid (Turn (fun _ => False) w wr)∧Hid (∀ g,v.ownBlock=some g→w.heap.size≤g)∧Hid (StrsIn wr a NS)∧Hid (∀ g off,V.ownBlock=some g→a=some ⟨g,off,none⟩→False))
   case atStart => exact ⟨0,[(l,n)],_,rfl,by omega,rfl,hid (by simp),HR0,HT3,hid (fun g hg => by cases hg; exact hge),HS,HFa⟩
   case round =>
    clear HR0 HT3 HS HFa
    obtain ⟨j,X,V,hV,hj,rfl,HX,HR,HTr,HF,HS,HFa⟩:=hrel
    subst hV
    by_cases hlt:j < N
    ·have hlt':(j:Int) < N:=by omega
     have h0:(0:Int)≤(j:Int):=by omega
     obtain ⟨s,hs⟩:∃ s,NS[j]?=some s:=⟨_,List.getElem?_eq_getElem (by rw [HN.out]; exact hlt)⟩
     obtain ⟨m,hm⟩:∃ m,ent T n s=some m:=by
      have h1:s∈sortedNs (dsO T n):=by rw [HNS.out]; exact List.mem_of_getElem? hs
      obtain ⟨e,he,hes⟩:=sortedNs_mem.1 h1
      exact ⟨e.2,by rw [ent_ds,← hes]; exact mget_mem (H.out.one.dsn n) he⟩
     have hg2:goP T 0 (l ++ [s])=some m:=goP_snoc.2 ⟨n,HG.out,hm⟩
     have hd2:=H.out.one.depth hg2
     obtain ⟨C,hC⟩:∃ C,preT T f m (l ++ [s])=C:=⟨_,rfl⟩
     have hC1:0 < C.length:=by
      rw [← hC]
      have:=pre_all (T:=T) f m (l ++ [s]) [] m (show goP T m []=some m from rfl) (by simp at hd2; simp; omega)
      exact List.length_pos_of_mem this
     obtain ⟨M,hM⟩:∃ M,C.length=M:=⟨_,rfl⟩
     have hpre:(l,n) :: ((NS.take (j+1)).flatMap fun s => (ent T n s).elim [] fun m => preT T f m (l ++ [s]))=X ++ C:=by
      rw [HX.out,List.take_add_one,hs]
      simp only [Option.toList_some,List.flatMap_append,List.flatMap_cons,List.flatMap_nil,List.append_nil,List.cons_append]
      rw [hm]
      simp only [Option.elim]
      rw [hC]
     have hlen:X.length+C.length≤100000:=by
      have h1:=H.out.one.pre_len H.out.bnd HG.out (f+1)
      have h2:preT T (f+1) n l=(X ++ C) ++ ((NS.drop (j+1)).flatMap fun s => (ent T n s).elim [] fun m => preT T f m (l ++ [s])):=by
       rw [← hpre,List.cons_append,← List.flatMap_append,List.take_append_drop]
       show (l,n) :: (sortedNs (dsO T n)).flatMap _=_
       rw [HNS.out]
      rw [h2,List.length_append,List.length_append] at h1
      omega
     have hch:=fun w' (tt:Turn (fun _ => False) w w') => IH.out (l ++ [s]) m w' (H.out.still tt) (HTb.out.turned tt) hk hg2 (by simp; omega)
     unfold PathsTo at hch
     rw [hC,txP_snoc,show ((l ++ [s]).length:Int)=(dp:Int)+1 from by rw [← HE.out.2.2]; simp] at hch
     have hnms:=fun u hu => H.out.one.nms HG.out u hu
     have htr:=fun w' => trim_is (l:=l) (by rw [HE.out.2.1]; exact hPz) (fun u hu => (hnms u hu).1) (fun u hu => (hnms u hu).2) w'
     rw [HE.out.2.1] at htr
     have hQz:(pth l).size≤1000:=by
      have h1:=pth_size (fun u hu => (hnms u hu).1)
      have:=HE.out.2.2
      omega
     have hsz2:s.size≤12:=(ok_size (H.out.one.nms hg2 s (by simp)).1).2
     obtain ⟨Q,hQ⟩:∃ Q,pth l=Q:=⟨_,rfl⟩
     rw [hQ] at htr hQz hch
     have HTri:Hid (∀ w',Calls Tryd.prog 18 #[.string P,.string ⟨#[47]⟩] w' fun e w'' => e=.returned (.string Q)∧w''=w'):=hid htr
     have HCh:Hid (∀ w',Turn (fun _ => False) w w'→Calls Tryd.prog 6 #[.pointer (some ⟨tb,0,none⟩),.string (Q ++ ⟨#[47]⟩ ++ s),.int .i64 ((dp:Int)+1)] w' fun e w'' => ∃ g6 cap6,e=.returned (.slice (some ⟨g6,0,none⟩) M cap6)∧RowV w'' 9 (.slice (some ⟨g6,0,none⟩) M cap6) (C.map encN)∧Turn (fun _ => False) w' w''∧w'.heap.size≤g6):=hid (fun w' tt => (hch w' tt).mono (by
      rintro e w'' ⟨v,rfl,r1,r2,r3⟩
      rcases r1.shape with ⟨_,h0⟩ | ⟨g6,cap6,rfl,_⟩
      ·exfalso
       have:=congrArg List.length h0
       rw [List.length_map] at this
       have h9:([]:List Value).length=0:=rfl
       omega
      ·rw [List.length_map,hM] at r1
       exact ⟨g6,cap6,by rw [List.length_map,hM],r1,r2,r3 g6 rfl⟩))
     obtain ⟨ga,off,rfl,hgl,hcs⟩:=HS.out.resolve_left (by rintro e; rw [e] at hs; cases hs)
     have cs:=hcs j s hs
     have HNo:Hid (¬ V.ownBlock=some ga):=hid (fun h => HFa.out ga off h rfl)
     have td:Turn (fun _ => False) wr wr.drew:=(Turn.refl _ _).drew
     have HTd:=hid (HTr.out.trans td)
     have k0:=(td.cell (lt_of_cell cs) id).trans cs
     have hQi:(Q.size:Int)≤1000:=by omega
     have hsi:(s.size:Int)≤12:=by omega
     have hb4:¬ 9223372036854775807 < Q.size+1:=by omega
     have hb9:¬ 9223372036854775807 < Q.size+1+s.size:=by omega
     have hdw:IntKind.i64.wrap ((dp:Int)+1)=(dp:Int)+1:=IntWalk.i64_in _ (by omega)
     have HPre:=hid hpre
     have HMl:=hid (show (C.map encN).length=M from by rw [List.length_map]; exact hM)
     have HOn:=hid (show ∀ u∈C.map encN,u.oneCell'=true from fun u hu => by
      obtain ⟨x,_,rfl⟩:=List.mem_map.1 hu
      rfl)
     have HPo:=hid (show 0 < (C.map encN).length from by rw [List.length_map]; exact hC1)
     have HLl:=hid (show (X.map encN).length+(C.map encN).length≤1000000 from by rw [List.length_map,List.length_map]; omega)
     have HRd:=hid (HR.out.turned td (fun _ _ => id))
     have HC1:=hid hC1
     have HLn:=hid hlen
     have HSd:=hid (HS.out.turned td (fun _ _ => id))
     clear hs hm hg2 hd2 hC hC1 hpre hlen hch hnms htr hQ hgl hcs td
     go_wp2_with fail
     go_region_held3 (fun w' => w'.cell? ⟨ga,off+j,none⟩=some (.string s))
      (first | exact k0 | exact k6 | exact k8 | go_keep)
      (first
       | (go_at_call 18; with_reducible refine (HTri.out _).mono ?_; rintro e w5 ⟨rfl,hw⟩; subst hw)
       | (go_at_call 6; with_reducible refine (HCh.out _ HTd.out).mono ?_; rintro e w6 ⟨g6,cap6,rfl,r6,t6,f6⟩; have HR6:=hid r6; have HT6:=hid t6; have HF6:=hid f6; have HV6:=hid (HRd.out.turned t6 (fun _ _ => id)); have k6:=(t6.cell (lt_of_cell k0) id).trans k0; clear r6 t6 f6)
       | (refine step_append_strs rfl _ _ rfl V (X.map encN) rfl HV6.out g6 cap6 (C.map encN) M HMl.out rfl HR6.out HOn.out HPo.out HLl.out ?_; intro g8 cap8 w8 r8 t8 f8; have HR8:=hid r8; have HT8:=hid t8; have HF8:=hid f8; have k8:=(t8.cell (lt_of_cell k6) HNo.out).trans k6; clear r8 t8 f8))
     all_goals
      go_wp2_with fail
      go_roundg (gk - 1)
      case measure => omega
      case rel =>
       have hga:=lt_of_cell k6
       have hg8:g8≠ga:=fun e => by
        rcases HF8.out with h1 | h1
        ·exact HNo.out (by rw [h1,e])
        ·have h2:ga < w6.heap.size:=hga
         omega
       have hj1:j+1+(gk - 1)=N:=by omega
       refine ⟨j+1,X ++ C,_,rfl,hj1,by go_num,hid HPre.out.symm,hid ?_,hid ((HTd.out.trans HT6.out).trans' HT8.out (fun k hk e => absurd hk (Nat.not_lt.2 (HF.out k e)))),hid (fun g hg => ?_),hid ((HSd.out.turned HT6.out (fun _ _ => id)).turned HT8.out (fun x hx e => ?_)),hid (fun g off' h1 h2 => ?_)⟩
       ·have h1:=HR8.out
        rw [List.length_map,HMl.out,← List.map_append] at h1
        exact h1
       ·have h4:g8=g:=Option.some.inj hg
        rcases HF8.out with h1 | h1
        ·exact HF.out g (by rw [h1,h4])
        ·have h5:=HT6.out.size
         have h6:=HTd.out.size
         omega
       ·cases hx
        exact HNo.out e
       ·have h4:g8=g:=Option.some.inj h1
        cases h2
        exact hg8 h4
    ·have hje:j=N:=by omega
     subst hje
     go_wp2_with fail
     go_returns
     refine ⟨_,rfl,?_,HTr.out,HF.out⟩
     have h1:=HR.out
     rw [HX.out,← HN.out,List.take_length] at h1
     show RowV _ _ _ (((l,n) :: (sortedNs (dsO T n)).flatMap fun s => (ent T n s).elim [] fun m => preT T f m (l ++ [s])).map encN)
     rw [HNS.out]
     exact h1
  ·rw [if_neg hd,show TErr 6=.iface 55 (.int .i64 6) from rfl]
   have hz:sortedNs (dsO T n)=[]:=by
    have h1:=(list_at H.out.one HG.out).2
    rw [← h1]
    unfold listT
    rw [(list_at H.out.one HG.out).1,if_neg hd,if_neg (by decide)]
   have hpre:preT T (f+1) n l=[(l,n)]:=by
    show (l,n) :: (sortedNs (dsO T n)).flatMap _=_
    rw [hz]; rfl
   have HP:=hid hpre
   clear hd hz hpre
   go_wp2_with fail
   go_returns
   refine ⟨_,rfl,?_,HT3.out,fun g hg => ?_⟩
   ·rw [HP.out]; exact HR0.out
   ·cases hg; exact hge
theorem paths_at:∀ f,PathsAt W tb T k f
 | 0 => fun l n w h _ _ hg hl => by have:=h.one.depth hg; omega
 | f+1 => paths_step (paths_at f)
end
def cN (E:List (List ByteArray×Int)) (key:ByteArray):Nat:=(E.filter fun x => decide (numB x.2=key)).length
def CntM (mm:List (ByteArray×Int)) (E:List (List ByteArray×Int)):Prop:=∀ key,mget mm key=if cN E key=0 then none else some (cN E key:Int)
section
variable {T:PT} {mm:List (ByteArray×Int)} {E:List (List ByteArray×Int)} {x:List ByteArray×Int} {key:ByteArray} {n:Int} {p:PN}
theorem CntM.nil:CntM [] []:=fun _ => rfl
theorem cN_snoc:cN (E ++ [x]) key=cN E key+if numB x.2=key then 1 else 0:=by
 unfold cN
 rw [List.filter_append,List.length_append]
 congr 1
 by_cases e:numB x.2=key
 ·rw [if_pos e,List.filter_cons,if_pos (decide_eq_true e)]; rfl
 ·rw [if_neg e,List.filter_cons,if_neg (by simpa using e)]; rfl
theorem CntM.put (h:CntM mm E):CntM (mput mm (numB x.2) ((cN E (numB x.2):Int)+1)) (E ++ [x]):=fun key => by
 rw [mget_mput,cN_snoc]
 by_cases e:key=numB x.2
 ·rw [if_pos e,if_pos e.symm,e,if_neg (by omega)]
  congr 1
 ·have h0:(if numB x.2=key then 1 else 0)=0:=if_neg (fun e2 => e e2.symm)
  rw [if_neg e,h0,Nat.add_zero]
  exact h key
theorem cN_le:cN E key≤E.length:=List.length_filter_le _ _
theorem len_of_keysB {l l':List (ByteArray×Int)} (h:MNodup l) (h':MNodup l') (hk:∀ q,(mget l q).isSome=(mget l' q).isSome):l.length=l'.length:=by
 have key:∀ {l:List (ByteArray×Int)} (q:ByteArray),q∈l.map Prod.fst ↔ (mget l q).isSome=true:=fun {l} q => by
  cases e:mget l q with
  | none =>
   constructor
   ·intro hq
    obtain ⟨t,ht,rfl⟩:=List.mem_map.1 hq
    exact absurd rfl (mget_none_iff.1 e t ht)
   ·intro hq; cases hq
  | some b => exact ⟨fun _ => rfl,fun _ => List.mem_map.2 ⟨_,mem_of_mget e,rfl⟩⟩
 have h1:(l.map Prod.fst).length≤(l'.map Prod.fst).length:=List.Nodup.length_le_of_subset h (fun q hq => (key q).2 (by rw [← hk q]; exact (key q).1 hq))
 have h2:(l'.map Prod.fst).length≤(l.map Prod.fst).length:=List.Nodup.length_le_of_subset h' (fun q hq => (key q).2 (by rw [hk q]; exact (key q).1 hq))
 rw [List.length_map,List.length_map] at h1 h2
 omega
theorem cN_pos:0 < cN E key ↔ ∃ x∈E,numB x.2=key:=by
 unfold cN
 constructor
 ·intro h
  obtain ⟨x,hx⟩:=List.exists_mem_of_length_pos h
  obtain ⟨h1,h2⟩:=List.mem_filter.1 hx
  exact ⟨x,h1,of_decide_eq_true h2⟩
 ·rintro ⟨x,h1,h2⟩
  exact List.length_pos_of_mem (List.mem_filter.2 ⟨h1,decide_eq_true h2⟩)
theorem One.nodes_len (h:One T) (hn:MNodup mm) (hc:CntM mm (allP T)):mm.length=T.length:=by
 have hl:(T.map fun t => (numB t.1,t.1)).length=T.length:=List.length_map _
 rw [← hl]
 have hnd:MNodup (T.map fun t => (numB t.1,t.1)):=by
  show ((T.map fun t => (numB t.1,t.1)).map Prod.fst).Nodup
  rw [List.map_map]
  refine List.pairwise_map.2 (List.Pairwise.imp_of_mem ?_ (List.pairwise_map.1 h.ok.nd))
  intro a b ha hb hne e
  have ka:=h.ok.keys a.1 a.2 (mget_mem h.ok.nd ha)
  have kb:=h.ok.keys b.1 b.2 (mget_mem h.ok.nd hb)
  exact hne (numB_inj ka kb e)
 refine len_of_keysB hn hnd (fun q => ?_)
 rw [hc q]
 have hiff:0 < cN (allP T) q ↔ (mget (T.map fun t => (numB t.1,t.1)) q).isSome=true:=by
  rw [cN_pos]
  constructor
  ·rintro ⟨x,hx,hq⟩
   obtain ⟨p,hp⟩:=h.node_there.1 ⟨x,hx,rfl⟩
   have h1:(q,x.2)∈T.map fun t => (numB t.1,t.1):=List.mem_map.2 ⟨(x.2,p),mem_of_mget hp,by rw [hq]⟩
   rw [mget_mem hnd h1]; rfl
  ·intro hs
   obtain ⟨v,hv⟩:=Option.isSome_iff_exists.1 hs
   obtain ⟨t,ht,e⟩:=List.mem_map.1 (mem_of_mget hv)
   injection e with e1 e2
   obtain ⟨x,hx,h2⟩:=h.node_there.2 ⟨t.2,mget_mem h.ok.nd ht⟩
   exact ⟨x,hx,by rw [h2]; exact e1⟩
 by_cases e:cN (allP T) q=0
 ·rw [if_pos e]
  cases hs:(mget (T.map fun t => (numB t.1,t.1)) q).isSome with
  | false => rfl
  | true => have:=hiff.2 hs; omega
 ·rw [if_neg e,hiff.1 (by omega)]; rfl
def dirsOf (T:PT) (E:List (List ByteArray×Int)):List (List ByteArray×Int):=E.filter fun x => isDirT T x.2
theorem One.dir_key (h:One T) (hx:x∈allP T) (hd:isDirT T x.2=true):cN (allP T) (numB x.2)=1∧cN (dirsOf T (allP T)) (numB x.2)=1:=by
 obtain ⟨p,hp,hpd⟩:=isDirT_some hd
 have h1:=h.dir_once hp hpd
 have key:∀ y∈allP T,(numB y.2=numB x.2 ↔ y.2=x.2):=fun y hy => ⟨fun e => numB_inj (h.nums hy) (h.nums hx) e,fun e => by rw [e]⟩
 have e1:cN (allP T) (numB x.2)=((allP T).filter fun y => decide (y.2=x.2)).length:=by
  unfold cN
  congr 1
  exact List.filter_congr (fun y hy => decide_eq_decide.2 (key y hy))
 refine ⟨e1.trans h1,?_⟩
 rw [← h1]
 unfold cN dirsOf
 rw [List.filter_filter]
 congr 1
 refine List.filter_congr (fun y hy => ?_)
 by_cases e:y.2=x.2
 ·rw [decide_eq_true e,decide_eq_true ((key y hy).2 e),e,hd]; rfl
 ·rw [decide_eq_false e,decide_eq_false (fun e2 => e ((key y hy).1 e2))]; rfl
theorem One.dirs_one (h:One T) {dd:List (ByteArray×Int)} (hc:CntM mm (allP T)) (hd:CntM dd (dirsOf T (allP T))) {v:Int} (hk:mget dd key=some v):v=1∧mget mm key=some 1:=by
 rw [hd key] at hk
 by_cases e:cN (dirsOf T (allP T)) key=0
 ·rw [if_pos e] at hk; cases hk
 ·rw [if_neg e] at hk
  obtain ⟨x,hx,hxk⟩:=cN_pos.1 (Nat.pos_of_ne_zero e)
  obtain ⟨h1,h2⟩:=List.mem_filter.1 hx
  obtain ⟨h3,h4⟩:=h.dir_key h1 h2
  rw [hxk] at h3 h4
  rw [h4] at hk
  refine ⟨(Option.some.inj hk).symm,?_⟩
  rw [hc key,h3]; rfl
end
def bD:ByteArray:=⟨#[47,100]⟩
def bDF:ByteArray:=⟨#[47,100,47,102]⟩
def nD:ByteArray:=⟨#[100]⟩
def nF:ByteArray:=⟨#[102]⟩
def T1n:PT:=[(0,⟨true,[(nD,1)],ByteArray.empty,1,0⟩),(1,⟨true,[],ByteArray.empty,1,0⟩)]
def T2n:PT:=[(0,⟨true,[(nD,1)],ByteArray.empty,1,0⟩),(1,⟨true,[(nF,2)],ByteArray.empty,1,0⟩),(2,⟨false,[],ByteArray.empty,1,0⟩)]
theorem named1:makeE rootT bD=0∧makeK rootT bD=1∧makeT rootT bD true=T1n:=⟨by kernel_rfl,by kernel_rfl,by kernel_rfl⟩
theorem named2:makeE T1n bDF=0∧makeK T1n bDF=2∧makeT T1n bDF false=T2n:=⟨by kernel_rfl,by kernel_rfl,by kernel_rfl⟩
theorem named3:listE T2n bD=0∧listT T2n bD=[nF]:=by
 have h1:listE T2n bD=0:=by kernel_rfl
 have h2:(mget T2n (findT T2n bD).2).elim [] (·.ds)=[(nF,2)]:=by kernel_rfl
 refine ⟨h1,?_⟩
 unfold listT
 rw [if_pos h1,h2]
 unfold sortedNs
 simp
theorem named_is (w:World):Calls Tryd.prog 4 #[] w fun e w' => e=.returned (.bool true)∧Turn (fun _ => False) w w':=by
 have te:TErr 0=.nilIface:=rfl
 go_enter Tryd.func4,Tryd.ntmps4
 go_wp2_with fail
 refine (law_new w).mono ?_
 rintro e w1 ⟨tb,rfl,h1⟩
 have HM:=hid (law_mkdir h1 bD (by decide))
 clear h1
 go_wp2_with fail
 refine HM.out.mono ?_
 rintro e w2 ⟨rfl,h2⟩
 rw [named1.1,named1.2.1]
 rw [named1.2.2] at h2
 have HC:=hid (law_create h2 bDF (by decide))
 clear h2 HM
 go_wp2_with fail
 refine HC.out.mono ?_
 rintro e w3 ⟨rfl,h3⟩
 rw [named2.1,named2.2.1]
 rw [named2.2.2] at h3
 have HN:=hid (fun w' (t:Turn (fun _ => False) w3 w') => law_nodes (h3.still t))
 have hl:=law_list h3 bD (by decide) (fun n p hp => by
  have hm:=mem_of_mget hp
  unfold T2n at hm
  simp only [List.mem_cons,List.not_mem_nil,or_false,Prod.mk.injEq] at hm
  rcases hm with ⟨_,rfl⟩ | ⟨_,rfl⟩ | ⟨_,rfl⟩ <;> decide)
 rw [named3.1,named3.2] at hl
 have HL:=hid hl
 have HT3:=hid h3.turn
 clear h3 hl HC
 go_wp2_with fail
 refine HL.out.mono ?_
 rintro e w4 ⟨a,cap,rfl,hs,h4⟩
 obtain ⟨g,off,rfl,hg,hc⟩:=hs.resolve_left (by simp)
 have c0:=hc 0 nF rfl
 rw [Nat.add_zero] at c0
 have HT4:=hid h4.turn
 have HN4:=hid (law_nodes h4)
 have hlen:(T2n.length:Int)=3:=rfl
 rw [hlen] at HN4
 have hnf:(nF.toList == [102])=true:=by decide +kernel
 clear hc hg h4 HL HN hlen
 go_wp2_with fail
 refine HN4.out.mono ?_
 rintro e w5 ⟨rfl,hw⟩; subst w5
 go_wp2_with fail
 go_returns
 exact ⟨rfl,HT4.out⟩
structure TMap (W w:World) (tb:Nat) (T:PT) (k:Nat) (S:Nat→Prop):Prop where
 tree:∃ F,TreeIs w tb T F∧(∀ k,F k→W.heap.size≤k)∧∀ k,F k→¬ S k
 turn:Turn (fun _ => False) W w
 one:One T
 bnd:TBnd T k
 new:∀ k,S k→W.heap.size≤k
section
variable {W w w' w1:World} {tb k:Nat} {T T':PT} {s t:ByteArray} {l:List ByteArray} {L:List (List ByteArray×Int)} {x:List ByteArray×Int} {z:Int} {v v':Value} {S:Nat→Prop}
theorem TMap.toOne (h:TMap W w tb T k S):TOne W w tb T k:=by
 obtain ⟨F,h1,h2,h3⟩:=h.tree
 exact ⟨⟨⟨F,h1,h2⟩,h.turn⟩,h.one,h.bnd⟩
theorem TMap.turned (h:TMap W w tb T k S) (tt:Turn S w w'):TMap W w' tb T k S:=by
 obtain ⟨F,h1,h2,h3⟩:=h.tree
 exact ⟨⟨F,h1.turned tt (fun k hk hs => h3 k hk hs),h2,h3⟩,h.turn.trans' tt (fun k hk hs => by have:=h.new k hs; omega),h.one,h.bnd,h.new⟩
theorem TMap.still (h:TMap W w tb T k S) (tt:Turn (fun _ => False) w w'):TMap W w' tb T k S:=h.turned (tt.mono (fun _ _ h => h.elim))
theorem TOne.apart (h:TOne W w tb T k) (S:Nat→Prop) (hS:∀ k,S k→w.heap.size≤k):TMap W w tb T k S:=by
 obtain ⟨F,h1,h2⟩:=h.law.tree
 refine ⟨⟨F,h1,h2,fun k hk hs => ?_⟩,h.law.turn,h.one,h.bnd,fun k hs => Nat.le_trans h.law.turn.size (hS k hs)⟩
 have h3:=h1.foot_lt _ hk
 have h4:=hS k hs
 (try simp only at h3)
 omega
theorem ent_root {d:Int}:ent rootT d s=none:=by
 unfold ent
 cases h:mget rootT d with
 | none => rfl
 | some p =>
  have h1:=mem_of_mget h
  unfold rootT at h1
  have h1:=List.mem_singleton.1 h1
  cases h1
  rfl
theorem root_some {n:Int} {p:PN} (h:mget rootT n=some p):n=0∧p=⟨true,[],ByteArray.empty,1,0⟩:=by
 have h1:=mem_of_mget h
 unfold rootT at h1
 have h1:=List.mem_singleton.1 h1
 cases h1
 exact ⟨rfl,rfl⟩
theorem one_root:One rootT:=by
 refine ⟨rootT_ok,fun d s d' s' n p h1 => ?_,fun d s h => ?_,fun n p h => ?_,fun n p h => ?_,fun n p h e he => ?_⟩
 ·rw [ent_root] at h1; cases h1
 ·rw [ent_root] at h; cases h
 ·exact ⟨[],by rw [(root_some h).1]; rfl⟩
 ·rw [(root_some h).2]
 ·rw [(root_some h).2] at he; cases he
theorem TOne.made (h:TreeLaw W w tb rootT):TOne W w tb rootT 1:=⟨h,one_root,TBnd.root⟩
theorem rowTx (h:RowV w 9 v (L.map encN)):∃ a cap,v=.slice a L.length cap∧StrsIn w a (L.map txN):=by
 have e:L.map encN=(L.map txN).map encS:=by rw [List.map_map]; rfl
 rw [e] at h
 obtain ⟨a,cap,rfl,h1,_⟩:=RowV.strs h
 exact ⟨a,cap,by rw [List.length_map],h1⟩
theorem last_is (h:0≤x.2∧x.2 < 60) (hz:(txN x).size≤100000) (w:World) :
  Calls Tryd.prog 10 #[.string (txN x),.string ⟨#[61]⟩] w fun e w' => e=.returned (.int .i64 ((txP x.1).size:Nat))∧w'=w:=by
 refine (Any.strings_LastIndex laysLastI (txN x) ⟨#[61]⟩ (by omega) w).mono ?_
 rintro e w' ⟨rfl,hw⟩
 refine ⟨?_,hw⟩
 rw [← txN_last h]
theorem cnt_look {mm:List (ByteArray×Int)} {E:List (List ByteArray×Int)} {m:Nat} (h:MapIs w m .string encS encI mm) (hc:CntM mm E) (key:ByteArray) :
  (Instr.lookup 35 (.map (some m)) (.string key) false).run Tryd.prog w=.ok (.int .i64 (cN E key:Int)) w:=by
 have lk:=h.run_lookup (P:=Tryd.prog) keyS Tryd.underlying35 Tryd.underlying9 (zeroInt w) key false
 rw [hc key] at lk
 by_cases e:cN E key=0
 ·rw [if_pos e] at lk
  rw [e]
  exact lk
 ·rw [if_neg e] at lk
  exact lk
theorem all_paths (h:TOne W w tb T k) (hT:Tab w) (hk:k < 1000) :
  Calls Tryd.prog 6 #[.pointer (some ⟨tb,0,none⟩),.string ⟨#[47]⟩,.int .i64 0] w fun e w' => ∃ v,e=.returned v∧RowV w' 9 v ((allP T).map encN)∧TRow W w' tb T k v ((allP T).map encN)∧Turn (fun _ => False) w w'∧(∀ g,v.ownBlock=some g→w.heap.size≤g):=by
 have h1:=paths_at (W:=W) (tb:=tb) (T:=T) (k:=k) (T.length+1) [] 0 w h hT hk rfl (by simp)
 refine h1.mono ?_
 rintro e w' ⟨v,rfl,r,t,hf⟩
 exact ⟨v,rfl,r,h.beside r t hf,t,hf⟩
theorem all_tx (h:TOne W w tb T k) (hk:k < 1000):(allP T).length≤1000000∧∀ x∈allP T,(0≤x.2∧x.2 < 60)∧goP T 0 x.1=some x.2∧(txP x.1).size≤1000∧(numB x.2).size≤2:=by
 refine ⟨by have:=h.one.all_len h.bnd; omega,fun x hx => ?_⟩
 have hn:=h.one.nums hx
 have hg:=h.one.all_iff.1 hx
 have hd:=h.one.depth hg
 have hz:=h.one.ok.size
 exact ⟨hn,hg,txP_size (fun s hs => (h.one.nms hg s hs).1) (by omega),numB_size hn⟩
theorem same_paths {a3:Option Addr} {cap3:Nat} (h3:RowV w 9 (.slice a3 L.length cap3) (L.map encN)) (h6:RowV w 9 v (L.map encN)) (hl:L.length≤1000000) :
  ∃ a6 cap6,v=.slice a6 L.length cap6∧Calls Tryd.prog 8 #[.slice a6 L.length cap6,.slice a3 L.length cap3] w fun e w'' => e=.returned (.bool true)∧Turn (fun _ => False) w w'':=by
 obtain ⟨a,c,e,s3⟩:=rowTx h3
 obtain ⟨a6,c6,rfl,s6⟩:=rowTx h6
 injection e with e1 e2 e3
 subst e1 e3
 refine ⟨a6,c6,rfl,?_⟩
 have h1:=equal_same (L.map txN) a6 a3 c6 cap3 (by rw [List.length_map]; exact hl) s6 s3
 rw [List.length_map] at h1
 exact h1
end
abbrev Nm3:=Int×ByteArray×ByteArray
def Nm3At (w:World) (b off:Nat) (xs:List Nm3):Prop:=∀ (j:Nat) x,xs[j]?=some x →
 w.cell? ⟨b,off+j * 3,none⟩=some (.int .i64 x.1)∧w.cell? ⟨b,off+j * 3+1,none⟩=some (.string x.2.1)∧w.cell? ⟨b,off+j * 3+2,none⟩=some (.string x.2.2)
theorem Nm3At.turned {W w:World} {b off:Nat} {xs:List Nm3} {S:Nat→Prop} (h:Nm3At W b off xs) (t:Turn S W w) (hb:b < W.heap.size) (hn:¬ S b):Nm3At w b off xs:=fun j x hx => by
 obtain ⟨h0,h1,h2⟩:=h j x hx
 exact ⟨(t.cell (a:=⟨b,_,none⟩) hb hn).trans h0,(t.cell (a:=⟨b,_,none⟩) hb hn).trans h1,(t.cell (a:=⟨b,_,none⟩) hb hn).trans h2⟩
theorem treeOne_many (al:Option Addr) (len cap:Nat) (a b:ByteArray) (w:World) (h:30 < len∨60 < a.size∨60 < b.size) :
  Calls Tryd.prog 3 #[.slice al len cap,.string a,.string b] w fun e w' => e=.returned (.bool true)∧Turn (fun _ => False) w w':=by
 by_cases h1:30 < len
 ·have h1':(30:Int) < len:=by omega
  clear h h1
  go_enter Tryd.func3,Tryd.ntmps3
  go_wp2_with fail
  go_returns
  exact ⟨rfl,Turn.refl _ _⟩
 by_cases h2:60 < a.size
 ·have h1':¬ (30:Int) < len:=by omega
  have h2':(60:Int) < a.size:=by omega
  clear h h1 h2
  go_enter Tryd.func3,Tryd.ntmps3
  go_wp2_with fail
  go_returns
  exact ⟨rfl,Turn.refl _ _⟩
 ·have h1':¬ (30:Int) < len:=by omega
  have h2':¬ (60:Int) < a.size:=by omega
  have h3':(60:Int) < b.size:=by omega
  clear h h1 h2
  go_enter Tryd.func3,Tryd.ntmps3
  go_wp2_with fail
  go_returns
  exact ⟨rfl,Turn.refl _ _⟩
theorem treeOne_few (al:Option Addr) (xs:List Nm3) (cap:Nat) (sa sb:ByteArray) (W:World) (hT:Tab W) (hl:xs.length≤30) (ha:sa.size≤60) (hb:sb.size≤60)
  (hc:xs≠[]→∃ b off,al=some ⟨b,off,none⟩∧Nm3At W b off xs∧b < W.heap.size) :
  Calls Tryd.prog 3 #[.slice al xs.length cap,.string sa,.string sb] W fun e w' => e=.returned (.bool true)∧Turn (fun _ => False) W w':=by
 have HC:=hid hc
 have HTb:=hid hT
 obtain ⟨n,hn⟩:∃ n,xs.length=n:=⟨_,rfl⟩
 have HN:=hid hn
 have h1':¬ (30:Int) < n:=by omega
 have h2':¬ (60:Int) < sa.size:=by omega
 have h3':¬ (60:Int) < sb.size:=by omega
 have HA:=hid (And.intro ha hb)
 rw [hn]
 rw [hn] at hl
 clear hc hT hn ha hb
 go_enter Tryd.func3,Tryd.ntmps3
 go_wp2_with fail
 refine (named_is W).mono ?_
 rintro e w1 ⟨rfl,t1⟩
 have HT1:=hid t1
 clear t1
 go_wp2_with fail
 refine (law_new w1).mono ?_
 rintro e w2 ⟨tb,rfl,h2⟩
 have HS0:=hid (TOne.made h2)
 clear h2
 go_wp2_with fail
 clear h1' h2' h3'
 go_loopg [8] (n) (fun gl ix wr => ∃ j:Nat,j+gl=n∧ix=.int .i64 j∧Hid (∃ T,TOne w1 wr tb T (1+2 * j)))
 case atStart => exact ⟨0,by omega,rfl,hid ⟨_,HS0.out⟩⟩
 case round =>
  clear HS0
  obtain ⟨j,hj,rfl,hS⟩:=hrel
  obtain ⟨T,hT⟩:=hS.out
  have HT:=hid hT
  obtain ⟨ga,hga⟩:∃ ga,gk=ga:=⟨_,rfl⟩
  clear hS hT
  have HTu:=hid (HT1.out.trans HT.out.law.turn)
  by_cases hlt:j < n
  ·have hlt':(j:Int) < n:=by omega
   have hj0:(0:Int)≤(j:Int):=by omega
   obtain ⟨⟨z,s,t⟩,hx⟩:∃ x,xs[j]?=some x:=⟨_,List.getElem?_eq_getElem (by rw [HN.out]; exact hlt)⟩
   obtain ⟨b,off,rfl,hO,hb⟩:=HC.out (by rintro rfl; simp at hx)
   obtain ⟨d0,d1,d2⟩:=hO.turned HTu.out hb id j _ hx
   simp only at d0 d1 d2
   clear hO hx
   by_cases l1:60 < s.size
   ·have l1':(60:Int) < s.size:=by omega
    clear l1 d0 d2
    go_wp2_with fail
    go_returns
    exact ⟨rfl,HTu.out⟩
   ·have l1':¬ (60:Int) < s.size:=by omega
    by_cases l2:60 < t.size
    ·have l2':(60:Int) < t.size:=by omega
     clear l1 l2 d0
     go_wp2_with fail
     go_returns
     exact ⟨rfl,HTu.out⟩
    ·have l2':¬ (60:Int) < t.size:=by omega
     have HPa:=hid (all_paths HT.out (HTb.out.turned HTu.out) (by omega))
     have HSz:=hid (show s.size≤60∧t.size≤60 from by omega)
     clear l1 l2
     go_wp2_with fail
     refine HPa.out.mono ?_
     rintro e w3 ⟨v3,rfl,r3,hr3,t3,_⟩
     have HR3:=hid hr3
     have HNm:=hid (name_is hr3 (by omega) (by omega) z HSz.out.1 HSz.out.2)
     have e0:=(t3.cell (lt_of_cell d0) id).trans d0
     have e1:=(t3.cell (lt_of_cell d1) id).trans d1
     have e2:=(t3.cell (lt_of_cell d2) id).trans d2
     clear hr3 r3 t3 d0 d1 d2 l1' l2' HPa
     go_wp2_with fail
     refine HNm.out.mono ?_
     rintro e w4 ⟨rfl,h4⟩
     have HR4:=hid h4
     have HT4:=hid h4.toOne
     have HPb:=hid (all_paths h4.toOne (HTb.out.turned (HT1.out.trans h4.law.turn)) (by omega))
     have HEr:=hid (fun h => nmE_err (T:=T) (z:=z) (s:=s) (t:=t) h)
     clear h4 e0 e1 e2 HNm
     obtain ⟨T',hT'⟩:∃ T',nmT T z s t=T':=⟨_,rfl⟩
     obtain ⟨E,hE⟩:∃ E,nmE T z s t=E:=⟨_,rfl⟩
     rw [hT'] at HR4 HT4 HPb HEr
     rw [hE] at HEr ⊢
     clear hT' hE
     go_wp2_with fail
     refine HPb.out.mono ?_
     rintro e w5 ⟨v5,rfl,r5,hr5,t5,_⟩
     obtain ⟨a3,cap3,rfl,s3⟩:=rowTx (HR4.out.law.row.turned t5 (fun _ _ => id))
     obtain ⟨a5,cap5,rfl,s5⟩:=rowTx r5
     have HT5:=hid (HT4.out.still t5)
     have HS5:=hid s5
     obtain ⟨N3,hN3⟩:∃ N3,(allP T).length=N3:=⟨_,rfl⟩
     obtain ⟨N5,hN5⟩:∃ N5,(allP T').length=N5:=⟨_,rfl⟩
     have HN5:=hid hN5
     have HL5:=hid (show N5≤1000000 from by rw [← hN5]; exact (all_tx HT5.out (by omega)).1)
     have HEq:=hid (show E≠0→∀ w',Turn (fun _ => False) w5 w'→N3=N5∧Calls Tryd.prog 8 #[.slice a3 N3 cap3,.slice a5 N5 cap5] w' fun e w'' => e=.returned (.bool true)∧Turn (fun _ => False) w' w'' from fun h w' tt => by
      have e1:=HEr.out h
      rw [← hN3,← hN5,e1]
      refine ⟨rfl,?_⟩
      rw [e1] at s5
      have h1:=equal_same ((allP T).map txN) a3 a5 cap3 cap5 (by rw [List.length_map]; have:=HL5.out; rw [← hN5,e1] at this; exact this) (s3.turned tt (fun _ _ => id)) (s5.turned tt (fun _ _ => id))
      rw [List.length_map] at h1
      exact h1)
     have HCo:=hid (fun w' (tt:Turn (fun _ => False) w5 w') => by
      have h1:=contains_no (x:=errS) ((allP T').map txN) a5 cap5 (by rw [List.length_map,hN5]; exact HL5.out) (s5.turned tt (fun _ _ => id)) (fun u hu => by
       obtain ⟨y,_,rfl⟩:=List.mem_map.1 hu
       refine beq_eq_false_iff_ne.2 (fun e => txN_err y ?_)
       exact (bytes_ext (by simpa [ByteArray.toList_eq] using e)).symm)
      rw [List.length_map,hN5] at h1
      exact h1)
     rw [hN3,hN5]
     clear r5 hr5 t5 s3 s5 HR4 HPb HT4 HR3 hN3 hN5 HEr
     rcases Classical.em (E=0) with hz | hz
     subst hz
     rw [show TErr 0=.nilIface from rfl]
     obtain ⟨w6,hw6⟩:∃ w6,w6=w5:=⟨_,rfl⟩
     have HT6:Hid (Turn (fun _ => False) w5 w6):=hid (by rw [hw6]; exact Turn.refl _ _)
     rw [← hw6]
     clear hw6 HEq
     go_wp2_with fail
     rotate_left
     rw [TErr_of hz]
     have hq:=(HEq.out hz w5 (Turn.refl _ _)).1.symm
     subst hq
     have HE2:=hid (HEq.out hz w5 (Turn.refl _ _)).2
     clear HEq hz
     go_wp2_with fail
     go_simp
     go_wp2_with fail
     refine HE2.out.mono ?_
     rintro e w6 ⟨rfl,t6⟩
     have HT6:Hid (Turn (fun _ => False) w5 w6):=hid t6
     clear HE2 t6
     go_wp2_with fail
     all_goals
      refine (HCo.out _ HT6.out).mono ?_
      rintro e w7 ⟨rfl,t7⟩
      have HT7:=hid (HT5.out.still (HT6.out.trans t7))
      have HS7:=hid (HS5.out.turned (HT6.out.trans t7) (fun _ _ => id))
      clear t7 HCo HT6 HT5 HS5
      have hmm:=@run_makeMap Tryd.prog
      obtain ⟨m1,hm1⟩:∃ m1,w7.heap.size=m1:=⟨_,rfl⟩
      have k1:MapIs (w7.alloc (.map #[] 0)) w7.heap.size .string encS encI ([]:List (ByteArray×Int)):=MapIs.made w7
      have t8:Turn (fun _ => False) w7 (w7.alloc (.map #[] 0)):=(Turn.refl _ _).alloc _
      have z8:(w7.alloc (.map #[] 0)).heap.size=m1+1:=by rw [World.size_alloc,hm1]
      obtain ⟨w8,hw8⟩:∃ w8,w7.alloc (.map #[] 0)=w8:=⟨_,rfl⟩
      rw [hm1,hw8] at k1
      rw [hw8] at t8 z8
      obtain ⟨m2,hm2⟩:∃ m2,w8.heap.size=m2:=⟨_,rfl⟩
      have k2:MapIs (w8.alloc (.map #[] 0)) w8.heap.size .string encS encI ([]:List (ByteArray×Int)):=MapIs.made w8
      have t9:Turn (fun _ => False) w8 (w8.alloc (.map #[] 0)):=(Turn.refl _ _).alloc _
      obtain ⟨w9,hw9⟩:∃ w9,w8.alloc (.map #[] 0)=w9:=⟨_,rfl⟩
      rw [hm2,hw9] at k2
      rw [hw9] at t9
      have hne:m1≠m2:=by omega
      have HMs:=hid (show MapIs w9 m1 .string encS encI ([]:List (ByteArray×Int))∧MapIs w9 m2 .string encS encI ([]:List (ByteArray×Int)) from ⟨k1.turned t9 id,k2⟩)
      have HTm:=hid (((HT7.out.apart (fun q => q=m1∨q=m2) (fun q hq => by rcases hq with rfl | rfl <;> omega)).still t8).still t9)
      have HS9:=hid ((HS7.out.turned t8 (fun _ _ => id)).turned t9 (fun _ _ => id))
      have HNa:Hid (∀ x,a5=some x→¬ (x.block=m1∨x.block=m2)):=hid (fun x hx h => by
       rcases HS7.out with h0 | ⟨g,o,h1,hg,_⟩
       ·have h1:=List.map_eq_nil_iff.1 h0
        unfold allP preT at h1
        cases h1
       ·rw [hx] at h1
        cases h1
        rcases h with h | h <;> (simp only at h; omega))
      have HNe:=hid hne
      have HX9:=hid (And.intro (show w7.heap.size+1=m2 by omega) (And.intro hm1 (And.intro hw8 hw9)))
      clear k1 k2 t8 t9 hne hm1 hw8 hm2 hw9 z8 HT7 HS7
      go_wp2_with fail
      rw [HX9.out.1,HX9.out.2.1,HX9.out.2.2.1,HX9.out.2.2.2]
      clear HX9 hmm
      go_loopg [14] (N5) (fun gl ix wr2 => ∃ (i:Nat) (mm dd:List (ByteArray×Int)),i+gl=N5∧ix=.int .i64 i∧Hid (TMap w1 wr2 tb T' (1+2 * j+2) (fun q => q=m1∨q=m2)∧MapIs wr2 m1 .string encS encI mm∧MapIs wr2 m2 .string encS encI dd∧CntM mm ((allP T').take i)∧CntM dd (dirsOf T' ((allP T').take i))∧StrsIn wr2 a5 ((allP T').map txN)))
      case atStart => exact ⟨0,[],[],by omega,rfl,hid ⟨HTm.out,HMs.out.1,HMs.out.2,CntM.nil,CntM.nil,HS9.out⟩⟩
      case round =>
       clear HTm HMs HS9
       obtain ⟨i,mm,dd,hi,rfl,hS⟩:=hrel
       by_cases hil:i < N5
       ·have hil':(i:Int) < N5:=by omega
        have hi0:(0:Int)≤(i:Int):=by omega
        obtain ⟨hTm,hM1,hM2,hC1,hC2,hSt⟩:=hS.out
        obtain ⟨x,hx⟩:∃ x,(allP T')[i]?=some x:=⟨_,List.getElem?_eq_getElem (by rw [HN5.out]; exact hil)⟩
        have htk:(allP T').take (i+1)=(allP T').take i ++ [x]:=by rw [List.take_add_one,hx]; rfl
        obtain ⟨hn,hg,hp1,hp2⟩:=(all_tx hTm.toOne (by omega)).2 x (List.mem_of_getElem? hx)
        obtain ⟨g,o1,rfl,hgl,hcs⟩:=hSt.resolve_left (by intro e; rw [List.map_eq_nil_iff.1 e] at hx; cases hx)
        have c0:=hcs i (txN x) (by rw [List.getElem?_map,hx]; rfl)
        have hla:=fun w' => last_is (x:=x) hn (by rw [txN_size]; omega) w'
        have e1:=txN_path x
        have e2:=txN_num x
        have hsz:=txN_size x
        have hls:=fun w' (h:TOne w1 w' tb T' (1+2 * j+2)) => one_list h (by omega) hg
        have hq1:=hC1.put (x:=x)
        have hq2:=hC2.put (x:=x)
        have hl1:=fun w' (h:MapIs w' m1 .string encS encI mm) => cnt_look h hC1 (numB x.2)
        have hl2:=fun w' (h:MapIs w' m2 .string encS encI dd) => cnt_look h hC2 (numB x.2)
        have hb1:cN ((allP T').take i) (numB x.2)≤1000000:=Nat.le_trans cN_le (Nat.le_trans (List.length_take_le _ _) (by have:=HL5.out; omega))
        have hb2:cN (dirsOf T' ((allP T').take i)) (numB x.2)≤1000000:=Nat.le_trans cN_le (Nat.le_trans (List.length_filter_le _ _) (Nat.le_trans (List.length_take_le _ _) (by have:=HL5.out; omega)))
        rw [← htk] at hq1
        obtain ⟨ca,hca⟩:∃ ca,cN ((allP T').take i) (numB x.2)=ca:=⟨_,rfl⟩
        obtain ⟨cb,hcb⟩:∃ cb,cN (dirsOf T' ((allP T').take i)) (numB x.2)=cb:=⟨_,rfl⟩
        rw [hca] at hq1 hl1 hb1
        rw [hcb] at hq2 hl2 hb2
        have hd:(isDirT T' x.2=true∧CntM (mput dd (numB x.2) ((cb:Int)+1)) (dirsOf T' ((allP T').take (i+1))))∨(isDirT T' x.2=false∧CntM dd (dirsOf T' ((allP T').take (i+1)))):=by
         cases hdd:isDirT T' x.2 with
         | true => exact .inl ⟨rfl,by rw [htk]; unfold dirsOf at hq2 ⊢; rw [List.filter_append,List.filter_cons,if_pos hdd]; exact hq2⟩
         | false => exact .inr ⟨rfl,by rw [htk]; unfold dirsOf at hC2 ⊢; rw [List.filter_append,List.filter_cons,if_neg (by rw [hdd]; exact Bool.false_ne_true)]; simpa using hC2⟩
        have HD:=hid hd
        have HQ1:=hid hq1
        obtain ⟨B,hB⟩:∃ B,numB x.2=B:=⟨_,rfl⟩
        obtain ⟨P,hP⟩:∃ P,txP x.1=P:=⟨_,rfl⟩
        obtain ⟨Sx,hSx⟩:∃ Sx,txN x=Sx:=⟨_,rfl⟩
        obtain ⟨q,hq⟩:∃ q,P.size=q:=⟨_,rfl⟩
        obtain ⟨zz,hzz⟩:∃ zz,Sx.size=zz:=⟨_,rfl⟩
        rw [hSx,hP,hq] at hla
        rw [hP,hq] at hp1
        rw [hSx,hP,hq] at e1
        rw [hSx,hP,hq,hB,hzz] at e2
        rw [hSx,hP,hB,hzz,hq] at hsz
        rw [hP] at hls
        rw [hB] at hl1 hl2 HD HQ1
        rw [hSx] at c0
        have HLa:=hid hla
        have HLs:=hid hls
        rw [hsz] at e2
        have HE:=hid (And.intro e1 e2)
        have hs1:¬ (zz:Int) < q:=by omega
        have hs2:¬ (zz:Int) < (q:Int)+1:=by omega
        have hq0:(0:Int)≤(q:Int):=by omega
        have hq01:(0:Int)≤(q:Int)+1:=by omega
        have hw1:IntKind.i64.wrap ((q:Int)+1)=(q:Int)+1:=IntWalk.i64_in _ (by omega)
        have hw2:IntKind.i64.wrap ((ca:Int)+1)=(ca:Int)+1:=IntWalk.i64_in _ (by omega)
        have hw3:IntKind.i64.wrap ((cb:Int)+1)=(cb:Int)+1:=IntWalk.i64_in _ (by omega)
        have HSS:=hid (show TMap w1 wr tb T' (1+2 * j+2) (fun q => q=m1∨q=m2)∧MapIs wr m1 .string encS encI mm∧MapIs wr m2 .string encS encI dd∧StrsIn wr (some ⟨g,o1,none⟩) ((allP T').map txN) from ⟨hTm,hM1,hM2,hSt⟩)
        have HL1:=hid hl1
        have HL2:=hid hl2
        clear hS hTm hM1 hM2 hC1 hC2 hSt hx htk hn hg hp2 hgl hcs hla e1 e2 hls hq1 hq2 hl1 hl2 hca hcb hd hB hP hSx
        go_wp2_with fail
        refine (HLa.out _).mono ?_
        rintro e w10 ⟨rfl,hw⟩; subst w10
        clear HLa
        go_wp2_with fail
        go_quiet (fail)
        go_upto_region 26 with fail
        rw [HE.out.1,HE.out.2]
        have td:Turn (fun _ => False) wr (wr.drewN nq):=(Turn.refl _ _).drewN nq
        have HSD:=hid (And.intro (HSS.out.1.still td) (And.intro (HSS.out.2.1.turned td id) (And.intro (HSS.out.2.2.1.turned td id) (HSS.out.2.2.2.turned td (fun _ _ => id)))))
        clear HE HSS c0 td hs1 hs2 hq0 hq01 hw1 hsz hq hzz hp1
        generalize wr.drewN nq=wd at HSD ⊢
        have lk:=HL1.out wd HSD.out.2.1
        go_wp2_with (at_mapUpdate; refine wpList_mapput rfl _ _ _ 35 9 3 rfl Tryd.underlying35 Tryd.underlying9 keyS m1 rfl HSD.out.2.1 B rfl ((ca:Int)+1) rfl ?_; intro w11 hm11 t11; have HM11:=hid hm11; have HT11:=hid t11; clear hm11 t11)
        have HS11:=hid (And.intro (HSD.out.1.turned (HT11.out.mono (fun _ _ e => .inl e))) (And.intro HM11.out (And.intro (HSD.out.2.2.1.turned HT11.out (fun e => HNe.out e.symm)) (HSD.out.2.2.2.turned HT11.out (fun y hy e => HNa.out y hy (.inl e))))))
        clear lk HSD HM11 HT11 HL1
        refine (HLs.out _ HS11.out.1.toOne).mono ?_
        rintro e w12 ⟨la,lcap,rfl,_,t12,_⟩
        have HS12:=hid (And.intro (HS11.out.1.still t12) (And.intro (HS11.out.2.1.turned t12 id) (And.intro (HS11.out.2.2.1.turned t12 id) (HS11.out.2.2.2.turned t12 (fun _ _ => id)))))
        clear HLs HS11 t12
        rcases HD.out with ⟨hd,hc⟩ | ⟨hd,hc⟩
        ·rw [hd,if_pos rfl,show TErr 0=.nilIface from rfl]
         have HCd:=hid hc
         have lk:=HL2.out w12 HS12.out.2.2.1
         clear hd hc HD
         go_wp2_with (at_mapUpdate; refine wpList_mapput rfl _ _ _ 35 9 3 rfl Tryd.underlying35 Tryd.underlying9 keyS m2 rfl HS12.out.2.2.1 B rfl ((cb:Int)+1) rfl ?_; intro w13 hm13 t13; have HM13:=hid hm13; have HT13:=hid t13; clear hm13 t13)
         have hn5:=HL5.out
         have HWi:=hid (show wrap64 ((i:Int)+1)=((i+1:Nat):Int) from by rw [IntWalk.wrap64_in _ (by omega)]; omega)
         clear hw2 hw3
         go_roundg (gk - 1)
         case measure => omega
         case rel => exact ⟨i+1,_,_,by omega,congrArg (Value.int .i64) HWi.out,hid ⟨HS12.out.1.turned (HT13.out.mono (fun _ _ e => .inr e)),HS12.out.2.1.turned HT13.out HNe.out,HM13.out,HQ1.out,HCd.out,HS12.out.2.2.2.turned HT13.out (fun y hy e => HNa.out y hy (.inr e))⟩⟩
        ·rw [hd,if_neg Bool.false_ne_true,show TErr 6=.iface 55 (.int .i64 6) from rfl]
         have HCd:=hid hc
         clear hd hc HD
         go_wp2_with fail
         have hn5:=HL5.out
         have HWi:=hid (show wrap64 ((i:Int)+1)=((i+1:Nat):Int) from by rw [IntWalk.wrap64_in _ (by omega)]; omega)
         clear hw2 hw3
         go_roundg (gk - 1)
         case measure => omega
         case rel => exact ⟨i+1,_,_,by omega,congrArg (Value.int .i64) HWi.out,hid ⟨HS12.out.1,HS12.out.2.1,HS12.out.2.2.1,HQ1.out,HCd.out,HS12.out.2.2.2⟩⟩
       ·have hie:i=N5:=by omega
        subst hie
        obtain ⟨hTm,hM1,hM2,hC1,hC2,_⟩:=hS.out
        rw [← HN5.out,List.take_length] at hC1 hC2
        have HNn:=hid (law_nodes (hTm.toOne).law)
        have hml:=hTm.one.nodes_len hM1.nodup hC1
        have HD1:=hid (fun key v (h:mget dd key=some v) => hTm.one.dirs_one hC1 hC2 h)
        have HSS:=hid (And.intro hTm (And.intro hM1 hM2))
        have hnd:=hM2.nodup
        clear hS hTm hM1 hM2 hC1 hC2
        go_wp2_with (at_len; refine wpList_maplen rfl _ 35 9 3 rfl Tryd.underlying35 m1 rfl HSS.out.2.1 ?_)
        refine HNn.out.mono ?_
        rintro e w14 ⟨rfl,hw⟩; subst w14
        obtain ⟨LN,hLN⟩:∃ LN,T'.length=LN:=⟨_,rfl⟩
        rw [hLN]
        rw [hLN] at hml
        clear HNn hLN
        go_wp2_with (at_range; refine wpList_maprange rfl _ _ 9 3 rfl Tryd.underlying35 rfl HSS.out.2.2 ?_; intro w15 hR15 t15 hs15; have HR15:=hid hR15; have HT15:=hid t15; have HSz:=hid hs15; clear hR15 t15 hs15)
        obtain ⟨r,hrr⟩:∃ r,wr.heap.size=r:=⟨_,rfl⟩
        rw [hrr] at HR15
        rw [hrr]
        have HSR:=hid (show TMap w1 w15 tb T' (1+2 * j+2) (fun q => q=r)∧MapIs w15 m1 .string encS encI mm∧MapIs w15 m2 .string encS encI dd from
         ⟨(HSS.out.1.toOne.apart (fun q => q=r) (fun q e => by rw [e,hrr]; exact Nat.le_refl _)).still HT15.out,HSS.out.2.1.turned HT15.out id,HSS.out.2.2.turned HT15.out id⟩)
        have HNr:=hid (show m1≠r∧m2≠r from ⟨fun e => by have:=HSS.out.2.1.lt; omega,fun e => by have:=HSS.out.2.2.lt; omega⟩)
        have HNd:=hid hnd
        clear HSS HT15 hrr hnd HSz
        go_frame
        go_loopg [20] (dd.length) (fun gl _ wr => ∃ seenK:ByteArray→Prop,Hid (RangeOf wr m2 r encS encI dd seenK gl)∧Hid (TMap w1 wr tb T' (1+2 * j+2) (fun q => q=r)∧MapIs wr m1 .string encS encI mm∧MapIs wr m2 .string encS encI dd))
        case atStart => exact ⟨_,HR15,HSR⟩
        case round =>
         clear HR15 HSR
         obtain ⟨seenK,hR,hS⟩:=hrel
         go_wp2_with (at_next; refine wpList_mapnext rfl _ rfl rfl hR.out ?_ ?_)
         ·intro hall
          clear hall
          go_wp2_with fail
          go_roundg (ga - 1)
          case measure => omega
          case rel => exact ⟨j+1,by omega,by go_num,hid ⟨T',hS.out.1.toOne.mono (by omega)⟩⟩
         ·intro key v w16 cnt' hpm hns hR5 hlt5 t5 hsz5 hen
          (try simp only at hns hen)
          have HS16:=hid (show TMap w1 w16 tb T' (1+2 * j+2) (fun q => q=r)∧MapIs w16 m1 .string encS encI mm∧MapIs w16 m2 .string encS encI dd from ⟨hS.out.1.turned t5,hS.out.2.1.turned t5 HNr.out.1,hS.out.2.2.turned t5 HNr.out.2⟩)
          have hv:=mget_mem HNd.out hpm
          obtain ⟨rfl,hv2⟩:=HD1.out key v hv
          have lk1:=HS16.out.2.1.run_lookup (P:=Tryd.prog) keyS Tryd.underlying35 Tryd.underlying9 (zeroInt w16) key false
          have lk2:=HS16.out.2.2.run_lookup (P:=Tryd.prog) keyS Tryd.underlying35 Tryd.underlying9 (zeroInt w16) key false
          rw [hv2] at lk1
          rw [hv] at lk2
          have lk3:(Instr.lookup 35 (.map (some m1)) (.string key) false).run Tryd.prog w16=.ok (.int .i64 1) w16:=lk1
          have lk4:(Instr.lookup 35 (.map (some m2)) (.string key) false).run Tryd.prog w16=.ok (.int .i64 1) w16:=lk2
          have hen2:(Instr.entry (.pointer (some ⟨r,0,none⟩))).run Tryd.prog w16=.ok (.tuple #[.string key,.int .i64 1]) w16:=hen
          have HR5:=hid hR5
          clear lk1 lk2 hen hv hv2 hpm hns hR5 t5 hsz5
          show wpList _ _ _ _ _ _
          go_wp2_with fail
          go_roundg cnt'
          case measure => omega
          case rel => exact ⟨_,HR5,HS16⟩
  ·have hje:j=n:=by omega
   subst hje
   have HPa:=hid (all_paths HT.out (HTb.out.turned HTu.out) (by omega))
   have HOne:=hid HT.out.one
   go_wp2_with fail
   refine HPa.out.mono ?_
   rintro e w3 ⟨v3,rfl,r3,hr3,t3,_⟩
   obtain ⟨a3,cap3,rfl,s3⟩:=rowTx r3
   obtain ⟨N3,hN3⟩:∃ N3,(allP T).length=N3:=⟨_,rfl⟩
   have HN3:=hid hN3
   have HL3:=hid (show N3≤1000000 from by rw [← hN3]; exact (all_tx HT.out (by omega)).1)
   have HRn:=hid (one_rename hr3 HA.out.1 HA.out.2)
   rw [hN3] at HRn ⊢
   clear r3 hr3 t3 s3 HPa HTu hN3
   go_wp2_with fail
   refine HRn.out.mono ?_
   rintro e w4 ⟨rfl,h4⟩
   clear HRn HT
   have HTb4:=hid (HTb.out.turned (HT1.out.trans h4.law.turn))
   by_cases hz:moveE T sa sb=0
   ·rw [hz,show TErr 0=.nilIface from rfl]
    have hag:moveE (moveT T sa sb) sb sa=0∧∀ T2,T2=moveT (moveT T sa sb) sb sa→One T2→allP T2=allP T:=by
     obtain ⟨d,u,n',e',u',ld,le,hm⟩:=HOne.out.moved hz
     obtain ⟨g1,g2⟩:=hm.again HOne.out h4.one
     exact ⟨g1,fun T2 e2 h2 => allP_same HOne.out h2 (g2 T2 e2 h2).1 (g2 T2 e2 h2).2⟩
    have HAg:=hid hag.2
    have hrn:=one_rename h4 HA.out.2 HA.out.1
    rw [hag.1,show TErr 0=.nilIface from rfl] at hrn
    have HRn:=hid hrn
    clear hag hrn h4 hz
    go_wp2_with fail
    refine HRn.out.mono ?_
    rintro e w5 ⟨rfl,h5⟩
    have HR5:=hid h5
    have HPb:=hid (all_paths h5.toOne (HTb.out.turned (HT1.out.trans h5.law.turn)) (by omega))
    clear h5 HRn
    go_wp2_with fail
    refine HPb.out.mono ?_
    rintro e w6 ⟨v6,rfl,r6,hr6,t6,_⟩
    have hal:=HAg.out _ rfl hr6.one
    rw [hal] at r6
    have r3:=HR5.out.law.row.turned t6 (fun _ _ => id)
    rw [← HN3.out] at r3
    obtain ⟨a6,cap6,rfl,hq⟩:=same_paths r3 r6 (by rw [HN3.out]; exact HL3.out)
    rw [HN3.out] at hq ⊢
    have HQ:=hid hq
    have HTf:=hid (HT1.out.trans hr6.law.turn)
    clear hal r6 r3 hq hr6 t6 HPb HR5 HAg
    go_wp2_with fail
    refine HQ.out.mono ?_
    rintro e w7 ⟨rfl,t7⟩
    have HTg:=hid (HTf.out.trans t7)
    clear t7
    go_wp2_with fail
    go_returns
    exact ⟨rfl,HTg.out⟩
   ·rw [TErr_of hz]
    have hmv:moveT T sa sb=T:=if_neg hz
    rw [hmv] at h4
    have HR4:=hid h4
    have HPb:=hid (all_paths h4.toOne HTb4.out (by omega))
    obtain ⟨E,hE⟩:∃ E,moveE T sa sb=E:=⟨_,rfl⟩
    rw [hE]
    clear h4 hmv hz hE
    go_wp2_with fail
    go_simp
    go_wp2_with fail
    refine HPb.out.mono ?_
    rintro e w6 ⟨v6,rfl,r6,hr6,t6,_⟩
    have r3:=HR4.out.law.row.turned t6 (fun _ _ => id)
    rw [← HN3.out] at r3
    obtain ⟨a6,cap6,rfl,hq⟩:=same_paths r3 r6 (by rw [HN3.out]; exact HL3.out)
    rw [HN3.out] at hq ⊢
    have HQ:=hid hq
    have HTf:=hid (HT1.out.trans hr6.law.turn)
    clear r6 r3 hq hr6 t6 HPb HR4
    go_wp2_with fail
    refine HQ.out.mono ?_
    rintro e w7 ⟨rfl,t7⟩
    have HTg:=hid (HTf.out.trans t7)
    clear t7
    go_wp2_with fail
    go_returns
    exact ⟨rfl,HTg.out⟩
end Go.Proofs.YtacoaahomdjfnaaDoor
