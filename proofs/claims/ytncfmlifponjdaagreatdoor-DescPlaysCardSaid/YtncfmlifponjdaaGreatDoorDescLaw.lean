/- Files and tables of a law's own: each call of package desc, told over the plain state alone. Conditions: each theorem's own premises. Package desc, plain: what each call keeps of what is open. No program in sight. Conditions: each theorem's own premises. Package desc, plain: how many numbers each entry has, over all tables. No program in sight. Conditions: each theorem's own premises. Package desc: Clear, Exec, Dup2. Conditions: each theorem's own premises. Package desc: Exec. Conditions: each theorem's own premises. Package desc, plain: what File and Pipe keep. No program in sight. Conditions: each theorem's own premises. A tree of files in the directory of all alone: what keeps it so. Plain, no program in sight. Conditions: each theorem's own premises. Package desc: Dup2. Conditions: each theorem's own premises. Package desc: Pipe. Conditions: each theorem's own premises. Package desc, plain: what each call keeps, all in one. No program in sight. Conditions: each theorem's own premises. Package desc, plain: how many names, holds and entries a node may have behind each call. No program in sight. Conditions: each theorem's own premises. Package desc, plain: each node has a name or is held, kept by each call. No program in sight. Conditions: each theorem's own premises. The law's helper fd: one call of package desc, whichever. Condition: errors.errorType holds what is laid; each theorem's own premises. Files and tables of a law's own beside a row of pointers to the tables: what DescCloses asks. Conditions: each theorem's own premises. Files and tables of a law's own, and a row of pointers to the tables. Conditions: each theorem's own premises. -/
import Derived.Test.YtncfmlifponjdaaGreatDoorDescTab
import Derived.Test.YtncfmlifponjdaaGreatDoorTreeList
import Derived.Test.YtncfmlifponjdaaGreatDoorPaths
import Derived.Test.YtncfmlifponjdaaGreatDoorPipe
import Derived.Test.YtncfmlifponjdaaGreatDoorRefNames
import Derived.Test.YtncfmlifponjdaaGreatDoorBase
namespace Go.Proofs.YtncfmlifponjdaaGreatDoor
open Go.RowKit
set_option linter.unusedVariables false
set_option maxHeartbeats 4000000
set_option maxRecDepth 100000
structure Base where
 w:World
 old:Nat→Prop
def base (W:World):Base:=⟨W,fun k => k < W.heap.size⟩
structure DLawB (W:Base) (w:World) (fb tb:Nat) (S:PS) (ts:List (Nat×PTab)):Prop where
 files:∃ F,FilesIs w fb tb S F∧(∀ k,F k→¬ W.old k)∧∀ (j:Nat) (x:Nat×PTab),ts[j]?=some x→¬ F x.1
 tabs:∀ (j:Nat) (x:Nat×PTab),ts[j]?=some x→TabIs w x.1 x.2∧¬ W.old x.1
 apart:∀ (i j:Nat) (x y:Nat×PTab),ts[i]?=some x→ts[j]?=some y→i≠j→x.1≠y.1
 turn:Turn (fun k => ¬ W.old k) W.w w
 low:∀ k,W.old k→k < W.w.heap.size
def LaidB (W:Base):Prop:=Laid W.w∧W.old 0
def noTab:PTab:=fun _ => (0,false)
section
variable {W:Base} {w w' w1 w2:World} {fb tb tab:Nat} {S S':PS} {L L':PTab} {ts:List (Nat×PTab)} {F:Nat→Prop} {i:Nat} {n:Int} {T:PT}
theorem DLawB.still (h:DLawB W w fb tb S ts) (t:Turn (fun _ => False) w w'):DLawB W w' fb tb S ts:=by
 obtain ⟨F,h1,h2,h3⟩:=h.files
 exact ⟨⟨F,h1.turned t (fun _ _ => id),h2,h3⟩,fun j x hx => ⟨(h.tabs j x hx).1.turned t id,(h.tabs j x hx).2⟩,h.apart,h.turn.trans (no_turn t),h.low⟩
theorem set_get {x y:Nat×PTab} {j:Nat} (hi:ts[i]?=some x) (h:(ts.set i (x.1,L'))[j]?=some y):(j=i∧y=(x.1,L'))∨(j≠i∧ts[j]?=some y):=by
 by_cases e:j=i
 ·subst e
  rw [List.getElem?_set_self (by rcases Nat.lt_or_ge j ts.length with h1 | h1; exact h1; rw [List.getElem?_eq_none h1] at hi; cases hi)] at h
  exact .inl ⟨rfl,(Option.some.inj h).symm⟩
 ·rw [List.getElem?_set_ne (fun h => e h.symm)] at h
  exact .inr ⟨e,h⟩
theorem DLawB.fresh (h:DLawB W w fb tb S ts) {k:Nat} (hk:w.heap.size≤k):¬ W.old k:=fun ho => by
 have h1:=h.low k ho
 have h2:=h.turn.size
 omega
theorem DLawB.step (h:DLawB W w fb tb S ts) (hi:ts[i]?=some (tab,L)) (hF:∀ k,F k→¬ W.old k) (hn:∀ (j:Nat) (x:Nat×PTab),ts[j]?=some x→¬ F x.1) (hto:FilesTo fb tb tab F w w' S' L'):DLawB W w' fb tb S' (ts.set i (tab,L')):=by
 obtain ⟨F',a,b,t,c,d⟩:=hto
 have hs:∀ (j:Nat) (y:Nat×PTab),(ts.set i (tab,L'))[j]?=some y→(j=i∧y=(tab,L'))∨(j≠i∧ts[j]?=some y):=fun j y hy => set_get hi hy
 refine ⟨⟨F',a,fun k hk => ?_,fun j y hy => ?_⟩,fun j y hy => ?_,fun j k x y hx hy hne => ?_,h.turn.trans' t (fun k hk hx => ?_),h.low⟩
 ·rcases c k hk with h1 | h1
  ·exact hF k h1
  ·exact h.fresh h1
 ·rcases hs j y hy with ⟨_,rfl⟩ | ⟨_,h2⟩
  ·exact d
  ·intro hx
   rcases c _ hx with h1 | h1
   ·exact hn j y h2 h1
   ·have:=(h.tabs j y h2).1.lt; omega
 ·rcases hs j y hy with ⟨_,rfl⟩ | ⟨h1,h2⟩
  ·exact ⟨b,(h.tabs i _ hi).2⟩
  ·exact ⟨(h.tabs j y h2).1.turned t (fun hx => hx.elim (hn j y h2) (fun e => h.apart j i _ _ h2 hi h1 e)),(h.tabs j y h2).2⟩
 ·rcases hs j x hx with ⟨rfl,rfl⟩ | ⟨h1,h2⟩
  ·rcases hs k y hy with ⟨rfl,rfl⟩ | ⟨h3,h4⟩
   ·exact absurd rfl hne
   ·exact h.apart j k (tab,L) y hi h4 hne
  ·rcases hs k y hy with ⟨rfl,rfl⟩ | ⟨h3,h4⟩
   ·exact h.apart j k x (tab,L) h2 hi hne
   ·exact h.apart j k _ _ h2 h4 hne
 ·rcases hx with hx | rfl
  ·exact hF k hx
  ·exact (h.tabs i _ hi).2
theorem law_file (h:DLawB W w fb tb S ts) (hS:DOk S) (hi:ts[i]?=some (tab,L)) (hL:LaidB W) (path:ByteArray) (hs:path.size < 4294967281) (prot:Int) (makes:Bool) :
  Calls Tryz.prog 22 #[.pointer (some ⟨fb,0,none⟩),.pointer (some ⟨tab,0,none⟩),.string path,.int .i64 prot,.bool makes] w fun e w' => e=.returned (.tuple #[.int .i64 (openK S L path prot makes),TErr (openE S L path prot makes)])∧DLawB W w' fb tb (openS S L path prot makes) (ts.set i (tab,openL S L path prot makes)):=by
 obtain ⟨F,h1,h2,h3⟩:=h.files
 exact (file_is_open h1 hS (h.tabs i _ hi).1 (h3 i _ hi) (hL.1.turned h.turn (fun hx => hx hL.2)) (fun hx => h2 _ hx hL.2) path hs prot makes).mono fun e w' x => ⟨x.1,h.step hi h2 h3 x.2⟩
theorem law_dup (h:DLawB W w fb tb S ts) (hS:DOk S) (hi:ts[i]?=some (tab,L)) (hok:TabOk S L) (n:Int) (hb:∀ k e,mget S.es k=some e→e.refs < 1000000) :
  Calls Tryz.prog 26 #[.pointer (some ⟨fb,0,none⟩),.pointer (some ⟨tab,0,none⟩),.int .i64 n] w fun e w' => e=.returned (.tuple #[.int .i64 (dupK S L n),TErr (dupE S L n)])∧DLawB W w' fb tb (dupS S L n) (ts.set i (tab,dupL S L n)):=by
 obtain ⟨F,h1,h2,h3⟩:=h.files
 exact (dup_is h1 hS (h.tabs i _ hi).1 hok (h3 i _ hi) n hb).mono fun e w' x => ⟨x.1,h.step hi h2 h3 x.2⟩
theorem law_seek (h:DLawB W w fb tb S ts) (hi:ts[i]?=some (tab,L)) (hok:TabOk S L) (n at':Int) :
  Calls Tryz.prog 38 #[.pointer (some ⟨fb,0,none⟩),.pointer (some ⟨tab,0,none⟩),.int .i64 n,.int .i64 at'] w fun e w' => e=.returned (TErr (seekE S L n at'))∧DLawB W w' fb tb (seekS S L n at') (ts.set i (tab,L)):=by
 obtain ⟨F,h1,h2,h3⟩:=h.files
 exact (seek_is h1 (h.tabs i _ hi).1 hok (h3 i _ hi) n at').mono fun e w' x => ⟨x.1,h.step hi h2 h3 x.2⟩
theorem law_dread (h:DLawB W w fb tb S ts) (hS:DOk S) (hi:ts[i]?=some (tab,L)) (hok:TabOk S L) (n many:Int) :
  Calls Tryz.prog 34 #[.pointer (some ⟨fb,0,none⟩),.pointer (some ⟨tab,0,none⟩),.int .i64 n,.int .i64 many] w fun e w' => e=.returned (.tuple #[.string (rdB S L n many),TErr (rdE S L n many)])∧DLawB W w' fb tb (rdS S L n many) (ts.set i (tab,L)):=by
 obtain ⟨F,h1,h2,h3⟩:=h.files
 exact (dread_is h1 hS (h.tabs i _ hi).1 hok (h3 i _ hi) n many).mono fun e w' x => ⟨x.1,h.step hi h2 h3 x.2⟩
theorem law_dwrite (h:DLawB W w fb tb S ts) (hS:DOk S) (hi:ts[i]?=some (tab,L)) (hok:TabOk S L) (n:Int) (s:ByteArray) (hs:s.size≤1000000) (most:Int) (hm1:-9223372036854775808≤most) (hm2:most≤9223372036854775807) :
  Calls Tryz.prog 36 #[.pointer (some ⟨fb,0,none⟩),.pointer (some ⟨tab,0,none⟩),.int .i64 n,.string s,.int .i64 most] w fun e w' => e=.returned (.tuple #[.int .i64 (wrK S L n s most),TErr (wrE S L n s most)])∧DLawB W w' fb tb (wrS S L n s most) (ts.set i (tab,L)):=by
 obtain ⟨F,h1,h2,h3⟩:=h.files
 exact (dwrite_is h1 hS (h.tabs i _ hi).1 hok (h3 i _ hi) n s hs most hm1 hm2).mono fun e w' x => ⟨x.1,h.step hi h2 h3 x.2⟩
theorem law_close (h:DLawB W w fb tb S ts) (hS:DOk S) (hi:ts[i]?=some (tab,L)) (hok:TabOk S L) (n:Int) :
  Calls Tryz.prog 32 #[.pointer (some ⟨fb,0,none⟩),.pointer (some ⟨tab,0,none⟩),.int .i64 n] w fun e w' => e=.returned (TErr (closeE S L n))∧DLawB W w' fb tb (closeS S L n) (ts.set i (tab,closeL S L n)):=by
 obtain ⟨F,h1,h2,h3⟩:=h.files
 exact (close_is h1 hS (h.tabs i _ hi).1 hok (h3 i _ hi) n).mono fun e w' x => ⟨x.1,h.step hi h2 h3 x.2⟩
/-! ### New -/
def filesObj (tb om:Nat):Obj:=.cells #[.pointer (some ⟨tb,0,none⟩),.map (some om)] 80
end
section
variable {S S':PS} {T T':PT} {es:List (Int×PE)} {e e':PE} {k n:Int} {L L':PTab} {p q:PN} {path:ByteArray}
/-! ### how many entries are of a node -/
theorem heldE_nil (n:Int):heldE n []=0:=rfl
theorem heldE_cons (n:Int) (t:Int×PE) (es:List (Int×PE)):heldE n (t :: es)=(if t.2.kind=1∧t.2.node=n then 1 else 0)+heldE n es:=by
 unfold heldE
 rw [List.filter_cons]
 by_cases h:t.2.kind=1∧t.2.node=n
 ·rw [if_pos (decide_eq_true h),if_pos h,List.length_cons]; omega
 ·rw [if_neg (by simpa using h),if_neg h]; omega
theorem heldE_append (n:Int) (a b:List (Int×PE)):heldE n (a ++ b)=heldE n a+heldE n b:=by
 unfold heldE
 rw [List.filter_append,List.length_append]
def oneOf (n:Int) (e:PE):Nat:=if e.kind=1∧e.node=n then 1 else 0
theorem heldE_new (hk:mget es k=none) (n:Int):heldE n (mput es k e)=heldE n es+oneOf n e:=by
 have h1:mput es k e=es ++ [(k,e)]:=by unfold mput; rw [if_neg (by rw [hk]; simp)]
 rw [h1,heldE_append,heldE_cons,heldE_nil]; rfl
theorem heldE_del (hn:MNodup es) (hk:mget es k=some e) (n:Int):heldE n (mdel es k)+oneOf n e=heldE n es:=by
 induction es with
 | nil => cases hk
 | cons t l ih =>
  have hn':MNodup l:=(List.nodup_cons.1 hn).2
  have hcons:mdel (t :: l) k=if t.1≠k then t :: mdel l k else mdel l k:=by
   unfold mdel
   rw [List.filter_cons]
   by_cases h:t.1≠k
   ·rw [if_pos (decide_eq_true h),if_pos h]
   ·rw [if_neg (by simpa using h),if_neg h]
  by_cases h:t.1=k
  ·have h1:mget (t :: l) k=some t.2:=mget_mem hn (by rw [← h]; exact List.mem_cons_self)
   rw [h1] at hk
   have hk:=Option.some.inj hk
   have hno:mget l k=none:=mget_none_iff.2 fun q hq e2 => (List.nodup_cons.1 hn).1 (List.mem_map.2 ⟨q,hq,by rw [e2,h]⟩)
   rw [hcons,if_neg (by simpa using h),mdel_none hno,heldE_cons,hk]
   unfold oneOf
   omega
  ·have h1:mget l k=some e:=by
    rcases List.mem_cons.1 (mem_of_mget hk) with h3 | h3
    ·exact absurd (by rw [← h3]) h
    ·exact mget_mem hn' h3
   have:=ih hn' h1
   rw [hcons,if_pos h,heldE_cons,heldE_cons]
   omega
theorem heldE_put (hn:MNodup es) (hk:mget es k=some e) (h1:e'.kind=e.kind) (h2:e'.node=e.node) (n:Int):heldE n (mput es k e')=heldE n es:=by
 have hmp:mput es k e'=mupd es k e':=by unfold mput; rw [hk]; rfl
 rw [hmp]
 induction es with
 | nil => cases hk
 | cons t l ih =>
  have hn':MNodup l:=(List.nodup_cons.1 hn).2
  have hcons:mupd (t :: l) k e'=(if t.1=k then (t.1,e') else t) :: mupd l k e':=rfl
  rw [hcons]
  by_cases h:t.1=k
  ·have h1':mget (t :: l) k=some t.2:=mget_mem hn (by rw [← h]; exact List.mem_cons_self)
   rw [h1'] at hk
   have hk:=Option.some.inj hk
   have hno:∀ q∈l,q.1≠k:=fun q hq e2 => (List.nodup_cons.1 hn).1 (List.mem_map.2 ⟨q,hq,by rw [e2,h]⟩)
   have hsame:mupd l k e'=l:=by
    unfold mupd
    conv => rhs; rw [← List.map_id l]
    exact List.map_congr_left fun q hq => by rw [if_neg (hno q hq)]; rfl
   rw [if_pos h,hsame,heldE_cons,heldE_cons]
   show (if e'.kind=1∧e'.node=n then 1 else 0)+_=_
   rw [h1,h2,← hk]
  ·have h1':mget l k=some e:=by
    rcases List.mem_cons.1 (mem_of_mget hk) with h3 | h3
    ·exact absurd (by rw [← h3]) h
    ·exact mget_mem hn' h3
   have:=ih hn' h1' (by unfold mput; rw [h1']; rfl)
   rw [if_neg h,heldE_cons,heldE_cons,this]
theorem heldE_pos (h:0 < heldE n es):∃ t∈es,t.2.kind=1∧t.2.node=n:=by
 unfold heldE at h
 obtain ⟨t,ht⟩:=List.exists_mem_of_length_pos h
 rw [List.mem_filter] at ht
 exact ⟨t,ht.1,of_decide_eq_true ht.2⟩
/-! ### the tree under them -/
structure Same (T T':PT):Prop where
 old:∀ n p,mget T n=some p→p.isDir=false→0 < p.held→∃ q,mget T' n=some q∧q.isDir=false∧q.held=p.held
 new:∀ n q,mget T' n=some q→(∃ p,mget T n=some p∧q.held=p.held)∨(mget T n=none∧q.held=0)
theorem Same.refl (T:PT):Same T T:=⟨fun n p h1 h2 _ => ⟨p,h1,h2,rfl⟩,fun n q h => .inl ⟨q,h,rfl⟩⟩
theorem DOk.heldPos (h:DOk S) (he:mget S.es k=some e) (hk:e.kind=1):∃ p,mget S.T e.node=some p∧p.isDir=false∧p.held=heldE e.node S.es∧0 < p.held:=by
 have hE:=h.ent k e he
 obtain ⟨p,hp,hd⟩:∃ p,mget S.T e.node=some p∧p.isDir=false:=by
  rcases hE.2 with h1 | h1 | h1
  ·exact h1.2.2.2
  ·omega
  ·omega
 refine ⟨p,hp,hd,h.held _ p hp,?_⟩
 rw [h.held _ p hp]
 have h1:(k,e)∈S.es:=mem_of_mget he
 unfold heldE
 exact List.length_pos_of_mem (List.mem_filter.2 ⟨h1,decide_eq_true ⟨hk,rfl⟩⟩)
theorem DOk.unheld (h:DOk S) (hn:mget S.T n=none):heldE n S.es=0:=by
 rcases Nat.eq_zero_or_pos (heldE n S.es) with h1 | h1
 ·exact h1
 ·obtain ⟨t,ht,hk,hnode⟩:=heldE_pos h1
  have he:mget S.es t.1=some t.2:=mget_mem h.nd ht
  obtain ⟨p,hp,_⟩:=h.heldPos he hk
  rw [hnode,hn] at hp
  cases hp
theorem DOk.tree (h:DOk S) (ht:Same S.T T'):DOk (treeS S T'):=by
 refine ⟨h.nd,h.keys,fun k e he => ?_,h.size,h.one,h.pipes,fun n q hq => ?_⟩
 ·have hE:=h.ent k e he
  refine ⟨hE.1,?_⟩
  rcases hE.2 with ⟨h1,h2,h3,h4⟩ | h1 | h1
  ·obtain ⟨p,hp,hd,hp1,hp2⟩:=h.heldPos he h1
   obtain ⟨q,hq,hqd,_⟩:=ht.old _ p hp hd hp2
   exact .inl ⟨h1,h2,h3,q,hq,hqd⟩
  ·exact .inr (.inl h1)
  ·exact .inr (.inr h1)
 ·rcases ht.new n q hq with ⟨p,hp,h1⟩ | ⟨h1,h2⟩
  ·rw [h1]; exact h.held n p hp
  ·rw [h2]; exact (h.unheld h1).symm
theorem DOk.put (h:DOk S) (he:mget S.es k=some e) (h1:e'.kind=e.kind) (h2:e'.node=e.node) (h3:e'.pid=e.pid) (h4:e'.prot=e.prot) (h5:1≤e'.refs∧e'.refs≤1000000∧0≤e'.at'∧e'.at'≤200):DOk (putS S k e'):=by
 have hget:∀ m f,mget (mput S.es k e') m=some f→(m=k∧f=e')∨(m≠k∧mget S.es m=some f):=fun m q hq => by
  rw [mget_mput] at hq
  by_cases e:m=k
  ·rw [if_pos e] at hq; cases hq; exact .inl ⟨e,rfl⟩
  ·rw [if_neg e] at hq; exact .inr ⟨e,hq⟩
 refine ⟨mput_nodup h.nd k e',fun m f hf => ?_,fun m f hf => ?_,?_,fun a b f g hf hg hk1 hk2 hp => ?_,h.pipes,fun n p hp => ?_⟩
 ·rcases hget m f hf with ⟨rfl,rfl⟩ | ⟨_,hf⟩
  ·exact h.keys m e he
  ·exact h.keys m f hf
 ·rcases hget m f hf with ⟨rfl,rfl⟩ | ⟨_,hf⟩
  ·have hE:=h.ent m e he
   refine ⟨h5,?_⟩
   rw [h1,h2,h3,h4]; exact hE.2
  ·exact h.ent m f hf
 ·show (mput S.es k e').length≤40
  rw [mput_length,he]; exact h.size
 ·have hf':∃ f0,mget S.es a=some f0∧f0.kind=f.kind∧f0.pid=f.pid:=by
   rcases hget a f hf with ⟨rfl,rfl⟩ | ⟨_,hf⟩
   ·exact ⟨e,he,h1.symm,h3.symm⟩
   ·exact ⟨f,hf,rfl,rfl⟩
  have hg':∃ g0,mget S.es b=some g0∧g0.kind=g.kind∧g0.pid=g.pid:=by
   rcases hget b g hg with ⟨rfl,rfl⟩ | ⟨_,hg⟩
   ·exact ⟨e,he,h1.symm,h3.symm⟩
   ·exact ⟨g,hg,rfl,rfl⟩
  obtain ⟨f0,a1,a2,a3⟩:=hf'
  obtain ⟨g0,b1,b2,b3⟩:=hg'
  exact h.one a b f0 g0 a1 b1 (by rw [a2]; exact hk1) (by rw [a2,b2]; exact hk2) (by rw [a3,b3]; exact hp)
 ·show p.held=heldE n (mput S.es k e')
  rw [heldE_put h.nd he h1 h2]
  exact h.held n p hp
theorem pipes_set {ps:List PP} {i:Nat} {q q':PP} (hq:ps[i]?=some q) {m:Nat} {r:PP} (hr:(ps.set i q')[m]?=some r):(m=i∧r=q')∨(m≠i∧ps[m]?=some r):=by
 by_cases e:m=i
 ·subst e
  rw [List.getElem?_set_self (by rcases Nat.lt_or_ge m ps.length with h1 | h1; exact h1; rw [List.getElem?_eq_none h1] at hq; cases hq)] at hr
  exact .inl ⟨rfl,(Option.some.inj hr).symm⟩
 ·rw [List.getElem?_set_ne (fun h => e h.symm)] at hr
  exact .inr ⟨e,hr⟩
theorem pipes_get {ps:List PP} {i:Nat} {q q':PP} (hq:ps[i]?=some q) (m:Nat) {r:PP} (hr:ps[m]?=some r):(ps.set i q')[m]?=some (if m=i then q' else r):=by
 by_cases e:m=i
 ·subst e
  rw [if_pos rfl,List.getElem?_set_self (by rcases Nat.lt_or_ge m ps.length with h1 | h1; exact h1; rw [List.getElem?_eq_none h1] at hq; cases hq)]
 ·rw [if_neg e,List.getElem?_set_ne (fun h => e h.symm)]; exact hr
theorem DOk.pipe (h:DOk S) {i:Nat} {q q':PP} (hq:S.ps[i]?=some q) (h0:q'.e0=q.e0) (h1:q'.e1=q.e1) (hb:q'.b.size≤16):DOk (pipeS S i q'):=by
 refine ⟨h.nd,h.keys,fun k e he => ?_,h.size,h.one,fun m r hr => ?_,h.held⟩
 ·have hE:=h.ent k e he
  refine ⟨hE.1,?_⟩
  rcases hE.2 with h2 | ⟨h2,h3,r,hr,h4⟩ | ⟨h2,h3,r,hr,h4⟩
  ·exact .inl h2
  ·refine .inr (.inl ⟨h2,h3,_,pipes_get hq _ hr,?_⟩)
   by_cases e1:e.pid=i
   ·rw [if_pos e1,h0]
    rw [e1,hq] at hr
    cases hr; exact h4
   ·rw [if_neg e1]; exact h4
  ·refine .inr (.inr ⟨h2,h3,_,pipes_get hq _ hr,?_⟩)
   by_cases e1:e.pid=i
   ·rw [if_pos e1,h1]
    rw [e1,hq] at hr
    cases hr; exact h4
   ·rw [if_neg e1]; exact h4
 ·rcases pipes_set hq hr with ⟨rfl,rfl⟩ | ⟨_,hr⟩
  ·rw [h0,h1]; exact ⟨hb,(h.pipes m q hq).2⟩
  ·exact h.pipes m r hr
theorem DOk.still_del (h:DOk S) (he:mget S.es k=some e):(∀ m f,mget (mdel S.es k) m=some f→m≠k∧mget S.es m=some f)∧MNodup (mdel S.es k)∧(mdel S.es k).length≤40:=by
 refine ⟨fun m f hf => ?_,mdel_nodup h.nd k,?_⟩
 ·rw [mget_mdel] at hf
  by_cases e1:m=k
  ·rw [if_pos e1] at hf; cases hf
  ·rw [if_neg e1] at hf; exact ⟨e1,hf⟩
 ·have:=mdel_length h.nd he
  have:=h.size
  omega
theorem DOk.gone (h:DOk S) (he:mget S.es k=some e):DOk (goneS (delS S k) e):=by
 obtain ⟨hget,hnd,hlen⟩:=h.still_del he
 by_cases hk:e.kind=1
 ·have e1:goneS (delS S k) e=treeS (delS S k) (dropT S.T e.node):=if_pos hk
  rw [e1]
  obtain ⟨p,hp,hd,hph,hpp⟩:=h.heldPos he hk
  have hD:dropT S.T e.node=goneT (mput S.T e.node { p with held:=p.held - 1 }) e.node { p with held:=p.held - 1 }:=by
   unfold dropT
   rw [hp]
   show (if p.isDir then _ else if p.held=0 then _ else _)=_
   rw [hd]
   simp only [Bool.false_eq_true,if_false]
   rw [if_neg (by omega)]
  have hdel:∀ n,heldE n (mdel S.es k)+oneOf n e=heldE n S.es:=heldE_del h.nd he
  have hone:oneOf e.node e=1:=if_pos ⟨hk,rfl⟩
  have hoth:∀ n,n≠e.node→oneOf n e=0:=fun n hn => if_neg (fun h => hn h.2.symm)
  have hget2:∀ n q,mget (dropT S.T e.node) n=some q→(n=e.node∧q={ p with held:=p.held - 1 })∨(n≠e.node∧mget S.T n=some q):=fun n q hq => by
   rw [hD] at hq
   have hq':mget (mput S.T e.node { p with held:=p.held - 1 }) n=some q:=by
    unfold goneT at hq
    split at hq
    ·rw [mget_mdel] at hq
     split at hq
     ·cases hq
     ·exact hq
    ·exact hq
   rw [mget_mput] at hq'
   by_cases e1:n=e.node
   ·rw [if_pos e1] at hq'; cases hq'; exact .inl ⟨e1,rfl⟩
   ·rw [if_neg e1] at hq'; exact .inr ⟨e1,hq'⟩
  have hold:∀ n q,n≠e.node∨1 < p.held→mget S.T n=some q→∃ q',mget (dropT S.T e.node) n=some q'∧q'.isDir=q.isDir:=fun n q hn hq => by
   rw [hD]
   have h1:∃ q',mget (mput S.T e.node { p with held:=p.held - 1 }) n=some q'∧q'.isDir=q.isDir:=by
    rw [mget_mput]
    by_cases e1:n=e.node
    ·refine ⟨_,if_pos e1,?_⟩
     rw [e1,hp] at hq
     cases hq; rfl
    ·exact ⟨q,by rw [if_neg e1]; exact hq,rfl⟩
   obtain ⟨q',a,b⟩:=h1
   refine ⟨q',?_,b⟩
   unfold goneT
   split
   ·rename_i hz
    have hz2:p.held - 1=0:=hz.2
    rcases hn with hn | hn
    ·rw [mget_mdel,if_neg hn]; exact a
    ·omega
   ·exact a
  refine ⟨hnd,fun m f hf => h.keys m f (hget m f hf).2,fun m f hf => ?_,hlen,fun a b f g hf hg => h.one a b f g (hget a f hf).2 (hget b g hg).2,h.pipes,fun n q hq => ?_⟩
  ·have hE:=h.ent m f (hget m f hf).2
   refine ⟨hE.1,?_⟩
   rcases hE.2 with ⟨h1,h2,h3,q,hq,hqd⟩ | h1 | h1
   ·obtain ⟨q',hq',hd'⟩:=hold f.node q (by
     by_cases e1:f.node=e.node
     ·refine .inr ?_
      have h4:=hdel e.node
      rw [hone] at h4
      have h5:0 < heldE e.node (mdel S.es k):=List.length_pos_of_mem (List.mem_filter.2 ⟨mem_of_mget hf,decide_eq_true ⟨h1,e1⟩⟩)
      omega
     ·exact .inl e1) hq
    exact .inl ⟨h1,h2,h3,q',hq',by rw [hd']; exact hqd⟩
   ·exact .inr (.inl h1)
   ·exact .inr (.inr h1)
  ·show q.held=heldE n (mdel S.es k)
   have h4:=hdel n
   rcases hget2 n q hq with ⟨rfl,rfl⟩ | ⟨h1,h2⟩
   ·rw [hone] at h4
    show p.held - 1=_
    omega
   ·rw [hoth n h1] at h4
    rw [h.held n q h2]; omega
 ·have hE:=h.ent k e he
  obtain ⟨q,hq⟩:∃ q,S.ps[e.pid]?=some q:=by
   rcases hE.2 with h1 | ⟨_,_,q,hq,_⟩ | ⟨_,_,q,hq,_⟩
   ·exact absurd h1.1 hk
   ·exact ⟨q,hq⟩
   ·exact ⟨q,hq⟩
  have e1:goneS (delS S k) e=pipeS (delS S k) e.pid (endP q e.kind):=by
   have h1:goneS (delS S k) e=(S.ps[e.pid]?).elim (delS S k) fun q => pipeS (delS S k) e.pid (endP q e.kind):=if_neg hk
   rw [h1,hq]; rfl
  rw [e1]
  have hoth:∀ m f,mget (mdel S.es k) m=some f→f.kind=e.kind→f.pid≠e.pid:=fun m f hf h1 h2 => (hget m f hf).1 (h.one m k f e (hget m f hf).2 he (by rw [h1]; exact hk) h1 h2)
  refine ⟨hnd,fun m f hf => h.keys m f (hget m f hf).2,fun m f hf => ?_,hlen,fun a b f g hf hg => h.one a b f g (hget a f hf).2 (hget b g hg).2,fun m r hr => ?_,fun n p hp => ?_⟩
  ·have hF:=h.ent m f (hget m f hf).2
   refine ⟨hF.1,?_⟩
   rcases hF.2 with h2 | ⟨h2,h3,r,hr,h4⟩ | ⟨h2,h3,r,hr,h4⟩
   ·exact .inl h2
   ·refine .inr (.inl ⟨h2,h3,_,pipes_get hq _ hr,?_⟩)
    by_cases e1:f.pid=e.pid
    ·have hne:e.kind≠2:=fun e2 => hoth m f hf (by rw [h2,e2]) e1
     rw [if_pos e1]
     rw [e1,hq] at hr
     cases hr
     unfold endP
     rw [if_neg hne]; exact h4
    ·rw [if_neg e1]; exact h4
   ·refine .inr (.inr ⟨h2,h3,_,pipes_get hq _ hr,?_⟩)
    by_cases e1:f.pid=e.pid
    ·have hne:e.kind=2:=by
      rcases hE.2 with h5 | h5 | h5
      ·exact absurd h5.1 hk
      ·exact h5.1
      ·exact absurd e1 (hoth m f hf (by rw [h2,h5.1]))
     rw [if_pos e1]
     rw [e1,hq] at hr
     cases hr
     unfold endP
     rw [if_pos hne]; exact h4
    ·rw [if_neg e1]; exact h4
  ·rcases pipes_set hq hr with ⟨rfl,rfl⟩ | ⟨_,hr⟩
   ·have hp:=h.pipes _ q hq
    have hE2:(e.kind=2∧q.e0=1)∨(e.kind≠2∧q.e1=1):=by
     rcases hE.2 with h5 | ⟨h5,_,r,hr,h6⟩ | ⟨h5,_,r,hr,h6⟩
     ·exact absurd h5.1 hk
     ·rw [hq] at hr; cases hr; exact .inl ⟨h5,h6⟩
     ·rw [hq] at hr; cases hr; exact .inr ⟨by omega,h6⟩
    unfold endP
    rcases hE2 with ⟨h5,h6⟩ | ⟨h5,h6⟩
    ·rw [if_pos h5]
     refine ⟨hp.1,.inl ?_,hp.2.2⟩
     show q.e0 - 1=0; omega
    ·rw [if_neg h5]
     refine ⟨hp.1,hp.2.1,.inl ?_⟩
     show q.e1 - 1=0; omega
   ·exact h.pipes m r hr
  ·show p.held=heldE n (mdel S.es k)
   have h4:=heldE_del h.nd he n
   have h5:oneOf n e=0:=if_neg (fun h => hk h.1)
   rw [h.held n p hp]; omega
theorem DOk.close (h:DOk S) (L:PTab) (n:Int):DOk (closeS S L n):=by
 unfold closeS
 cases hx:entL S L n with
 | none => exact h
 | some x =>
  obtain ⟨k,e⟩:=x
  have he:=(entL_some hx).2
  show DOk (if 1 < e.refs then putS S k { e with refs:=e.refs - 1 } else goneS (delS S k) e)
  have hE:=(h.ent k e he).1
  by_cases hr:1 < e.refs
  ·rw [if_pos hr]
   exact h.put he rfl rfl rfl rfl ⟨by show 1≤e.refs - 1; omega,by show e.refs - 1≤1000000; omega,hE.2.2⟩
  ·rw [if_neg hr]
   exact h.gone he
end
def hitX (x:Int×Bool) (k:Int):Nat:=if x.1=k+1 then 1 else 0
def cntFrom (L:PTab) (k:Int):Nat→Nat→Nat
 | 0,_ => 0
 | f+1,i => hitX (L i) k+cntFrom L k f (i+1)
def cntL (L:PTab) (k:Int):Nat:=cntFrom L k 8 0
def cntT (k:Int):List (Nat×PTab)→Nat
 | [] => 0
 | t :: ts => cntL t.2 k+cntT k ts
section
variable {S S':PS} {e e':PE} {k n:Int} {L L':PTab} {ts:List (Nat×PTab)} {x:Int×Bool} {i j:Nat}
theorem cntFrom_out:∀ (f i:Nat),j < i→cntFrom (tset L j x) k f i=cntFrom L k f i
 | 0,_,_ => rfl
 | f+1,i,hi => by
  show hitX (tset L j x i) k+_=hitX (L i) k+_
  rw [cntFrom_out f (i+1) (by omega)]
  unfold tset
  rw [if_neg (by omega)]
theorem cntFrom_set:∀ (f i:Nat),i≤j→j < i+f→cntFrom (tset L j x) k f i+hitX (L j) k=cntFrom L k f i+hitX x k
 | 0,i,h1,h2 => by omega
 | f+1,i,h1,h2 => by
  show hitX (tset L j x i) k+cntFrom (tset L j x) k f (i+1)+hitX (L j) k=hitX (L i) k+cntFrom L k f (i+1)+hitX x k
  by_cases e:i=j
  ·subst e
   rw [cntFrom_out (L:=L) (x:=x) (k:=k) (j:=i) f (i+1) (by omega)]
   have:tset L i x i=x:=if_pos rfl
   rw [this]
   omega
  ·have h3:=cntFrom_set f (i+1) (by omega) (by omega)
   have:tset L j x i=L i:=if_neg e
   rw [this]
   omega
theorem cntL_set (hj:j < 8):cntL (tset L j x) k+hitX (L j) k=cntL L k+hitX x k:=cntFrom_set 8 0 (by omega) (by omega)
theorem cntT_set {n':Nat} (hi:ts[i]?=some (n',L)) {L':PTab} (k:Int):cntT k (ts.set i (n',L'))+cntL L k=cntT k ts+cntL L' k:=by
 induction ts generalizing i with
 | nil => cases hi
 | cons t ts ih =>
  cases i with
  | zero =>
   have h1:=Option.some.inj hi
   subst h1
   show cntL L' k+cntT k ts+cntL L k=cntL L k+cntT k ts+cntL L' k
   omega
  | succ i =>
   have h1:=ih (i:=i) hi
   show cntL t.2 k+cntT k (ts.set i (n',L'))+cntL L k=cntL t.2 k+cntT k ts+cntL L' k
   omega
theorem cntT_append (k:Int):∀ (ts us:List (Nat×PTab)),cntT k (ts ++ us)=cntT k ts+cntT k us
 | [],us => (Nat.zero_add _).symm
 | t :: ts,us => by
  show cntL t.2 k+cntT k (ts ++ us)=cntL t.2 k+cntT k ts+cntT k us
  rw [cntT_append k ts us]; omega
theorem usedFrom_out:∀ (f i:Nat),j < i→usedFrom (tset L j x) f i=usedFrom L f i
 | 0,_,_ => rfl
 | f+1,i,hi => by
  show (if 0 < (tset L j x i).1 then 1 else 0)+_=(if 0 < (L i).1 then 1 else 0)+_
  rw [usedFrom_out f (i+1) (by omega)]
  unfold tset
  rw [if_neg (show ¬ i=j by omega)]
def usX (x:Int×Bool):Nat:=if 0 < x.1 then 1 else 0
theorem usedFrom_set:∀ (f i:Nat),i≤j→j < i+f→usedFrom (tset L j x) f i+usX (L j)=usedFrom L f i+usX x
 | 0,i,h1,h2 => by omega
 | f+1,i,h1,h2 => by
  show usX (tset L j x i)+usedFrom (tset L j x) f (i+1)+usX (L j)=usX (L i)+usedFrom L f (i+1)+usX x
  by_cases e:i=j
  ·subst e
   rw [usedFrom_out (L:=L) (x:=x) (j:=i) f (i+1) (by omega)]
   have:tset L i x i=x:=if_pos rfl
   rw [this]
   omega
  ·have h3:=usedFrom_set f (i+1) (by omega) (by omega)
   have:tset L j x i=L i:=if_neg e
   rw [this]
   omega
theorem usedL_set (hj:j < 8):usedL (tset L j x)+usX (L j)=usedL L+usX x:=usedFrom_set 8 0 (by omega) (by omega)
theorem usedFrom_full:∀ (f i:Nat),(∀ m,i≤m→m < i+f→0≤(L m).1)→leastFrom L f i=-1→usedFrom L f i=f
 | 0,_,_,_ => rfl
 | f+1,i,hp,h => by
  by_cases hz:(L i).1=0
  ·rw [leastFrom_zero f i hz] at h; omega
  ·rw [leastFrom_next f i hz] at h
   show (if 0 < (L i).1 then 1 else 0)+usedFrom L f (i+1)=f+1
   rw [if_pos (by have:=hp i (by omega) (by omega); omega),usedFrom_full f (i+1) (fun m h1 h2 => hp m (by omega) (by omega)) h]
   omega
theorem least_room (hp:∀ m,m < 8→0≤(L m).1) (h:usedL L < 8):∃ j:Nat,leastL L=j∧j < 8∧(L j).1=0:=by
 rcases leastL_spec L with h1 | h1
 ·have:=usedFrom_full 8 0 (fun m _ hm => hp m (by omega)) h1
  unfold usedL at h
  omega
 ·exact h1
def refsOf (S:PS) (k:Int):Nat:=(mget S.es k).elim 0 (·.refs)
structure Joint (S:PS) (ts:List (Nat×PTab)):Prop where
 cnt:∀ k,0≤k→cntT k ts=refsOf S k
 pos:∀ (i:Nat) (t:Nat×PTab),ts[i]?=some t→∀ j,j < 8→0≤(t.2 j).1∧(t.2 j).1≤40
theorem cntFrom_pos:∀ (f i:Nat),i≤j→j < i+f→(L j).1=k+1→0 < cntFrom L k f i
 | 0,i,h1,h2,_ => by omega
 | f+1,i,h1,h2,h3 => by
  show 0 < hitX (L i) k+cntFrom L k f (i+1)
  by_cases e:i=j
  ·subst e
   have:hitX (L i) k=1:=if_pos h3
   omega
  ·have:=cntFrom_pos f (i+1) (by omega) (by omega) h3
   omega
theorem cntL_pos (hj:j < 8) (h:(L j).1=k+1):0 < cntL L k:=cntFrom_pos 8 0 (by omega) (by omega) h
theorem cntFrom_ex:∀ (f i:Nat),0 < cntFrom L k f i→∃ j,i≤j∧j < i+f∧(L j).1=k+1
 | 0,i,h => by unfold cntFrom at h; omega
 | f+1,i,h => by
  by_cases e:(L i).1=k+1
  ·exact ⟨i,Nat.le_refl _,by omega,e⟩
  ·have h0:hitX (L i) k=0:=if_neg e
   have h:0 < hitX (L i) k+cntFrom L k f (i+1):=h
   obtain ⟨j,h1,h2,h3⟩:=cntFrom_ex f (i+1) (by omega)
   exact ⟨j,by omega,by omega,h3⟩
theorem cntT_ge {t:Nat×PTab} (hi:ts[i]?=some t) (k:Int):cntL t.2 k≤cntT k ts:=by
 induction ts generalizing i with
 | nil => cases hi
 | cons u ts ih =>
  cases i with
  | zero =>
   have h1:=Option.some.inj hi
   subst h1
   show cntL u.2 k≤cntL u.2 k+_
   omega
  | succ i =>
   have:=ih (i:=i) hi
   show _≤cntL u.2 k+cntT k ts
   omega
theorem cntT_le (k:Int):∀ ts:List (Nat×PTab),cntT k ts≤8 * ts.length
 | [] => Nat.le_refl _
 | t :: ts => by
  have h1:∀ f i,cntFrom t.2 k f i≤f:=fun f => by
   induction f with
   | zero => intro i; exact Nat.le_refl _
   | succ f ih =>
    intro i
    have:=ih (i+1)
    show hitX (t.2 i) k+_≤f+1
    unfold hitX
    split <;> omega
  have h2:=h1 8 0
  have h3:=cntT_le k ts
  show cntFrom t.2 k 8 0+cntT k ts≤8 * (ts.length+1)
  omega
theorem tset_self (L:PTab) (j:Nat) (x:Int×Bool):tset L j x j=x:=if_pos rfl
theorem tset_other (L:PTab) {j m:Nat} (x:Int×Bool) (h:m≠j):tset L j x m=L m:=if_neg h
theorem set_pos {tab:Nat} (h:Joint S ts) (hi:ts[i]?=some (tab,L)) (hp:∀ j,j < 8→0≤(L' j).1∧(L' j).1≤40):∀ (m:Nat) (t:Nat×PTab),(ts.set i (tab,L'))[m]?=some t→∀ j,j < 8→0≤(t.2 j).1∧(t.2 j).1≤40:=fun m t ht => by
 rcases set_get (x:=(tab,L)) hi ht with ⟨_,rfl⟩ | ⟨_,h2⟩
 ·exact hp
 ·exact h.pos m t h2
theorem pos_set (hp:∀ j,j < 8→0≤(L j).1∧(L j).1≤40) (hx:0≤x.1∧x.1≤40) (j:Nat):∀ m,m < 8→0≤(tset L j x m).1∧(tset L j x m).1≤40:=fun m hm => by
 by_cases e:m=j
 ·rw [e,tset_self]; exact hx
 ·rw [tset_other L x e]; exact hp m hm
theorem refsOf_put (S:PS) (k:Int) (e:PE) (m:Int):refsOf (putS S k e) m=if m=k then e.refs else refsOf S m:=by
 show (mget (mput S.es k e) m).elim 0 (·.refs)=_
 rw [mget_mput]
 by_cases h:m=k
 ·rw [if_pos h,if_pos h]; rfl
 ·rw [if_neg h,if_neg h]; rfl
theorem refsOf_del (S:PS) (k m:Int):refsOf (delS S k) m=if m=k then 0 else refsOf S m:=by
 show (mget (mdel S.es k) m).elim 0 (·.refs)=_
 rw [mget_mdel]
 by_cases h:m=k
 ·rw [if_pos h,if_pos h]; rfl
 ·rw [if_neg h,if_neg h]; rfl
theorem refsOf_es {S S':PS} (h:S'.es=S.es) (m:Int):refsOf S' m=refsOf S m:=by unfold refsOf; rw [h]
theorem refsOf_some (he:mget S.es k=some e):refsOf S k=e.refs:=by unfold refsOf; rw [he]; rfl
theorem gone_es (S:PS) (e:PE):(goneS S e).es=S.es:=by
 unfold goneS
 split
 ·rfl
 ·cases S.ps[e.pid]? <;> rfl
theorem Joint.there (h:Joint S ts) {t:Nat×PTab} (hi:ts[i]?=some t):TabOk S t.2:=fun j hj => by
 by_cases hz:(t.2 j).1=0
 ·exact .inl hz
 ·refine .inr ?_
  have hp:=h.pos i t hi j hj
  have h1:0 < cntL t.2 ((t.2 j).1 - 1):=cntL_pos hj (by omega)
  have h2:=cntT_ge hi ((t.2 j).1 - 1)
  have h3:=h.cnt ((t.2 j).1 - 1) (by omega)
  have h4:0 < refsOf S ((t.2 j).1 - 1):=by omega
  unfold refsOf at h4
  cases he:mget S.es ((t.2 j).1 - 1) with
  | none => rw [he] at h4; exact absurd h4 (by show ¬ 0 < 0; omega)
  | some e => exact ⟨e,rfl⟩
theorem Joint.refs (h:Joint S ts) (hS:DOk S) (he:mget S.es k=some e):e.refs=cntT k ts:=by
 rw [h.cnt k (hS.keys k e he).1,refsOf_some he]
theorem Joint.bound (h:Joint S ts) (hS:DOk S) (hl:ts.length≤1000):∀ k e,mget S.es k=some e→e.refs < 999000:=fun k e he => by
 rw [h.refs hS he]
 have:=cntT_le k ts
 omega
theorem hit_zero {c:Bool} (hk:0≤k):hitX (0,c) k=0:=if_neg (by show ¬ (0:Int)=k+1; omega)
theorem set_same {x:Nat×PTab} (hi:ts[i]?=some x):ts.set i x=ts:=by
 apply List.ext_getElem?
 intro j
 by_cases e:j=i
 ·subst e
  rw [List.getElem?_set_self (by rcases Nat.lt_or_ge j ts.length with h1 | h1; exact h1; rw [List.getElem?_eq_none h1] at hi; cases hi),hi]
 ·rw [List.getElem?_set_ne (fun h => e h.symm)]
theorem entL_slot (h:entL S L n=some (k,e)):0≤n∧n < 8∧(L n.toNat).1=k+1∧(L n.toNat).1≠0∧mget S.es k=some e:=by
 obtain ⟨h1,h2⟩:=entL_some h
 obtain ⟨h3,h4,h5,h6⟩:=slotL_some h1
 exact ⟨h3,h4,by omega,h5,h2⟩
theorem Joint.step (h:Joint S ts) {tab:Nat} (hi:ts[i]?=some (tab,L)) (hj:j < 8) (hx:0≤x.1∧x.1≤40) (hr:∀ m,0≤m→refsOf S' m+hitX (L j) m=refsOf S m+hitX x m):Joint S' (ts.set i (tab,tset L j x)):=by
 refine ⟨fun m hm => ?_,set_pos h hi (pos_set (fun j hj => h.pos i _ hi j hj) hx j)⟩
 have h1:=cntT_set hi (L':=tset L j x) m
 have h2:=cntL_set (L:=L) (x:=x) (k:=m) hj
 have h3:=h.cnt m hm
 have h4:=hr m hm
 omega
theorem Joint.keep (h:Joint S ts) (hr:∀ m,0≤m→refsOf S' m=refsOf S m):Joint S' ts:=⟨fun m hm => (h.cnt m hm).trans (hr m hm).symm,h.pos⟩
/-! ### each call -/
theorem joint_close (h:Joint S ts) (hS:DOk S) {tab:Nat} (hi:ts[i]?=some (tab,L)) (n:Int):Joint (closeS S L n) (ts.set i (tab,closeL S L n)):=by
 unfold closeS closeL
 cases hx:entL S L n with
 | none => rw [show (Option.elim (none:Option (Int×PE)) L fun _ => tset L n.toNat (0,false))=L from rfl,set_same hi]; exact h
 | some x =>
  obtain ⟨k,e⟩:=x
  obtain ⟨h1,h2,h3,h4,he⟩:=entL_slot hx
  show Joint (if 1 < e.refs then putS S k { e with refs:=e.refs - 1 } else goneS (delS S k) e) (ts.set i (tab,tset L n.toNat (0,false)))
  have hk0:=(hS.keys k e he).1
  have hre:=refsOf_some he
  have hr1:=(hS.ent k e he).1.1
  refine h.step hi (by omega) ⟨Int.le_refl _,by show (0:Int)≤40; decide⟩ (fun m hm => ?_)
  rw [hit_zero hm]
  have hr:refsOf (if 1 < e.refs then putS S k { e with refs:=e.refs - 1 } else goneS (delS S k) e) m=if m=k then e.refs - 1 else refsOf S m:=by
   by_cases hb:1 < e.refs
   ·rw [if_pos hb,refsOf_put]
   ·rw [if_neg hb,refsOf_es (gone_es _ _),refsOf_del]
    by_cases hmk:m=k
    ·rw [if_pos hmk,if_pos hmk]; omega
    ·rw [if_neg hmk,if_neg hmk]
  rw [hr]
  unfold hitX
  by_cases hmk:m=k
  ·rw [if_pos hmk,if_pos (by omega),hmk,hre]; omega
  ·rw [if_neg hmk,if_neg (by omega)]
theorem joint_dup (h:Joint S ts) (hS:DOk S) {tab:Nat} (hi:ts[i]?=some (tab,L)) (n:Int):Joint (dupS S L n) (ts.set i (tab,dupL S L n)):=by
 unfold dupS dupL
 by_cases hE:dupE S L n=0
 ·rw [if_pos hE,if_pos hE]
  cases hx:entL S L n with
  | none => unfold dupE at hE; rw [hx] at hE; cases hE
  | some x =>
   obtain ⟨k,e⟩:=x
   obtain ⟨h1,h2,h3,h4,he⟩:=entL_slot hx
   unfold dupE at hE
   rw [hx] at hE
   have hE:(if leastL L < 0 then (12:Int) else 0)=0:=hE
   obtain ⟨j,hl,hj,hjz⟩:=(leastL_spec L).resolve_left (fun hl => by rw [if_pos (by omega)] at hE; cases hE)
   rw [show (leastL L).toNat=j by omega]
   show Joint (putS S k { e with refs:=e.refs+1 }) _
   have hk0:=(hS.keys k e he).1
   have hp:=h.pos i _ hi n.toNat (by omega)
   refine h.step hi hj hp (fun m hm => ?_)
   have h0:hitX (L j) m=0:=if_neg (by omega)
   rw [h0,refsOf_put]
   unfold hitX
   by_cases hmk:m=k
   ·rw [if_pos hmk,if_pos (by show (L n.toNat).1=m+1; omega),hmk,refsOf_some he]
   ·rw [if_neg hmk,if_neg (by show ¬ (L n.toNat).1=m+1; omega)]
 ·rw [if_neg hE,if_neg hE,set_same hi]; exact h
theorem joint_seek (h:Joint S ts) (L:PTab) (n at':Int):Joint (seekS S L n at') ts:=by
 refine h.keep (fun m hm => ?_)
 unfold seekS
 split
 ·cases hx:entL S L n with
  | none => rfl
  | some x =>
   obtain ⟨k,e⟩:=x
   show refsOf (putS S k { e with at':=at' }) m=_
   rw [refsOf_put]
   by_cases hmk:m=k
   ·rw [if_pos hmk,hmk,refsOf_some (entL_some hx).2]
   ·rw [if_neg hmk]
 ·rfl
theorem joint_rd (h:Joint S ts) (L:PTab) (n many:Int):Joint (rdS S L n many) ts:=by
 refine h.keep (fun m hm => ?_)
 unfold rdS
 cases hx:entL S L n with
 | none => rfl
 | some x =>
  obtain ⟨k,e⟩:=x
  show refsOf (if e.prot=2 then S else if e.kind=2 then (S.ps[e.pid]?).elim S fun q => pipeS S e.pid (pRdQ q many) else putS S k { e with at':=e.at'+(readT S.T e.node e.at' many).size }) m=_
  split
  ·rfl
  ·split
   ·cases S.ps[e.pid]? <;> rfl
   ·rw [refsOf_put]
    by_cases hmk:m=k
    ·rw [if_pos hmk,hmk,refsOf_some (entL_some hx).2]
    ·rw [if_neg hmk]
theorem joint_wr (h:Joint S ts) (L:PTab) (n:Int) (s:ByteArray) (most:Int):Joint (wrS S L n s most) ts:=by
 refine h.keep (fun m hm => ?_)
 unfold wrS
 cases hx:entL S L n with
 | none => rfl
 | some x =>
  obtain ⟨k,e⟩:=x
  show refsOf (if e.prot=1 then S else if e.kind=3 then (S.ps[e.pid]?).elim S fun q => pipeS S e.pid (pWrQ q s) else if limB e s most=true then S else if writeE S.T e.node e.at' s=0 then putS (treeS S (writeT S.T e.node e.at' s)) k { e with at':=e.at'+s.size } else S) m=_
  split
  ·rfl
  ·split
   ·cases S.ps[e.pid]? <;> rfl
   ·split
    ·rfl
    ·split
     ·rw [refsOf_put]
      by_cases hmk:m=k
      ·rw [if_pos hmk,hmk,refsOf_some (entL_some hx).2]
      ·rw [if_neg hmk]; rfl
     ·rfl
theorem joint_mark (h:Joint S ts) {tab:Nat} (hi:ts[i]?=some (tab,L)) (n:Int) (c:Bool):Joint S (ts.set i (tab,markL S L n c)):=by
 unfold markL
 cases hx:entL S L n with
 | none => rw [show (Option.elim (none:Option (Int×PE)) L fun _ => tset L n.toNat ((L n.toNat).1,c))=L from rfl,set_same hi]; exact h
 | some x =>
  obtain ⟨k,e⟩:=x
  obtain ⟨h1,h2,h3,h4,he⟩:=entL_slot hx
  exact h.step hi (by omega) (h.pos i _ hi n.toNat (by omega)) (fun m hm => rfl)
theorem refs_fork:∀ (f i:Nat) (S:PS),(∀ j,i≤j→j < i+f→0≤(L j).1∧((L j).1=0∨∃ e,mget S.es ((L j).1 - 1)=some e))→∀ m,0≤m→refsOf (forkFrom L f i S) m=refsOf S m+cntFrom L m f i
 | 0,i,S,_,m,_ => rfl
 | f+1,i,S,h,m,hm => by
  show refsOf (forkFrom L f (i+1) (if 0 < (L i).1 then bumpS S ((L i).1 - 1) else S)) m=refsOf S m+(hitX (L i) m+cntFrom L m f (i+1))
  obtain ⟨hp,hh⟩:=h i (Nat.le_refl _) (by omega)
  by_cases hz:0 < (L i).1
  ·obtain ⟨e,he⟩:=hh.resolve_left (by omega)
   rw [if_pos hz,bumpS_is he,refs_fork f (i+1) _ (fun j h1 h2 => ?_) m hm,refsOf_put]
   ·unfold hitX
    by_cases hmk:m=(L i).1 - 1
    ·rw [if_pos hmk,if_pos (by omega),hmk,refsOf_some he]; show e.refs+1+_=_; omega
    ·rw [if_neg hmk,if_neg (by omega)]; omega
   ·obtain ⟨a,b⟩:=h j (by omega) (by omega)
    refine ⟨a,b.imp id ?_⟩
    rintro ⟨f',hf'⟩
    show ∃ e',mget (mput S.es _ _) _=some e'
    rw [mget_mput]
    by_cases e1:(L j).1 - 1=(L i).1 - 1
    ·exact ⟨_,if_pos e1⟩
    ·exact ⟨f',by rw [if_neg e1]; exact hf'⟩
  ·rw [if_neg hz,refs_fork f (i+1) S (fun j h1 h2 => h j (by omega) (by omega)) m hm]
   have:hitX (L i) m=0:=if_neg (by omega)
   omega
theorem joint_fork (h:Joint S ts) {tab:Nat} (hi:ts[i]?=some (tab,L)) (ub:Nat):Joint (forkS S L) (ts ++ [(ub,L)]):=by
 have hp:=fun j hj => h.pos i _ hi j hj
 refine ⟨fun m hm => ?_,fun j t ht => ?_⟩
 ·rw [cntT_append,h.cnt m hm]
  unfold forkS
  rw [refs_fork 8 0 S (fun j _ hj => ⟨(hp j (by omega)).1,h.there hi j (by omega)⟩) m hm]
  rfl
 ·rcases Nat.lt_or_ge j ts.length with hj | hj
  ·rw [List.getElem?_append_left hj] at ht; exact h.pos j t ht
  ·rw [List.getElem?_append_right hj] at ht
   cases hz:j - ts.length with
   | zero => rw [hz] at ht; cases ht; exact hp
   | succ m => rw [hz] at ht; cases ht
end
/-! ### what FilesTo composes to -/
section
variable {w w' w1 w2:World} {fb tb om b tab:Nat} {S S' S1 S2:PS} {F:Nat→Prop} {e e':PE} {k n:Int} {L L' L1 L2':PTab} {ts:List (Nat×PTab)} {i:Nat} {W:Base}
def clearFrom (L0:PTab) (all:Bool):Nat→Nat→PS→PTab→PS×PTab
 | 0,_,S,L => (S,L)
 | f+1,i,S,L => if 0 < (L0 i).1∧(all=true∨(L0 i).2=true) then clearFrom L0 all f (i+1) (closeS S L i) (closeL S L i) else clearFrom L0 all f (i+1) S L
def clearS (S:PS) (L:PTab) (all:Bool):PS:=(clearFrom L all 8 0 S L).1
def clearL (S:PS) (L:PTab) (all:Bool):PTab:=(clearFrom L all 8 0 S L).2
theorem clear_go {L0:PTab} {all:Bool} (f i:Nat) (h:0 < (L0 i).1∧(all=true∨(L0 i).2=true)):clearFrom L0 all (f+1) i S L=clearFrom L0 all f (i+1) (closeS S L i) (closeL S L i):=if_pos h
theorem clear_no {L0:PTab} {all:Bool} (f i:Nat) (h:¬ (0 < (L0 i).1∧(all=true∨(L0 i).2=true))):clearFrom L0 all (f+1) i S L=clearFrom L0 all f (i+1) S L:=if_neg h
theorem set_set {x y:Nat×PTab} (ts:List (Nat×PTab)) (i:Nat):(ts.set i x).set i y=ts.set i y:=List.set_set ..
theorem get_set {x y:Nat×PTab} (hi:ts[i]?=some x):(ts.set i y)[i]?=some y:=by
 rw [List.getElem?_set_self (by rcases Nat.lt_or_ge i ts.length with h1 | h1; exact h1; rw [List.getElem?_eq_none h1] at hi; cases hi)]
structure ClearIn (W:Base) (w:World) (fb tb tab:Nat) (ts:List (Nat×PTab)) (i:Nat) (S:PS) (L:PTab):Prop where
 law:DLawB W w fb tb S (ts.set i (tab,L))
 ok:DOk S
 joint:Joint S (ts.set i (tab,L))
theorem ClearIn.still (h:ClearIn W w fb tb tab ts i S L) (t:Turn (fun _ => False) w w'):ClearIn W w' fb tb tab ts i S L:=⟨h.law.still t,h.ok,h.joint⟩
theorem ClearIn.close (h:ClearIn W w fb tb tab ts i S L) (hi:ts[i]?=some (tab,L')) (n:Int) :
  Calls Tryz.prog 32 #[.pointer (some ⟨fb,0,none⟩),.pointer (some ⟨tab,0,none⟩),.int .i64 n] w fun e w' => e=.returned (TErr (closeE S L n))∧ClearIn W w' fb tb tab ts i (closeS S L n) (closeL S L n):=by
 have hi':=get_set (y:=(tab,L)) hi
 refine (law_close h.law h.ok hi' (h.joint.there hi') n).mono ?_
 rintro e w' ⟨rfl,h1⟩
 have h2:=joint_close h.joint h.ok hi' n
 rw [set_set] at h1 h2
 exact ⟨rfl,h1,h.ok.close L n,h2⟩
theorem law_clear (h:DLawB W w fb tb S ts) (hS:DOk S) (hJ:Joint S ts) (hi:ts[i]?=some (tab,L)) :
  Calls Tryz.prog 42 #[.pointer (some ⟨fb,0,none⟩),.pointer (some ⟨tab,0,none⟩)] w fun e w' => e=.returned (.tuple #[])∧DLawB W w' fb tb (clearS S L true) (ts.set i (tab,clearL S L true))∧DOk (clearS S L true)∧Joint (clearS S L true) (ts.set i (tab,clearL S L true)):=by
 obtain ⟨R,hR⟩:∃ R,clearFrom L true 8 0 S L=R:=⟨_,rfl⟩
 have e1:clearS S L true=R.1:=by unfold clearS; rw [hR]
 have e2:clearL S L true=R.2:=by unfold clearL; rw [hR]
 rw [e1,e2]
 have HR:=hid hR
 have HD:=hid h
 have HS:=hid hS
 have HJ:=hid hJ
 have HI:=hid hi
 have ht:=(h.tabs i _ hi).1
 have e0:=ht.ent 0 (by omega)
 have e1:=ht.ent 1 (by omega)
 have e2:=ht.ent 2 (by omega)
 have e3:=ht.ent 3 (by omega)
 have e4:=ht.ent 4 (by omega)
 have e5:=ht.ent 5 (by omega)
 have e6:=ht.ent 6 (by omega)
 have e7:=ht.ent 7 (by omega)
 have m0:=ht.mark 0 (by omega)
 have m1:=ht.mark 1 (by omega)
 have m2:=ht.mark 2 (by omega)
 have m3:=ht.mark 3 (by omega)
 have m4:=ht.mark 4 (by omega)
 have m5:=ht.mark 5 (by omega)
 have m6:=ht.mark 6 (by omega)
 have m7:=ht.mark 7 (by omega)
 simp only [Nat.zero_mul,Nat.reduceMul,Nat.reduceAdd,Nat.zero_add] at e0 e1 e2 e3 e4 e5 e6 e7 m0 m1 m2 m3 m4 m5 m6 m7
 clear h hS hJ hi ht hR
 go_enter Tryz.func42,Tryz.ntmps42
 go_wp2_with fail
 clear e0 e1 e2 e3 e4 e5 e6 e7 m0 m1 m2 m3 m4 m5 m6 m7
 have H0:Hid (ClearIn W w fb tb tab ts i S L):=hid ⟨by rw [set_same HI.out]; exact HD.out,HS.out,by rw [set_same HI.out]; exact HJ.out⟩
 clear HD HS HJ
 go_loopg [10] 8 (fun gl iv wr => ∃ (k:Nat) (Si:PS) (Li:PTab),k+gl=8∧iv=.int .i64 k∧Hid (clearFrom L true gl k Si Li=R)∧Hid (ClearIn W wr fb tb tab ts i Si Li))
 case atStart => exact ⟨0,S,L,by omega,rfl,HR,H0⟩
 case round =>
  obtain ⟨k,Si,Li,hk,rfl,hF,hC⟩:=hrel
  clear HR H0
  by_cases hk8:k < 8
  ·have hk':(k:Int) < 8:=by omega
   obtain ⟨g,rfl⟩:∃ g,gk=g+1:=⟨7 - k,by omega⟩
   have ix:=idx_any L k hk8 wr
   have HA:Hid (Turn (fun _ => False) wr (wr.alloc (.cells #[.int .i64 (L k).1,.bool (L k).2] 38))):=hid ((Turn.refl _ _).alloc _)
   have HC2:=hid (hC.out.still HA.out)
   clear hC
   by_cases hz:0 < (L k).1
   ·have HF:=hid ((clear_go g k ⟨hz,.inl rfl⟩).symm.trans hF.out)
    clear hF
    go_wp2_with (go_at_call 32; refine (HC2.out.close HI.out k).mono ?_; rintro e w2 ⟨rfl,h2⟩; have HC3:=hid h2; clear h2)
    go_roundg g
    case measure => omega
    case rel => exact ⟨k+1,_,_,by omega,by go_num,HF,HC3⟩
   ·have HF:=hid ((clear_no (all:=true) g k (fun h => hz h.1)).symm.trans hF.out)
    clear hF
    go_wp2_with fail
    go_roundg g
    case measure => omega
    case rel => exact ⟨k+1,_,_,by omega,by go_num,HF,HC2⟩
  ·have hk':¬ (k:Int) < 8:=by omega
   obtain rfl:k=8:=by omega
   obtain rfl:gk=0:=by omega
   have HF:Hid ((Si,Li)=R):=hF
   clear hF
   go_wp2_with fail
   go_returns
   rw [← HF.out]
   exact ⟨rfl,hC.out.law,hC.out.ok,hC.out.joint⟩
end
section
variable {w w' w1 w2:World} {fb tb om b tab:Nat} {S S' S1 S2:PS} {F:Nat→Prop} {e e':PE} {k n:Int} {L L' L1 L2':PTab} {ts:List (Nat×PTab)} {i:Nat} {W:Base}
theorem law_exec (h:DLawB W w fb tb S ts) (hS:DOk S) (hJ:Joint S ts) (hi:ts[i]?=some (tab,L)) :
  Calls Tryz.prog 40 #[.pointer (some ⟨fb,0,none⟩),.pointer (some ⟨tab,0,none⟩)] w fun e w' => e=.returned (.tuple #[])∧DLawB W w' fb tb (clearS S L false) (ts.set i (tab,clearL S L false))∧DOk (clearS S L false)∧Joint (clearS S L false) (ts.set i (tab,clearL S L false)):=by
 obtain ⟨R,hR⟩:∃ R,clearFrom L false 8 0 S L=R:=⟨_,rfl⟩
 have e1:clearS S L false=R.1:=by unfold clearS; rw [hR]
 have e2:clearL S L false=R.2:=by unfold clearL; rw [hR]
 rw [e1,e2]
 have HR:=hid hR
 have HD:=hid h
 have HS:=hid hS
 have HJ:=hid hJ
 have HI:=hid hi
 have ht:=(h.tabs i _ hi).1
 have e0:=ht.ent 0 (by omega)
 have e1:=ht.ent 1 (by omega)
 have e2:=ht.ent 2 (by omega)
 have e3:=ht.ent 3 (by omega)
 have e4:=ht.ent 4 (by omega)
 have e5:=ht.ent 5 (by omega)
 have e6:=ht.ent 6 (by omega)
 have e7:=ht.ent 7 (by omega)
 have m0:=ht.mark 0 (by omega)
 have m1:=ht.mark 1 (by omega)
 have m2:=ht.mark 2 (by omega)
 have m3:=ht.mark 3 (by omega)
 have m4:=ht.mark 4 (by omega)
 have m5:=ht.mark 5 (by omega)
 have m6:=ht.mark 6 (by omega)
 have m7:=ht.mark 7 (by omega)
 simp only [Nat.zero_mul,Nat.reduceMul,Nat.reduceAdd,Nat.zero_add] at e0 e1 e2 e3 e4 e5 e6 e7 m0 m1 m2 m3 m4 m5 m6 m7
 clear h hS hJ hi ht hR
 go_enter Tryz.func40,Tryz.ntmps40
 go_wp2_with fail
 clear e0 e1 e2 e3 e4 e5 e6 e7 m0 m1 m2 m3 m4 m5 m6 m7
 have H0:Hid (ClearIn W w fb tb tab ts i S L):=hid ⟨by rw [set_same HI.out]; exact HD.out,HS.out,by rw [set_same HI.out]; exact HJ.out⟩
 clear HD HS HJ
 go_loopg [10] 8 (fun gl iv wr => ∃ (k:Nat) (Si:PS) (Li:PTab),k+gl=8∧iv=.int .i64 k∧Hid (clearFrom L false gl k Si Li=R)∧Hid (ClearIn W wr fb tb tab ts i Si Li))
 case atStart => exact ⟨0,S,L,by omega,rfl,HR,H0⟩
 case round =>
  obtain ⟨k,Si,Li,hk,rfl,hF,hC⟩:=hrel
  clear HR H0
  by_cases hk8:k < 8
  ·have hk':(k:Int) < 8:=by omega
   obtain ⟨g,rfl⟩:∃ g,gk=g+1:=⟨7 - k,by omega⟩
   have ix:=idx_any L k hk8 wr
   have HA:Hid (Turn (fun _ => False) wr (wr.alloc (.cells #[.int .i64 (L k).1,.bool (L k).2] 38))):=hid ((Turn.refl _ _).alloc _)
   have HC2:=hid (hC.out.still HA.out)
   clear hC
   by_cases hz:0 < (L k).1∧(L k).2=true
   ·have HF:=hid ((clear_go (all:=false) g k ⟨hz.1,.inr hz.2⟩).symm.trans hF.out)
    obtain ⟨hz,hz2⟩:=hz
    rw [hz2] at ix HA HC2
    clear hF
    go_wp2_with (go_at_call 32; refine (HC2.out.close HI.out k).mono ?_; rintro e w2 ⟨rfl,h2⟩; have HC3:=hid h2; clear h2)
    go_roundg g
    case measure => omega
    case rel => exact ⟨k+1,_,_,by omega,by go_num,HF,HC3⟩
   ·have HF:=hid ((clear_no (all:=false) g k (fun h => hz ⟨h.1,h.2.resolve_left (by decide)⟩)).symm.trans hF.out)
    clear hF
    by_cases hz1:0 < (L k).1
    ·have hz2:(L k).2=false:=by
      cases h2:(L k).2 with
      | false => rfl
      | true => exact absurd ⟨hz1,h2⟩ hz
     rw [hz2] at ix HA HC2
     clear hz
     go_wp2_with fail
     go_roundg g
     case measure => omega
     case rel => exact ⟨k+1,_,_,by omega,by go_num,HF,HC2⟩
    ·clear hz
     go_wp2_with fail
     go_roundg g
     case measure => omega
     case rel => exact ⟨k+1,_,_,by omega,by go_num,HF,HC2⟩
  ·have hk':¬ (k:Int) < 8:=by omega
   obtain rfl:k=8:=by omega
   obtain rfl:gk=0:=by omega
   have HF:Hid ((Si,Li)=R):=hF
   clear hF
   go_wp2_with fail
   go_returns
   rw [← HF.out]
   exact ⟨rfl,hC.out.law,hC.out.ok,hC.out.joint⟩
end
section
variable {S S':PS} {T T':PT} {e e':PE} {k n:Int} {L L':PTab} {ts:List (Nat×PTab)} {i j tab:Nat} {p q:PN} {path:ByteArray}
theorem DOk.new (h:DOk S) (hk:mget S.es k=none) (hk40:0≤k∧k < 40) (hlen:S.es.length < 40) (hE:EOk S' e) (hT:S'.ps=S.ps) (hone:e.kind≠1→∀ m f,mget S.es m=some f→f.kind=e.kind→f.pid≠e.pid) (hes:S'.es=S.es)
  (hold:∀ m f,mget S.es m=some f→EOk S f→EOk S' f) (hheld:∀ n p,mget S'.T n=some p→p.held=heldE n S.es+oneOf n e):DOk (putS S' k e):=by
 have hget:∀ m f,mget (mput S'.es k e) m=some f→(m=k∧f=e)∨(m≠k∧mget S.es m=some f):=fun m q hq => by
  rw [mget_mput] at hq
  by_cases e:m=k
  ·rw [if_pos e] at hq; cases hq; exact .inl ⟨e,rfl⟩
  ·rw [if_neg e,hes] at hq; exact .inr ⟨e,hq⟩
 refine ⟨mput_nodup (by rw [hes]; exact h.nd) k e,fun m f hf => ?_,fun m f hf => ?_,?_,fun a b f g hf hg hk1 hk2 hp => ?_,by rw [show (putS S' k e).ps=S.ps from hT]; exact h.pipes,fun n p hp => ?_⟩
 ·rcases hget m f hf with ⟨rfl,rfl⟩ | ⟨_,hf⟩
  ·exact hk40
  ·exact h.keys m f hf
 ·rcases hget m f hf with ⟨rfl,rfl⟩ | ⟨_,hf⟩
  ·exact hE
  ·exact hold m f hf (h.ent m f hf)
 ·show (mput S'.es k e).length≤40
  rw [mput_length,hes,hk]
  show S.es.length+1≤40
  omega
 ·rcases hget a f hf with ⟨rfl,rfl⟩ | ⟨ha,hf2⟩
  ·rcases hget b g hg with ⟨rfl,rfl⟩ | ⟨_,hg⟩
   ·rfl
   ·exact absurd hp.symm (hone hk1 b g hg hk2.symm)
  ·rcases hget b g hg with ⟨rfl,rfl⟩ | ⟨_,hg⟩
   ·exact absurd hp (hone (by rw [← hk2]; exact hk1) a f hf2 hk2)
   ·exact h.one a b f g hf2 hg hk1 hk2 hp
 ·show p.held=heldE n (mput S'.es k e)
  rw [hes,heldE_new hk]
  exact hheld n p hp
theorem mget_holdT (n m:Int):mget (holdT T n) m=if m=n then (mget T n).map (fun p => if p.isDir then p else { p with held:=p.held+1 }) else mget T m:=by
 unfold holdT
 cases hn:mget T n with
 | none =>
  show mget T m=_
  by_cases h:m=n
  ·rw [if_pos h,h,hn]; rfl
  ·rw [if_neg h]
 | some p =>
  show mget (if p.isDir then T else mput T n { p with held:=p.held+1 }) m=if m=n then some (if p.isDir then p else { p with held:=p.held+1 }) else mget T m
  cases hd:p.isDir with
  | true =>
   simp only [if_true]
   by_cases h:m=n
   ·rw [if_pos h,h,hn]
   ·rw [if_neg h]
  | false =>
   simp only [Bool.false_eq_true,if_false]
   rw [mget_mput]
theorem makeT_old (hok:TOk T) (hn:mget T n=some p) (path:ByteArray) (b:Bool):∃ q,mget (makeT T path b) n=some q∧q.isDir=p.isDir∧q.held=p.held:=by
 unfold makeT
 by_cases hE:makeE T path=0
 ·rw [if_pos hE]
  have hlen:T.length < 60:=by
   unfold makeE at hE
   by_cases h1:(placeT T path).1≠0
   ·rw [if_pos h1] at hE; exact absurd hE h1
   ·rw [if_neg h1] at hE
    split at hE
    ·cases hE
    ·split at hE
     ·cases hE
     ·omega
  obtain ⟨_,_,hfree,_⟩:=freeT_spec hok hlen
  have h1:mget (mput T (freeT T:Int) (newN b)) n=some p:=by
   rw [mget_mput]
   by_cases e:n=(freeT T:Int)
   ·rw [← e,hn] at hfree; cases hfree
   ·rw [if_neg e]; exact hn
  unfold nameT
  cases hd:mget (mput T (freeT T:Int) (newN b)) (placeT T path).2.1 with
  | none => exact ⟨p,h1,rfl,rfl⟩
  | some q =>
   show ∃ q',mget (mput (mput T (freeT T:Int) (newN b)) (placeT T path).2.1 { q with ds:=_ }) n=some q'∧_
   rw [mget_mput]
   by_cases e:n=(placeT T path).2.1
   ·rw [if_pos e]
    rw [← e,h1] at hd
    cases hd
    exact ⟨_,rfl,rfl,rfl⟩
   ·rw [if_neg e]
    exact ⟨p,h1,rfl,rfl⟩
 ·rw [if_neg hE]
  exact ⟨p,hn,rfl,rfl⟩
theorem makeT_same (hok:TOk T) (path:ByteArray) (b:Bool):Same T (makeT T path b):=by
 refine ⟨fun n p hp hd _ => ?_,fun n q hq => ?_⟩
 ·obtain ⟨q,h1,h2,h3⟩:=makeT_old hok hp path b
  exact ⟨q,h1,by rw [h2]; exact hd,h3⟩
 ·cases hn:mget T n with
  | some p =>
   obtain ⟨q',h1,h2,h3⟩:=makeT_old hok hn path b
   rw [hq] at h1
   cases h1
   exact .inl ⟨p,rfl,h3⟩
  | none =>
   rcases mget_makeT hq with ⟨p,hp,_⟩ | ⟨h1,_⟩
   ·rw [hn] at hp; cases hp
   ·exact .inr ⟨rfl,h1⟩
theorem fileN_same (hok:TOk S.T) (path:ByteArray) (makes:Bool):Same S.T (fileN S.T path makes).2.2:=by
 unfold fileN
 split
 ·exact makeT_same hok path false
 ·exact Same.refl _
theorem make_file (hE:makeE T path=0):fileE (makeT T path false) (makeK T path)=0:=by
 rw [makeK_ok hE]
 unfold makeT
 rw [if_pos hE]
 have h1:mget (mput T (freeT T:Int) (newN false)) (freeT T:Int)=some (newN false):=by rw [mget_mput,if_pos rfl]
 unfold nameT
 cases hd:mget (mput T (freeT T:Int) (newN false)) (placeT T path).2.1 with
 | none => exact fileE_file h1 rfl
 | some q =>
  show fileE (mput (mput T (freeT T:Int) (newN false)) (placeT T path).2.1 { q with ds:=_ }) (freeT T:Int)=0
  by_cases e:(freeT T:Int)=(placeT T path).2.1
  ·rw [← e,h1] at hd
   cases hd
   exact fileE_file (p:={ newN false with ds:=mput (dsT T (placeT T path).2.1) (placeT T path).2.2 (freeT T:Int) }) (by rw [mget_mput,if_pos e]) rfl
  ·exact fileE_file (p:=newN false) (by rw [mget_mput,if_neg e]; exact h1) rfl
theorem open_err {prot:Int} {makes:Bool} (h:openE S L path prot makes≠0):openS S L path prot makes=S∧openL S L path prot makes=L:=by
 refine ⟨?_,if_neg h⟩
 unfold openS
 unfold openE at h
 split
 ·rfl
 ·rename_i hp
  rw [if_neg hp] at h
  split
  ·rfl
  ·rename_i hf
   rw [if_neg hf] at h
   rw [if_neg h]
   have hT:fileH (fileN S.T path makes)=S.T:=by
    unfold fileZ at h
    unfold fileH
    by_cases h0:(fileN S.T path makes).1=0
    ·rw [if_pos h0] at h ⊢
     rw [holdT_err h]
     unfold fileN at h h0 ⊢
     split
     ·rename_i hc
      rw [if_pos hc] at h h0
      exact absurd (make_file h0) h
     ·rfl
    ·rw [if_neg h0]
     unfold fileN at h0 ⊢
     split
     ·rename_i hc
      rw [if_pos hc] at h0
      exact if_neg h0
     ·rfl
   rw [hT]; rfl
theorem open_len {prot:Int} {makes:Bool} (hS:DOk S) (h:openE S L path prot makes=0):(∃ j:Nat,leastL L=j∧j < 8∧(L j).1=0)∧S.es.length < 40∧fileZ (fileN S.T path makes)=0∧1≤prot∧prot≤3:=by
 unfold openE at h
 by_cases hp:prot < 1∨3 < prot
 ·rw [if_pos hp] at h; cases h
 ·rw [if_neg hp] at h
  by_cases hf:leastL L < 0∨40≤S.es.length
  ·rw [if_pos hf] at h; cases h
  ·rw [if_neg hf] at h
   exact ⟨(leastL_spec L).resolve_left (by omega),by omega,h,by omega,by omega⟩
theorem joint_open (h:Joint S ts) (hS:DOk S) (hok:TOk S.T) (hi:ts[i]?=some (tab,L)) (path:ByteArray) (prot:Int) (makes:Bool) :
  DOk (openS S L path prot makes)∧Joint (openS S L path prot makes) (ts.set i (tab,openL S L path prot makes)):=by
 by_cases hE:openE S L path prot makes=0
 ·obtain ⟨⟨j,hl,hj,hjz⟩,hlen,hz,hp1,hp2⟩:=open_len hS hE
  obtain ⟨hK40,hfree,_⟩:=freeE_spec hS.nd hlen
  obtain ⟨K,hK⟩:∃ K:Int,(freeE S.es:Int)=K:=⟨_,rfl⟩
  rw [hK] at hfree
  obtain ⟨xe,xk,T2,hX⟩:∃ xe xk T2,fileN S.T path makes=(xe,xk,T2):=⟨_,_,_,rfl⟩
  have hsame:Same S.T T2:=by have:=fileN_same (S:=S) hok path makes; rw [hX] at this; exact this
  have e1:openS S L path prot makes=putS (treeS S (holdT T2 xk)) K ⟨1,prot,xk,0,0,1⟩∧fileE T2 xk=0:=by
   unfold openS
   rw [if_neg (by omega),if_neg (by omega),if_pos hz,hX,hK]
   rw [hX] at hz
   unfold fileZ at hz
   by_cases h0:xe=0
   ·subst h0
    exact ⟨by unfold fileH; rfl,hz⟩
   ·have hz:(if xe=0 then fileE T2 xk else xe)=0:=hz
    rw [if_neg h0] at hz
    exact absurd hz h0
  have e2:openL S L path prot makes=tset L j (K+1,false):=by
   unfold openL
   rw [if_pos hE,hl,hK]; rfl
  rw [e1.1,e2]
  obtain ⟨q,hq,hqd⟩:∃ q,mget T2 xk=some q∧q.isDir=false:=by
   have h1:=e1.2
   cases hn:mget T2 xk with
   | none => rw [fileE_none hn] at h1; cases h1
   | some q =>
    cases hd:q.isDir with
    | true => rw [fileE_dir hn hd] at h1; cases h1
    | false => exact ⟨q,rfl,hd⟩
  have hkind:∀ n p,mget (holdT T2 xk) n=some p→∃ p2,mget T2 n=some p2∧p.isDir=p2.isDir∧p.held=p2.held+(if n=xk then 1 else 0):=fun n p hp => by
   rw [mget_holdT] at hp
   by_cases e:n=xk
   ·rw [if_pos e,hq] at hp
    simp only [Option.map_some,hqd,Bool.false_eq_true,if_false,Option.some.injEq] at hp
    refine ⟨q,by rw [e]; exact hq,?_,?_⟩
    ·rw [← hp]; exact hqd.symm
    ·rw [← hp,if_pos e]
   ·rw [if_neg e] at hp
    exact ⟨p,hp,rfl,by rw [if_neg e]; rfl⟩
  have hback:∀ n p,mget T2 n=some p→∃ p',mget (holdT T2 xk) n=some p'∧p'.isDir=p.isDir:=fun n p hp => by
   rw [mget_holdT]
   by_cases e:n=xk
   ·rw [e,hq] at hp
    cases hp
    rw [if_pos e,hq]
    exact ⟨_,rfl,by simp only [hqd,Bool.false_eq_true,if_false]⟩
   ·rw [if_neg e]
    exact ⟨p,hp,rfl⟩
  have hS2:=hS.tree hsame
  refine ⟨DOk.new (S:=S) (S':=treeS S (holdT T2 xk)) hS hfree (by omega) hlen ?_ rfl (fun h => absurd rfl h) rfl (fun m f hf hEf => ?_) (fun n p hp => ?_),?_⟩
  ·obtain ⟨p',h1,h2⟩:=hback xk q hq
   exact ⟨⟨by show 1≤1; decide,by show 1≤1000000; decide,Int.le_refl _,by show (0:Int)≤200; decide⟩,.inl ⟨rfl,hp1,hp2,p',h1,by rw [h2]; exact hqd⟩⟩
  ·have hE2:=hS2.ent m f hf
   refine ⟨hE2.1,?_⟩
   rcases hE2.2 with ⟨h1,h2,h3,r,hr,hrd⟩ | h1 | h1
   ·obtain ⟨p',h4,h5⟩:=hback f.node r hr
    exact .inl ⟨h1,h2,h3,p',h4,by rw [h5]; exact hrd⟩
   ·exact .inr (.inl h1)
   ·exact .inr (.inr h1)
  ·obtain ⟨p2,h1,_,h3⟩:=hkind n p hp
   have h4:p2.held=heldE n S.es:=hS2.held n p2 h1
   rw [h3,h4]
   unfold oneOf
   by_cases e:n=xk
   ·rw [if_pos e,if_pos ⟨rfl,e.symm⟩]
   ·rw [if_neg e,if_neg (fun h => e h.2.symm)]
  ·refine h.step hi hj (by show 0≤K+1∧K+1≤40; omega) (fun m hm => ?_)
   have h0:hitX (L j) m=0:=if_neg (by omega)
   rw [h0,refsOf_put]
   unfold hitX
   by_cases hmk:m=K
   ·rw [if_pos hmk,if_pos (by show K+1=m+1; omega)]
    have:refsOf S m=0:=by unfold refsOf; rw [hmk,hfree]; rfl
    rw [this]
   ·rw [if_neg hmk,if_neg (by show ¬ K+1=m+1; omega)]; rfl
 ·obtain ⟨e1,e2⟩:=open_err hE
  rw [e1,e2,set_same hi]
  exact ⟨hS,h⟩
end
section
open Go.RowKit Go.Lib
end
def dup2E (S:PS) (L:PTab) (n to_:Int):Int:=(entL S L n).elim 7 fun _ => if to_ < 0∨8≤to_ then 2 else 0
def bumpE (S:PS) (L:PTab) (n:Int):PS:=(entL S L n).elim S fun x => putS S x.1 { x.2 with refs:=x.2.refs+1 }
def dup2S (S:PS) (L:PTab) (n to_:Int):PS:=if dup2E S L n to_=0∧n≠to_ then closeS (bumpE S L n) L to_ else S
def dup2L (S:PS) (L:PTab) (n to_:Int):PTab:=if dup2E S L n to_=0∧n≠to_ then tset (closeL (bumpE S L n) L to_) to_.toNat ((L n.toNat).1,false) else L
section
variable {W:Base} {w w' w1 w2:World} {fb tb om b tab:Nat} {S S':PS} {B:Int→Nat} {P:Nat→Nat} {Ft F:Nat→Prop} {C:Nat→Nat×Int} {e e':PE} {k n:Int} {L L':PTab} {ts:List (Nat×PTab)} {i:Nat}
theorem DLawB.putE (h:DLawB W w fb tb S ts) (hF:FilesIn w fb tb om S B P Ft C) (h2:∀ k,CFoot C k→¬ W.old k) (h3:∀ (j:Nat) (x:Nat×PTab),ts[j]?=some x→¬ CFoot C x.1) (he:mget S.es k=some e) (nd:EntAt w' (B k) P e') (t:Turn (fun j => j=B k) w w'):DLawB W w' fb tb (putS S k e') ts:=by
 have hB:=hF.foot he
 exact ⟨⟨CFoot C,(hF.put he nd t).is,h2,h3⟩,fun j x hx => ⟨(h.tabs j x hx).1.turned t (fun e => h3 j x hx (e ▸ hB)),(h.tabs j x hx).2⟩,h.apart,h.turn.trans' t (fun j hj e => e ▸ h2 _ hB),h.low⟩
theorem DLawB.tabset (h:DLawB W w fb tb S ts) (hi:ts[i]?=some (tab,L)) (ht:TabIs w' tab L') (t:Turn (fun j => j=tab) w w'):DLawB W w' fb tb S (ts.set i (tab,L')):=by
 obtain ⟨F,h1,h2,h3⟩:=h.files
 exact h.step hi h2 h3 ⟨F,h1.turned t (fun k hk e => h3 i _ hi (e ▸ hk)),ht,t.mono (fun _ _ h => .inr h),fun _ h => .inl h,h3 i _ hi⟩
theorem bumpE_is (hx:entL S L n=some (k,e)):bumpE S L n=putS S k { e with refs:=e.refs+1 }:=by unfold bumpE; rw [hx]; rfl
theorem DOk.bump (h:DOk S) (hb:∀ k e,mget S.es k=some e→e.refs < 999000) (he:mget S.es k=some e):DOk (putS S k { e with refs:=e.refs+1 }):=by
 have hE:=(h.ent k e he).1
 have:=hb k e he
 exact h.put he rfl rfl rfl rfl ⟨by show 1≤e.refs+1; omega,by show e.refs+1≤1000000; omega,hE.2.2⟩
theorem TabOk.bump (h:TabOk S L) (k:Int) (e:PE):TabOk (putS S k e) L:=fun i hi => by
 rcases h i hi with h1 | ⟨f,hf⟩
 ·exact .inl h1
 ·refine .inr ?_
  show ∃ e',mget (mput S.es k e) _=some e'
  rw [mget_mput]
  by_cases e1:(L i).1 - 1=k
  ·exact ⟨e,if_pos e1⟩
  ·exact ⟨f,by rw [if_neg e1]; exact hf⟩
theorem closeL_other (S:PS) (L:PTab) (m:Int) {j:Nat} (h:j≠m.toNat):closeL S L m j=L j:=by
 unfold closeL
 cases entL S L m with
 | none => rfl
 | some x => exact tset_other L _ h
theorem law_dup2 (h:DLawB W w fb tb S ts) (hS:DOk S) (hJ:Joint S ts) (hl:ts.length≤1000) (hi:ts[i]?=some (tab,L)) (n m:Int) :
  Calls Tryz.prog 28 #[.pointer (some ⟨fb,0,none⟩),.pointer (some ⟨tab,0,none⟩),.int .i64 n,.int .i64 m] w fun e w' => e=.returned (TErr (dup2E S L n m))∧DLawB W w' fb tb (dup2S S L n m) (ts.set i (tab,dup2L S L n m)):=by
 have hok:=hJ.there hi
 have ht:=(h.tabs i _ hi).1
 obtain ⟨F,⟨om,B,P,Ft,C,hin,rfl⟩,h2,h3⟩:=h.files
 have HSame:Hid (∀ w',Turn (fun _ => False) w w'→DLawB W w' fb tb S (ts.set i (tab,L))):=hid (fun w' t => by rw [set_same hi]; exact h.still t)
 cases hx:entL S L n with
 | none =>
  have e1:dup2E S L n m=7:=by unfold dup2E; rw [hx]; rfl
  have e2:dup2S S L n m=S:=if_neg (fun h => by rw [e1] at h; exact absurd h.1 (by decide))
  have e4:dup2L S L n m=L:=if_neg (fun h => by rw [e1] at h; exact absurd h.1 (by decide))
  rw [e1,e2,e4]
  have HG:=hid (get_none hin ht hok hx)
  clear h hS hJ hin ht hok h2 h3 hx e1 e2 e4 hi
  go_enter Tryz.func28,Tryz.ntmps28
  go_wp2_with (go_at_call 43; refine HG.out.mono ?_; rintro e w' ⟨rfl,t⟩)
  go_ret
  exact ⟨rfl,HSame.out _ t⟩
 | some x =>
  obtain ⟨k,e⟩:=x
  obtain ⟨hn0,hn8,hnk,hnz,he⟩:=entL_slot hx
  have HG:=hid (get_some hin ht hok hx)
  by_cases hm:m < 0∨8≤m
  ·have e1:dup2E S L n m=2:=by unfold dup2E; rw [hx]; exact if_pos hm
   have e2:dup2S S L n m=S:=if_neg (fun h => by rw [e1] at h; exact absurd h.1 (by decide))
   have e4:dup2L S L n m=L:=if_neg (fun h => by rw [e1] at h; exact absurd h.1 (by decide))
   rw [e1,e2,e4]
   clear h hS hJ hin ht hok h2 h3 hx e1 e2 e4 hi hn0 hn8 hnk hnz he
   rcases hm with hm | hm
   all_goals go_enter Tryz.func28,Tryz.ntmps28
   all_goals go_wp2_with (go_at_call 43; refine HG.out.mono ?_; rintro e w' ⟨rfl,t⟩)
   all_goals go_ret
   all_goals exact ⟨rfl,HSame.out _ t⟩
  ·obtain ⟨hm0,hm8⟩:0≤m∧m < 8:=by omega
   have e1:dup2E S L n m=0:=by unfold dup2E; rw [hx]; exact if_neg hm
   by_cases hnm:n=m
   ·have e2:dup2S S L n m=S:=if_neg (fun h => h.2 hnm)
    have e4:dup2L S L n m=L:=if_neg (fun h => h.2 hnm)
    rw [e1,e2,e4]
    subst hnm
    clear h hS hJ hin ht hok h2 h3 hx e1 e2 e4 hi hnk hnz he hm
    go_enter Tryz.func28,Tryz.ntmps28
    go_wp2_with (go_at_call 43; refine HG.out.mono ?_; rintro e w' ⟨rfl,t⟩)
    go_ret
    exact ⟨rfl,HSame.out _ t⟩
   ·have e2:dup2S S L n m=closeS (bumpE S L n) L m:=if_pos ⟨e1,hnm⟩
    have e4:dup2L S L n m=tset (closeL (bumpE S L n) L m) m.toNat ((L n.toNat).1,false):=if_pos ⟨e1,hnm⟩
    rw [e1,e2,e4,bumpE_is hx]
    have hb:=hJ.bound hS hl
    have hrf:=hb k e he
    have hrw:IntKind.i64.wrap ((e.refs:Int)+1)=(e.refs:Int)+1:=IntWalk.i64_in _ (by omega)
    have HS2:=hid (hS.bump hb he)
    have HO2:=hid (hok.bump k { e with refs:=e.refs+1 })
    have HD:=hid h
    have HI:=hid hi
    have HE:=hid he
    have HIn:=hid hin
    have H2:=hid h2
    have H3:=hid h3
    have hpn:=hJ.pos i _ hi n.toNat (by omega)
    have HPn:=hid hpn
    have hnmb:(n == m)=false:=by simpa using hnm
    have hnmt:n.toNat≠m.toNat:=by omega
    have HCl:=hid (closeL_other (putS S k { e with refs:=e.refs+1 }) L m hnmt)
    clear h hS hJ hin ht hok h2 h3 hx e1 e2 e4 hi he hm hb hnm hnk hnz hpn
    go_enter Tryz.func28,Tryz.ntmps28
    go_upto_region 10 with (first | (go_at_call 43; refine HG.out.mono ?_; rintro e w' ⟨rfl,t⟩; have HTt:=hid t; clear t; have HIn1:=hid (HIn.out.turned HTt.out (fun _ _ => id)); have c5:=(HIn1.out.en _ _ HE.out).c5; have z5:=(HIn1.out.en _ _ HE.out).fz 5) | (go_at_call 32; refine (law_close ((HD.out.still HTt.out).putE HIn1.out H2.out H3.out HE.out ((HIn1.out.en _ _ HE.out).setRefs (z:=(e.refs:Int)+1) (c:=e.refs+1) (by omega)) (turn_own _ _ 5 _)) HS2.out HI.out HO2.out m).mono ?_; rintro e w2 ⟨rfl,hd⟩; have HD2:=hid hd; clear hd))
    clear c5 z5
    obtain ⟨L2',hL2⟩:∃ L2',closeL (putS S k { e with refs:=e.refs+1 }) L m=L2':=⟨_,rfl⟩
    rw [hL2] at HD2 HCl
    have hi2:(ts.set i (tab,L2'))[i]?=some (tab,L2'):=by rw [List.getElem?_set_self (by have h5:=HI.out; rcases Nat.lt_or_ge i ts.length with h1 | h1; exact h1; rw [List.getElem?_eq_none h1] at h5; cases h5)]
    have ht2:=(HD2.out.tabs i _ hi2).1
    have a0:=ht2.ent n.toNat (by omega)
    have a1:=ht2.ent m.toNat (by omega)
    have a2:=ht2.mark m.toNat (by omega)
    have z1:=ht2.fz (m.toNat * 2)
    have z2:=ht2.fz (m.toNat * 2+1)
    simp only at a0 a1 a2
    rw [HCl.out] at a0
    have HT2:=hid ht2
    have HI2:=hid hi2
    have HL2:=hid hL2
    clear ht2 hi2 hL2
    go_region
    all_goals go_wp2_with fail
    all_goals go_ret
    all_goals (
     rw [HL2.out]
     have h5:=HD2.out.tabset HI2.out ((HT2.out.set (i:=m.toNat) (by omega) (L n.toNat).1 false HPn.out).turned (S:=fun _ => False) (Turn.refl _ _).drew id) ((turn_tab_own tab _ _ _ _ _).drew)
     rw [List.set_set] at h5
     exact ⟨rfl,h5⟩)
theorem joint_dup2 (h:Joint S ts) (hS:DOk S) (hl:ts.length≤1000) {tab:Nat} (hi:ts[i]?=some (tab,L)) (hok:TOk S.T) (n m:Int):DOk (dup2S S L n m)∧Joint (dup2S S L n m) (ts.set i (tab,dup2L S L n m)):=by
 unfold dup2S dup2L
 by_cases hc:dup2E S L n m=0∧n≠m
 ·rw [if_pos hc,if_pos hc]
  cases hx:entL S L n with
  | none => have h1:=hc.1; unfold dup2E at h1; rw [hx] at h1; cases h1
  | some x =>
   obtain ⟨k,e⟩:=x
   obtain ⟨hn0,hn8,hnk,hnz,he⟩:=entL_slot hx
   obtain ⟨hm0,hm8⟩:0≤m∧m < 8:=by
    have h1:=hc.1
    unfold dup2E at h1
    rw [hx] at h1
    have h1:(if m < 0∨8≤m then (2:Int) else 0)=0:=h1
    by_cases hm:m < 0∨8≤m
    ·rw [if_pos hm] at h1; cases h1
    ·omega
   rw [bumpE_is hx]
   have hb:=h.bound hS hl
   have hS2:=hS.bump hb he
   have hS3:=hS2.close L m
   refine ⟨hS3,?_⟩
   have hk0:=(hS.keys k e he).1
   refine ⟨fun q hq => ?_,set_pos h hi (fun j hj => ?_)⟩
   ·have h1:=cntT_set hi (L':=tset (closeL (putS S k { e with refs:=e.refs+1 }) L m) m.toNat ((L n.toNat).1,false)) q
    have h2:=h.cnt q hq
    have hu:hitX ((L n.toNat).1,false) q=if q=k then 1 else 0:=by
     unfold hitX
     by_cases hqk:q=k
     ·rw [if_pos hqk,if_pos (by show (L n.toNat).1=q+1; omega)]
     ·rw [if_neg hqk,if_neg (by show ¬ (L n.toNat).1=q+1; omega)]
    have hrk:=refsOf_some he
    unfold closeS closeL at *
    cases hx2:entL (putS S k { e with refs:=e.refs+1 }) L m with
    | none =>
     rw [hx2] at h1
     have h3:=cntL_set (L:=L) (x:=((L n.toNat).1,false)) (k:=q) (j:=m.toNat) (by omega)
     have hz:(L m.toNat).1=0:=by
      rcases (h.there hi).bump k { e with refs:=e.refs+1 } m.toNat (by omega) with h4 | ⟨f,hf⟩
      ·exact h4
      ·rcases Decidable.em ((L m.toNat).1=0) with h4 | h4
       ·exact h4
       ·exfalso
        have h5:slotL L m=some ((L m.toNat).1 - 1):=if_pos ⟨hm0,hm8,h4⟩
        unfold entL at hx2
        rw [h5] at hx2
        have hx2:(mget (putS S k { e with refs:=e.refs+1 }).es ((L m.toNat).1 - 1)).map (fun e => ((L m.toNat).1 - 1,e))=none:=hx2
        rw [hf] at hx2
        cases hx2
     have h0:hitX (L m.toNat) q=0:=if_neg (by omega)
     have h1:cntT q (ts.set i (tab,tset L m.toNat ((L n.toNat).1,false)))+cntL L q=cntT q ts+cntL (tset L m.toNat ((L n.toNat).1,false)) q:=h1
     show cntT q (ts.set i (tab,tset L m.toNat ((L n.toNat).1,false)))=refsOf (putS S k { e with refs:=e.refs+1 }) q
     rw [refsOf_put]
     by_cases hqk:q=k
     ·rw [if_pos hqk]
      rw [if_pos hqk] at hu
      rw [hqk] at h1 h2 h3 h0 hu ⊢
      show _=e.refs+1
      omega
     ·rw [if_neg hqk]
      rw [if_neg hqk] at hu
      omega
    | some y =>
     obtain ⟨k2,e2⟩:=y
     obtain ⟨_,_,hmk,hmz,he2⟩:=entL_slot hx2
     rw [hx2] at h1
     have h3:=cntL_set (L:=tset L m.toNat (0,false)) (x:=((L n.toNat).1,false)) (k:=q) (j:=m.toNat) (by omega)
     have h4:=cntL_set (L:=L) (x:=((0:Int),false)) (k:=q) (j:=m.toNat) (by omega)
     rw [tset_self,hit_zero hq] at h3
     rw [hit_zero hq] at h4
     have h1:cntT q (ts.set i (tab,tset (tset L m.toNat (0,false)) m.toNat ((L n.toNat).1,false)))+cntL L q=cntT q ts+cntL (tset (tset L m.toNat (0,false)) m.toNat ((L n.toNat).1,false)) q:=h1
     show cntT q (ts.set i (tab,tset (tset L m.toNat (0,false)) m.toNat ((L n.toNat).1,false)))=refsOf (if 1 < e2.refs then putS (putS S k { e with refs:=e.refs+1 }) k2 { e2 with refs:=e2.refs - 1 } else goneS (delS (putS S k { e with refs:=e.refs+1 }) k2) e2) q
     have hr:refsOf (if 1 < e2.refs then putS (putS S k { e with refs:=e.refs+1 }) k2 { e2 with refs:=e2.refs - 1 } else goneS (delS (putS S k { e with refs:=e.refs+1 }) k2) e2) q=if q=k2 then e2.refs - 1 else if q=k then e.refs+1 else refsOf S q:=by
      by_cases hb2:1 < e2.refs
      ·rw [if_pos hb2,refsOf_put,refsOf_put]
      ·rw [if_neg hb2,refsOf_es (gone_es _ _),refsOf_del,refsOf_put]
       by_cases hqk:q=k2
       ·rw [if_pos hqk,if_pos hqk]; omega
       ·rw [if_neg hqk,if_neg hqk]
     rw [hr]
     have hv:hitX (L m.toNat) q=if q=k2 then 1 else 0:=by
      unfold hitX
      by_cases hqk:q=k2
      ·rw [if_pos hqk,if_pos (by omega)]
      ·rw [if_neg hqk,if_neg (by omega)]
     have he2':e2.refs=if k2=k then e.refs+1 else refsOf S k2:=by
      have h5:=refsOf_some he2
      rw [refsOf_put] at h5
      exact h5.symm
     by_cases hq2:q=k2
     ·rw [if_pos hq2]
      rw [if_pos hq2] at hv
      rw [← hq2] at he2'
      by_cases hqk:q=k
      ·rw [if_pos hqk] at he2' hu
       rw [hqk] at h1 h2 h3 h4 hu hv ⊢
       omega
      ·rw [if_neg hqk] at he2' hu
       omega
     ·rw [if_neg hq2]
      rw [if_neg hq2] at hv
      by_cases hqk:q=k
      ·rw [if_pos hqk]
       rw [if_pos hqk] at hu
       rw [hqk] at h1 h2 h3 h4 hu hv ⊢
       omega
      ·rw [if_neg hqk]
       rw [if_neg hqk] at hu
       omega
   ·have hp:=fun j hj => h.pos i _ hi j hj
    refine pos_set (x:=((L n.toNat).1,false)) (fun j hj => ?_) (hp n.toNat (by omega)) m.toNat j hj
    unfold closeL
    cases entL (putS S k { e with refs:=e.refs+1 }) L m with
    | none => exact hp j hj
    | some y => exact pos_set hp (x:=(0,false)) ⟨Int.le_refl _,by show (0:Int)≤40; decide⟩ m.toNat j hj
 ·rw [if_neg hc,if_neg hc,set_same hi]
  exact ⟨hS,h⟩
end
def pipeE (S:PS) (L:PTab):Int:=if 6 < usedL L∨38 < S.es.length then 12 else 0
def newP:PP:=⟨ByteArray.empty,1,1⟩
def moreS (S:PS) (q:PP):PS:={ S with ps:=S.ps ++ [q] }
def pipeS1 (S:PS):PS:=putS (moreS S newP) (freeE S.es) ⟨2,1,0,S.ps.length,0,1⟩
def pipeS2 (S:PS):PS:=putS (pipeS1 S) (freeE (pipeS1 S).es) ⟨3,2,0,S.ps.length,0,1⟩
def pipeL1 (S:PS) (L:PTab):PTab:=tset L (leastL L).toNat ((freeE S.es:Int)+1,false)
def pipeL2 (S:PS) (L:PTab):PTab:=tset (pipeL1 S L) (leastL (pipeL1 S L)).toNat ((freeE (pipeS1 S).es:Int)+1,false)
def pipedS (S:PS) (L:PTab):PS:=if pipeE S L=0 then pipeS2 S else S
def pipedL (S:PS) (L:PTab):PTab:=if pipeE S L=0 then pipeL2 S L else L
def pipeK1 (S:PS) (L:PTab):Int:=if pipeE S L=0 then leastL L else 0
def pipeK2 (S:PS) (L:PTab):Int:=if pipeE S L=0 then leastL (pipeL1 S L) else 0
def updP (P:Nat→Nat) (i c:Nat):Nat→Nat:=fun j => if j=i then c else P j
section
variable {W:Base} {w w' w1 w2:World} {fb tb om b c tab:Nat} {S S':PS} {B:Int→Nat} {P:Nat→Nat} {Ft F:Nat→Prop} {C:Nat→Nat×Int} {e e':PE} {k n:Int} {L L':PTab} {ts:List (Nat×PTab)} {i:Nat} {q:PP}
theorem FilesIn.pipeNew (h:FilesIn w fb tb om S B P Ft C) (hS:DOk S) (hp:PipeIs w' c q.b q.e0 q.e1) (t:Turn (fun j => j=c) w w') (hc:¬ CFoot C c) :
  FilesIn w' fb tb om (moreS S q) B (updP P S.ps.length c) Ft (updC C c (4,(S.ps.length:Int))):=by
 have hno:∀ b x,C b=x→x≠(0,0)→¬ b=c:=fun b x h1 h2 h3 => hc (by rw [← h3]; show C b≠_; rw [h1]; exact h2)
 have hf:∀ b x,C b=x→x≠(0,0)→updC C c (4,(S.ps.length:Int)) b=x:=fun b x h1 h2 => by rw [updC_old (by show C b≠_; rw [h1]; exact h2) hc]; exact h1
 have hget:∀ (j:Nat) (r:PP),(S.ps ++ [q])[j]?=some r→(j=S.ps.length∧r=q)∨(j≠S.ps.length∧S.ps[j]?=some r):=fun j r hr => by
  rcases Nat.lt_or_ge j S.ps.length with hj | hj
  ·rw [List.getElem?_append_left hj] at hr; exact .inr ⟨by omega,hr⟩
  ·rw [List.getElem?_append_right hj] at hr
   cases hz:j - S.ps.length with
   | zero => rw [hz] at hr; exact .inl ⟨by omega,(Option.some.inj hr).symm⟩
   | succ m => rw [hz] at hr; cases hr
 have hpv:∀ m e,mget S.es m=some e→pipeV (updP P S.ps.length c) e=pipeV P e:=fun m e he => by
  unfold pipeV
  by_cases h1:e.kind=1
  ·rw [if_pos h1,if_pos h1]
  ·rw [if_neg h1,if_neg h1]
   have hE:=(hS.ent m e he).2
   obtain ⟨r,hr⟩:∃ r,S.ps[e.pid]?=some r:=by
    rcases hE with h2 | ⟨_,_,r,hr,_⟩ | ⟨_,_,r,hr,_⟩
    ·exact absurd h2.1 h1
    ·exact ⟨r,hr⟩
    ·exact ⟨r,hr⟩
   have hlt:e.pid < S.ps.length:=(List.getElem?_eq_some_iff.1 hr).1
   unfold updP
   rw [if_neg (by omega)]
 refine ⟨(t.cell (a:=⟨fb,0,none⟩) (lt_of_cell h.h0) (hno _ _ h.cf (by simp))).trans h.h0,(t.cell (a:=⟨fb,1,none⟩) (lt_of_cell h.h1) (hno _ _ h.cf (by simp))).trans h.h1,h.tr.turned t (fun j hj => hno _ _ (h.ct j hj) (by simp)),h.mp.turned t (hno _ _ h.cm (by simp)),fun m e he => ?_,fun j r hr => ?_,hf _ _ h.cf (by simp),hf _ _ h.cm (by simp),fun m e he => hf _ _ (h.ce m e he) (by simp),fun j r hr => ?_,fun j hj => hf _ _ (h.ct j hj) (by simp),fun j hj => ?_⟩
 ·have h1:=(h.en m e he).turned t (hno _ _ (h.ce m e he) (by simp))
  exact { h1 with c3:=by rw [hpv m e he]; exact h1.c3 }
 ·rcases hget j r hr with ⟨rfl,rfl⟩ | ⟨h1,h2⟩
  ·show PipeIs w' (if _=_ then c else P _) _ _ _
   rw [if_pos rfl]; exact hp
  ·show PipeIs w' (if j=_ then c else P j) _ _ _
   rw [if_neg h1]
   exact (h.pp j r h2).turned t (hno _ _ (h.cp j r h2) (by simp))
 ·rcases hget j r hr with ⟨rfl,rfl⟩ | ⟨h1,h2⟩
  ·show updC C c _ (if _=_ then c else P _)=_
   rw [if_pos rfl]; exact if_pos rfl
  ·show updC C c _ (if j=_ then c else P j)=_
   rw [if_neg h1]
   exact hf _ _ (h.cp j r h2) (by simp)
 ·by_cases e1:j=c
  ·rw [e1]; exact hp.lt
  ·exact Nat.lt_of_lt_of_le (h.low j (by have hj:updC C c _ j≠_:=hj; unfold updC at hj; rw [if_neg e1] at hj; exact hj)) t.size
theorem pipe_room (hp:∀ j,j < 8→0≤(L j).1∧(L j).1≤40) (h:pipeE S L=0) :
  (∃ j:Nat,leastL L=j∧j < 8∧(L j).1=0)∧(∃ j:Nat,leastL (pipeL1 S L)=j∧j < 8∧(pipeL1 S L j).1=0)∧usedL L≤6∧S.es.length≤38:=by
 have h6:usedL L≤6∧S.es.length≤38:=by
  unfold pipeE at h
  by_cases h1:6 < usedL L∨38 < S.es.length
  ·rw [if_pos h1] at h; cases h
  ·omega
 obtain ⟨j,hl,hj,hjz⟩:=least_room (fun m hm => (hp m hm).1) (show usedL L < 8 by omega)
 refine ⟨⟨j,hl,hj,hjz⟩,?_,h6⟩
 have hu:=usedL_set (L:=L) (x:=((freeE S.es:Int)+1,false)) hj
 have h1:pipeL1 S L=tset L j ((freeE S.es:Int)+1,false):=by unfold pipeL1; rw [hl]; rfl
 rw [h1]
 refine least_room (fun m hm => ?_) ?_
 ·by_cases e:m=j
  ·rw [e,tset_self]; show (0:Int)≤(freeE S.es:Int)+1; omega
  ·rw [tset_other L _ e]; exact (hp m hm).1
 ·have h2:usX ((freeE S.es:Int)+1,false)=1:=if_pos (by show (0:Int) < (freeE S.es:Int)+1; omega)
  omega
theorem pipe_S1 (hS:DOk S) (hlen:S.es.length≤38):DOk (pipeS1 S)∧(pipeS1 S).es.length < 40∧mget S.es (freeE S.es:Int)=none∧freeE S.es < 40∧(∀ m e,mget (pipeS1 S).es m=some e→e.kind=2→e.pid=S.ps.length→m=freeE S.es)∧(∀ m e,mget (pipeS1 S).es m=some e→e.kind=3→e.pid≠S.ps.length):=by
 obtain ⟨hK40,hfree,_⟩:=freeE_spec hS.nd (by omega)
 have hlast:(S.ps ++ [newP])[S.ps.length]?=some newP:=by rw [List.getElem?_append_right (Nat.le_refl _),Nat.sub_self]; rfl
 have hpid:∀ m f,mget S.es m=some f→f.kind≠1→f.pid < S.ps.length:=fun m f hf hk => by
  rcases (hS.ent m f hf).2 with h1 | ⟨_,_,r,hr,_⟩ | ⟨_,_,r,hr,_⟩
  ·exact absurd h1.1 hk
  ·exact (List.getElem?_eq_some_iff.1 hr).1
  ·exact (List.getElem?_eq_some_iff.1 hr).1
 have hold:∀ {ps:List PP} (j:Nat) (r:PP),ps[j]?=some r→(ps ++ [newP])[j]?=some r:=fun j r hr => by rw [List.getElem?_append_left (List.getElem?_eq_some_iff.1 hr).1]; exact hr
 have hM:DOk (moreS S newP):=by
  refine ⟨hS.nd,hS.keys,fun m f hf => ?_,hS.size,hS.one,fun j r hr => ?_,hS.held⟩
  ·have hE:=hS.ent m f hf
   refine ⟨hE.1,?_⟩
   rcases hE.2 with h1 | ⟨h1,h2,r,hr,h3⟩ | ⟨h1,h2,r,hr,h3⟩
   ·exact .inl h1
   ·exact .inr (.inl ⟨h1,h2,r,hold _ r hr,h3⟩)
   ·exact .inr (.inr ⟨h1,h2,r,hold _ r hr,h3⟩)
  ·rcases Nat.lt_or_ge j S.ps.length with hj | hj
   ·have hr:(S.ps ++ [newP])[j]?=some r:=hr
    rw [List.getElem?_append_left hj] at hr
    exact hS.pipes j r hr
   ·have hr:(S.ps ++ [newP])[j]?=some r:=hr
    rw [List.getElem?_append_right hj] at hr
    cases hz:j - S.ps.length with
    | zero => rw [hz] at hr; cases hr; exact ⟨by show (0:Nat)≤16; decide,.inr rfl,.inr rfl⟩
    | succ m => rw [hz] at hr; cases hr
 have hget:∀ m f,mget (pipeS1 S).es m=some f→(m=freeE S.es∧f=⟨2,1,0,S.ps.length,0,1⟩)∨(m≠freeE S.es∧mget S.es m=some f):=fun m f hf => by
  have hf:mget (mput S.es (freeE S.es:Int) ⟨2,1,0,S.ps.length,0,1⟩) m=some f:=hf
  rw [mget_mput] at hf
  by_cases e:m=freeE S.es
  ·rw [if_pos e] at hf; cases hf; exact .inl ⟨e,rfl⟩
  ·rw [if_neg e] at hf; exact .inr ⟨e,hf⟩
 refine ⟨DOk.new (S:=moreS S newP) (S':=moreS S newP) hM hfree (by omega) (by show S.es.length < 40; omega) ⟨⟨by show 1≤1; decide,by show 1≤1000000; decide,Int.le_refl _,by show (0:Int)≤200; decide⟩,.inr (.inl ⟨rfl,rfl,newP,hlast,rfl⟩)⟩ rfl (fun _ m f hf hk hp => ?_) rfl (fun m f hf hE => hE) (fun n p hp => ?_),?_,hfree,hK40,fun m f hf hk hp => ?_,fun m f hf hk hp => ?_⟩
 ·have h1:=hpid m f hf (by rw [hk]; show (2:Int)≠1; decide)
  have h2:f.pid=S.ps.length:=hp
  omega
 ·rw [show oneOf n ⟨2,1,0,S.ps.length,0,1⟩=0 from if_neg (fun h => by have:=h.1; exact absurd this (by show ¬ (2:Int)=1; decide)),Nat.add_zero]
  exact hS.held n p hp
 ·show (mput S.es (freeE S.es:Int) _).length < 40
  rw [mput_length,hfree]
  show S.es.length+1 < 40
  omega
 ·rcases hget m f hf with ⟨h1,_⟩ | ⟨_,h2⟩
  ·exact h1
  ·have:=hpid m f h2 (by rw [hk]; decide); omega
 ·rcases hget m f hf with ⟨_,rfl⟩ | ⟨_,h2⟩
  ·cases hk
  ·have:=hpid m f h2 (by rw [hk]; decide); omega
theorem pipe_S2 (hS:DOk S) (hlen:S.es.length≤38):DOk (pipeS2 S)∧mget (pipeS1 S).es (freeE (pipeS1 S).es:Int)=none∧freeE (pipeS1 S).es < 40:=by
 obtain ⟨h1,h2,h3,h4,h5,h6⟩:=pipe_S1 hS hlen
 obtain ⟨hK40,hfree,_⟩:=freeE_spec h1.nd h2
 have hlast:(S.ps ++ [newP])[S.ps.length]?=some newP:=by rw [List.getElem?_append_right (Nat.le_refl _),Nat.sub_self]; rfl
 refine ⟨DOk.new (S:=pipeS1 S) (S':=pipeS1 S) h1 hfree (by omega) h2 ⟨⟨by show 1≤1; decide,by show 1≤1000000; decide,Int.le_refl _,by show (0:Int)≤200; decide⟩,.inr (.inr ⟨rfl,rfl,newP,hlast,rfl⟩)⟩ rfl (fun _ m f hf hk hp => h6 m f hf hk hp) rfl (fun m f hf hE => hE) (fun n p hp => ?_),hfree,hK40⟩
 rw [show oneOf n ⟨3,2,0,S.ps.length,0,1⟩=0 from if_neg (fun h => by have:=h.1; exact absurd this (by show ¬ (3:Int)=1; decide)),Nat.add_zero]
 exact h1.held n p hp
theorem joint_new (h:Joint S ts) (hi:ts[i]?=some (tab,L)) {j:Nat} (hj:j < 8) (hjz:(L j).1=0) {K:Nat} (hK:K < 40) (hfree:mget S.es (K:Int)=none) (hes:S'.es=S.es) (he:e.refs=1):Joint (putS S' (K:Int) e) (ts.set i (tab,tset L j ((K:Int)+1,false))):=by
 refine h.step hi hj (by show 0≤(K:Int)+1∧(K:Int)+1≤40; omega) (fun m hm => ?_)
 have h0:hitX (L j) m=0:=if_neg (by omega)
 rw [h0,refsOf_put]
 unfold hitX
 by_cases hmk:m=K
 ·rw [if_pos hmk,if_pos (by show (K:Int)+1=m+1; omega),he]
  have:refsOf S m=0:=by unfold refsOf; rw [hmk,hfree]; rfl
  rw [this]
 ·rw [if_neg hmk,if_neg (by show ¬ (K:Int)+1=m+1; omega),refsOf_es hes]
theorem joint_pipe (h:Joint S ts) (hS:DOk S) (hi:ts[i]?=some (tab,L)):DOk (pipedS S L)∧Joint (pipedS S L) (ts.set i (tab,pipedL S L)):=by
 unfold pipedS pipedL
 by_cases hE:pipeE S L=0
 ·rw [if_pos hE,if_pos hE]
  have hp:=fun j hj => h.pos i _ hi j hj
  obtain ⟨⟨j,hl,hj,hjz⟩,⟨j2,hl2,hj2,hjz2⟩,h6,hlen⟩:=pipe_room (S:=S) hp hE
  obtain ⟨a1,a2,a3,a4,a5,a6⟩:=pipe_S1 hS hlen
  obtain ⟨b1,b2,b3⟩:=pipe_S2 hS hlen
  refine ⟨b1,?_⟩
  have e1:pipeL1 S L=tset L j ((freeE S.es:Int)+1,false):=by unfold pipeL1; rw [hl]; rfl
  have e2:pipeL2 S L=tset (pipeL1 S L) j2 ((freeE (pipeS1 S).es:Int)+1,false):=by unfold pipeL2; rw [hl2]; rfl
  have g1:Joint (pipeS1 S) (ts.set i (tab,pipeL1 S L)):=by rw [e1]; exact joint_new h hi hj hjz a4 a3 (S':=moreS S newP) rfl rfl
  have hi2:(ts.set i (tab,pipeL1 S L))[i]?=some (tab,pipeL1 S L):=by rw [List.getElem?_set_self (by rcases Nat.lt_or_ge i ts.length with h1 | h1; exact h1; rw [List.getElem?_eq_none h1] at hi; cases hi)]
  have g2:=joint_new g1 hi2 hj2 hjz2 b3 b2 (S':=pipeS1 S) (e:=⟨3,2,0,S.ps.length,0,1⟩) rfl rfl
  rw [List.set_set] at g2
  rw [e2]
  exact g2
 ·rw [if_neg hE,if_neg hE,set_same hi]
  exact ⟨hS,h⟩
def pentObj (kind prot:Int) (c:Nat):Obj:=.cells #[.int .i64 kind,.int .i64 prot,.int .i64 0,.pointer (some ⟨c,0,none⟩),.int .i64 0,.int .i64 0] 87
theorem pentObj_at (w:World) (P:Nat→Nat) (kind prot:Int) (c pid:Nat) (hk:kind≠1) (hP:P pid=c):EntAt (w.alloc (pentObj kind prot c)) w.heap.size P ⟨kind,prot,0,pid,0,0⟩ :=
 ⟨World.cell?_alloc_new _ _ _ _,World.cell?_alloc_new _ _ _ _,World.cell?_alloc_new _ _ _ _,by
  rw [show pipeV P ⟨kind,prot,0,pid,0,0⟩=.pointer (some ⟨c,0,none⟩) from by unfold pipeV; rw [if_neg hk,← hP]; rfl]
  exact World.cell?_alloc_new _ _ _ _,World.cell?_alloc_new _ _ _ _,World.cell?_alloc_new _ _ _ _,fun i => World.frozen?_alloc_new _ _ _ _⟩
def pipeObj:Obj:=.cells #[.string ⟨#[]⟩,.int .i64 0,.int .i64 0] 136
theorem pipeObj_at (w:World):PipeIs (w.alloc pipeObj) w.heap.size ByteArray.empty 0 0 :=
 ⟨World.cell?_alloc_new _ _ _ _,World.cell?_alloc_new _ _ _ _,World.cell?_alloc_new _ _ _ _,fun i => World.frozen?_alloc_new _ _ _ _⟩
theorem pipe_is (h:FilesIs w fb tb S F) (hS:DOk S) (ht:TabIs w tab L) (hn:¬ F tab) :
  Calls Tryz.prog 24 #[.pointer (some ⟨fb,0,none⟩),.pointer (some ⟨tab,0,none⟩)] w fun e w' => e=.returned (.tuple #[.int .i64 (pipeK1 S L),.int .i64 (pipeK2 S L),TErr (pipeE S L)])∧FilesTo fb tb tab F w w' (pipedS S L) (pipedL S L):=by
 obtain ⟨om,B,P,Ft,C,hin,rfl⟩:=h
 have HU:=hid (used_is ht)
 have HI:=hid hin
 have HT:=hid ht
 have HN:=hid hn
 by_cases hE:pipeE S L=0
 ·obtain ⟨⟨j,hl,hj,hjz⟩,⟨j2,hl2,hj2,hjz2⟩,h6,hlen⟩:=pipe_room (S:=S) ht.pos hE
  obtain ⟨a1,a2,a3,a4,a5,a6⟩:=pipe_S1 hS hlen
  have e1:pipedS S L=pipeS2 S:=if_pos hE
  have e2:pipedL S L=pipeL2 S L:=if_pos hE
  have e3:pipeK1 S L=j:=by unfold pipeK1; rw [if_pos hE,hl]
  have e4:pipeK2 S L=j2:=by unfold pipeK2; rw [if_pos hE,hl2]
  have e5:pipeL1 S L=tset L j ((freeE S.es:Int)+1,false):=by unfold pipeL1; rw [hl]; rfl
  have e6:pipeL2 S L=tset (pipeL1 S L) j2 ((freeE (pipeS1 S).es:Int)+1,false):=by unfold pipeL2; rw [hl2]; rfl
  rw [hE,e1,e2,e3,e4,e6]
  have HE5:=hid e5
  have HL1:=hid hl
  have HL2:=hid hl2
  have HS:=hid hS
  have HS1:=hid a1
  have HA2:=hid a2
  have h6':¬ (6:Int) < usedL L:=by omega
  have hl38:¬ (38:Int) < S.es.length:=by omega
  clear hin hS ht hn hE e1 e2 e3 e4 e5 e6 hl hl2 a1 a2 a3 a4 a5 a6 h6 hjz hjz2
  go_enter Tryz.func24,Tryz.ntmps24
  go_upto_region 3 with (go_at_call 12; refine HU.out.mono ?_; rintro e w1 ⟨rfl,t1⟩; have HT1:=hid t1; clear t1; have hh:=(HI.out.turned HT1.out (fun _ _ => id)).h1; have hln:=(HI.out.turned HT1.out (fun _ _ => id)).mp.run_len Tryz.underlying78 3; rw [show (keysE B S.es).length=S.es.length from List.length_map ..] at hln)
  clear hh hln
  have HI1:=hid (HI.out.turned HT1.out (fun _ _ => id))
  have HTb1:=hid (HT.out.turned HT1.out id)
  have HP0:=hid (pipeObj_at w1)
  have HTa:Hid (Turn (fun _ => False) w1 (w1.alloc pipeObj)):=hid ((Turn.refl _ _).alloc _)
  unfold pipeObj at HP0 HTa
  obtain ⟨c,hc⟩:∃ c,w1.heap.size=c:=⟨_,rfl⟩
  have HC:=hid hc
  rw [hc] at HP0
  go_upto_region 4 with fail
  clear hc
  go_upto_region 5 with (go_at_call 61; refine (open2 HP0.out (by decide) (by decide)).mono ?_; rintro e w2 ⟨rfl,hp,t⟩; have HP2:=hid hp; have HT2:=hid t; clear hp t)
  go_upto_region 6 with (go_at_call 61; refine (open3 HP2.out (by decide) (by decide)).mono ?_; rintro e w3 ⟨rfl,hp,t⟩; have HP3:=hid hp; have HT3:=hid t; clear hp t)
  have hnc:¬ CFoot C c:=fun hx => by have:=HI1.out.low _ hx; have:=HC.out; omega
  have tp:Turn (fun j => j=c) w1 w3:=((no_turn HTa.out).trans HT2.out).trans HT3.out
  have hi3:FilesIn w3 fb tb om (moreS S newP) B (updP P S.ps.length c) Ft (updC C c (4,(S.ps.length:Int))):=HI1.out.pipeNew HS.out (q:=newP) HP3.out tp hnc
  have hct:c≠tab:=fun hx => by have:=HTb1.out.lt; have:=HC.out; omega
  have ht3:TabIs w3 tab L:=HTb1.out.turned tp (fun hx => hct hx.symm)
  have hn3:¬ CFoot (updC C c (4,(S.ps.length:Int))) tab:=fun hx => by
   have hx:updC C c _ tab≠_:=hx
   unfold updC at hx
   rw [if_neg (fun e => hct e.symm)] at hx
   exact HN.out hx
  have hcl:c < w3.heap.size:=HP3.out.lt
  have HI3:=hid hi3
  have HTb3:=hid ht3
  have HN3:=hid hn3
  have HTp:=hid tp
  have ta:Turn (fun _ => False) w3 (w3.alloc (pentObj 2 1 c)):=(Turn.refl _ _).alloc _
  have hpc:updP P S.ps.length c S.ps.length=c:=if_pos rfl
  have hc3:¬ CFoot (updC C c (4,(S.ps.length:Int))) w3.heap.size:=fun hx => by have:=hi3.low _ hx; omega
  have HA:=hid (add_is (hi3.turned ta (fun _ _ => id)) HS.out.nd (ht3.turned ta id) hn3 (pentObj_at w3 (updP P S.ps.length c) 2 1 c S.ps.length (by decide) hpc) hc3 (fun hx => by have:=ht3.lt; omega) HL1.out hj (by show S.es.length < 40; omega))
  have HTa3:=hid ta
  unfold pentObj at HA HTa3
  clear hnc tp hi3 hct ht3 hn3 hcl ta hpc hc3
  go_upto_region 9 with (go_at_call 55; refine HA.out.mono ?_; rintro e w5 ⟨rfl,hi5,ht5,t5⟩; have HI5:=hid hi5; have HTb5:=hid ht5; have HT5:=hid t5; clear hi5 ht5 t5)
  have hk1:(freeE (moreS S newP).es)=freeE S.es:=rfl
  rw [hk1] at HI5
  have hi5:FilesIn w5 fb tb om (pipeS1 S) (updI B (freeE S.es) w3.heap.size) (updP P S.ps.length c) Ft (updC (updC C c (4,(S.ps.length:Int))) w3.heap.size (3,(freeE S.es:Int))):=HI5.out
  have ht5:TabIs w5 tab (pipeL1 S L):=by rw [HE5.out]; exact HTb5.out
  have ht3lt:tab < w3.heap.size:=HTb3.out.lt
  have hn5:¬ CFoot (updC (updC C c (4,(S.ps.length:Int))) w3.heap.size (3,(freeE S.es:Int))) tab:=fun hx => by
   have hx:updC _ w3.heap.size _ tab≠_:=hx
   unfold updC at hx
   rw [if_neg (by omega)] at hx
   exact HN3.out hx
  have hs35:w3.heap.size≤w5.heap.size:=Nat.le_trans HTa3.out.size HT5.out.size
  have ta:Turn (fun _ => False) w5 (w5.alloc (pentObj 3 2 c)):=(Turn.refl _ _).alloc _
  have hpc:updP P S.ps.length c S.ps.length=c:=if_pos rfl
  have hc5:¬ CFoot (updC (updC C c (4,(S.ps.length:Int))) w3.heap.size (3,(freeE S.es:Int))) w5.heap.size:=fun hx => by have:=hi5.low _ hx; omega
  have HA5:=hid (add_is (hi5.turned ta (fun _ _ => id)) HS1.out.nd (ht5.turned ta id) hn5 (pentObj_at w5 (updP P S.ps.length c) 3 2 c S.ps.length (by decide) hpc) hc5 (fun hx => by have:=ht5.lt; omega) HL2.out hj2 HA2.out)
  have HTa5:=hid ta
  have HN5:=hid hn5
  have HIs5:=hid hi5
  have HTs5:=hid ht5
  have HSz:=hid hs35
  have HLt:=hid ht3lt
  unfold pentObj at HA5 HTa5
  clear hk1 hi5 ht5 ht3lt hn5 hs35 ta hpc hc5
  go_wp2_with (go_at_call 55; refine HA5.out.mono ?_; rintro e w7 ⟨rfl,hi7,ht7,t7⟩; have HI7:=hid hi7; have HTb7:=hid ht7; have HT7:=hid t7; clear hi7 ht7 t7)
  go_returns
  have hs1:w.heap.size≤w1.heap.size:=HT1.out.size
  have hs3:w1.heap.size≤w3.heap.size:=HTp.out.size
  have hcs:=HC.out
  have hfoot3:∀ j,CFoot (updC C c (4,(S.ps.length:Int))) j→CFoot C j∨w.heap.size≤j:=fun j hj => by
   by_cases e:j=c
   ·exact .inr (by omega)
   ·exact .inl (by have hj:updC C c _ j≠_:=hj; unfold updC at hj; rw [if_neg e] at hj; exact hj)
  have hfoot5:∀ j,CFoot (updC (updC C c (4,(S.ps.length:Int))) w3.heap.size (3,(freeE S.es:Int))) j→CFoot C j∨w.heap.size≤j:=fun j hj => by
   by_cases e:j=w3.heap.size
   ·exact .inr (by omega)
   ·exact hfoot3 j (by have hj:updC _ w3.heap.size _ j≠_:=hj; unfold updC at hj; rw [if_neg e] at hj; exact hj)
  have X:Nat→Prop:=fun j => CFoot C j∨j=tab
  have tA:Turn (fun j => CFoot C j∨j=tab) w w3:=(no_turn HT1.out).trans' HTp.out (fun i hi e => by omega)
  have tB:Turn (fun j => CFoot C j∨j=tab) w w5:=(tA.trans (no_turn HTa3.out)).trans' HT5.out (fun i hi hx => by
   rcases hx with hx | hx | hx
   ·rcases hfoot3 i hx with h4 | h4
    ·exact .inl h4
    ·omega
   ·exact .inr hx
   ·omega)
  have tC:Turn (fun j => CFoot C j∨j=tab) w w7:=(tB.trans (no_turn HTa5.out)).trans' HT7.out (fun i hi hx => by
   rcases hx with hx | hx | hx
   ·rcases hfoot5 i hx with h4 | h4
    ·exact .inl h4
    ·omega
   ·exact .inr hx
   ·have:=HSz.out; omega)
  refine ⟨rfl,.of HI7.out HTb7.out tC (fun i hi => ?_) (fun hx => ?_)⟩
  ·by_cases e:i=w5.heap.size
   ·exact .inr (by have:=HSz.out; omega)
   ·exact hfoot5 i (by have hi:updC _ w5.heap.size _ i≠_:=hi; unfold updC at hi; rw [if_neg e] at hi; exact hi)
  ·have hx:updC _ w5.heap.size _ tab≠_:=hx
   unfold updC at hx
   have:=HLt.out
   have:=HSz.out
   rw [if_neg (by omega)] at hx
   exact HN5.out hx
 ·have e0:pipeE S L=12:=by
   unfold pipeE at hE ⊢
   by_cases h1:6 < usedL L∨38 < S.es.length
   ·exact if_pos h1
   ·rw [if_neg h1] at hE; exact absurd rfl hE
  have hcase:6 < usedL L∨38 < S.es.length:=by
   unfold pipeE at hE
   by_cases h1:6 < usedL L∨38 < S.es.length
   ·exact h1
   ·rw [if_neg h1] at hE; exact absurd rfl hE
  have e1:pipedS S L=S:=if_neg hE
  have e2:pipedL S L=L:=if_neg hE
  have e3:pipeK1 S L=0:=if_neg hE
  have e4:pipeK2 S L=0:=if_neg hE
  rw [e0,e1,e2,e3,e4]
  clear hin hS ht hn hE e0 e1 e2 e3 e4
  by_cases h6:6 < usedL L
  ·have h6':(6:Int) < usedL L:=by omega
   clear hcase
   go_enter Tryz.func24,Tryz.ntmps24
   go_wp2_with (go_at_call 12; refine HU.out.mono ?_; rintro e w1 ⟨rfl,t1⟩; have HT1:=hid t1; clear t1)
   go_returns
   exact ⟨rfl,.same (HI.out.turned HT1.out (fun _ _ => id)) (HT.out.turned HT1.out id) (no_turn HT1.out) HN.out⟩
  ·have h6':¬ (6:Int) < usedL L:=by omega
   have hl38:(38:Int) < S.es.length:=by omega
   clear hcase
   go_enter Tryz.func24,Tryz.ntmps24
   go_wp2_with (go_at_call 12; refine HU.out.mono ?_; rintro e w1 ⟨rfl,t1⟩; have HT1:=hid t1; clear t1; have hh:=(HI.out.turned HT1.out (fun _ _ => id)).h1; have hln:=(HI.out.turned HT1.out (fun _ _ => id)).mp.run_len Tryz.underlying78 3; rw [show (keysE B S.es).length=S.es.length from List.length_map ..] at hln)
   go_returns
   exact ⟨rfl,.same (HI.out.turned HT1.out (fun _ _ => id)) (HT.out.turned HT1.out id) (no_turn HT1.out) HN.out⟩
theorem law_pipe (h:DLawB W w fb tb S ts) (hS:DOk S) (hi:ts[i]?=some (tab,L)) :
  Calls Tryz.prog 24 #[.pointer (some ⟨fb,0,none⟩),.pointer (some ⟨tab,0,none⟩)] w fun e w' => e=.returned (.tuple #[.int .i64 (pipeK1 S L),.int .i64 (pipeK2 S L),TErr (pipeE S L)])∧DLawB W w' fb tb (pipedS S L) (ts.set i (tab,pipedL S L)):=by
 obtain ⟨F,h1,h2,h3⟩:=h.files
 exact (pipe_is h1 hS (h.tabs i _ hi).1 (h3 i _ hi)).mono fun e w' x => ⟨x.1,h.step hi h2 h3 x.2⟩
end
section
variable {S S':PS} {T T':PT} {e e':PE} {k n:Int} {L L':PTab} {ts:List (Nat×PTab)} {i j tab:Nat} {p q:PN} {path s:ByteArray}
/-! ### DOk -/
theorem put_len (he:mget S.es k=some e):(putS S k e').es.length=S.es.length:=by
 show (mput S.es k e').length=_
 rw [mput_length,he]; rfl
theorem dok_dup (h:DOk S) (hb:∀ k e,mget S.es k=some e→e.refs < 999000) (L:PTab) (n:Int):DOk (dupS S L n):=by
 unfold dupS
 split
 ·cases hx:entL S L n with
  | none => exact h
  | some x => exact h.bump hb (entL_some hx).2
 ·exact h
theorem dok_seek (h:DOk S) (L:PTab) (n at':Int):DOk (seekS S L n at'):=by
 unfold seekS
 by_cases hE:seekE S L n at'=0
 ·rw [if_pos hE]
  cases hx:entL S L n with
  | none => exact h
  | some x =>
   obtain ⟨k,e⟩:=x
   have he:=(entL_some hx).2
   have hEk:=(h.ent k e he).1
   unfold seekE at hE
   rw [hx] at hE
   have hE:(if e.kind≠1 then (6:Int) else if at' < 0∨200 < at' then 2 else 0)=0:=hE
   by_cases h1:e.kind≠1
   ·rw [if_pos h1] at hE; cases hE
   ·rw [if_neg h1] at hE
    by_cases h2:at' < 0∨200 < at'
    ·rw [if_pos h2] at hE; cases hE
    ·exact h.put he rfl rfl rfl rfl ⟨hEk.1,hEk.2.1,by show 0≤at'; omega,by show at'≤200; omega⟩
 ·rw [if_neg hE]; exact h
theorem read_at (hok:TOk T) {n at' many:Int} (h0:0≤at') (h1:at'≤200):at'+(readT T n at' many).size≤200:=by
 unfold readT
 split
 ·have hd:(dataT T n).size≤200:=by
   unfold dataT
   cases hn:mget T n with
   | none => show (0:Nat)≤200; omega
   | some p => exact hok.data n p hn
  unfold readB
  rw [ByteArray.size_extract]
  omega
 ·show at'+((0:Nat):Int)≤200; omega
theorem pRdQ_ok {q:PP} {many:Int}:(pRdQ q many).e0=q.e0∧(pRdQ q many).e1=q.e1∧(pRdQ q many).b.size≤q.b.size:=by
 unfold pRdQ
 split
 ·refine ⟨rfl,rfl,?_⟩
  show (q.b.extract _ _).size≤_
  rw [ByteArray.size_extract]; omega
 ·exact ⟨rfl,rfl,Nat.le_refl _⟩
theorem pWrQ_ok {q:PP} {s:ByteArray} (h:q.b.size≤16):(pWrQ q s).e0=q.e0∧(pWrQ q s).e1=q.e1∧(pWrQ q s).b.size≤16:=by
 refine ⟨rfl,rfl,?_⟩
 show (q.b ++ s.extract 0 (pWr q s)).size≤16
 rw [ByteArray.size_append,ByteArray.size_extract]
 unfold pWr
 split <;> omega
theorem dok_rd (h:DOk S) (hok:TOk S.T) (L:PTab) (n many:Int):DOk (rdS S L n many)∧(rdS S L n many).es.length=S.es.length∧(rdS S L n many).T=S.T:=by
 unfold rdS
 cases hx:entL S L n with
 | none => exact ⟨h,rfl,rfl⟩
 | some x =>
  obtain ⟨k,e⟩:=x
  have he:=(entL_some hx).2
  have hE:=(h.ent k e he).1
  show DOk (if e.prot=2 then S else if e.kind=2 then (S.ps[e.pid]?).elim S fun q => pipeS S e.pid (pRdQ q many) else putS S k { e with at':=e.at'+(readT S.T e.node e.at' many).size })∧(if e.prot=2 then S else if e.kind=2 then (S.ps[e.pid]?).elim S fun q => pipeS S e.pid (pRdQ q many) else putS S k { e with at':=e.at'+(readT S.T e.node e.at' many).size }).es.length=S.es.length∧(if e.prot=2 then S else if e.kind=2 then (S.ps[e.pid]?).elim S fun q => pipeS S e.pid (pRdQ q many) else putS S k { e with at':=e.at'+(readT S.T e.node e.at' many).size }).T=S.T
  split
  ·exact ⟨h,rfl,rfl⟩
  ·split
   ·cases hq:S.ps[e.pid]? with
    | none => exact ⟨h,rfl,rfl⟩
    | some q => exact ⟨h.pipe hq pRdQ_ok.1 pRdQ_ok.2.1 (Nat.le_trans pRdQ_ok.2.2 (h.pipes _ q hq).1),rfl,rfl⟩
   ·refine ⟨h.put he rfl rfl rfl rfl ⟨hE.1,hE.2.1,?_,read_at hok hE.2.2.1 hE.2.2.2⟩,put_len he,rfl⟩
    show 0≤e.at'+_
    have:=hE.2.2.1
    omega
theorem same_put {d:PN} (hn:mget T n=some p) (h1:d.isDir=p.isDir) (h2:d.held=p.held):Same T (mput T n d):=by
 refine ⟨fun m r hr hrd _ => ?_,fun m r hr => ?_⟩
 ·rw [mget_mput]
  by_cases e:m=n
  ·rw [e,hn] at hr
   cases hr
   exact ⟨d,if_pos e,by rw [h1]; exact hrd,h2⟩
  ·exact ⟨r,by rw [if_neg e]; exact hr,hrd,rfl⟩
 ·rw [mget_mput] at hr
  by_cases e:m=n
  ·rw [if_pos e] at hr
   cases hr
   exact .inl ⟨p,by rw [e]; exact hn,h2⟩
  ·rw [if_neg e] at hr
   exact .inl ⟨r,hr,rfl⟩
theorem write_same (T:PT) (n at':Int) (s:ByteArray):Same T (writeT T n at' s):=by
 unfold writeT
 split
 ·unfold setDataT
  cases hn:mget T n with
  | none => exact Same.refl _
  | some p => exact same_put hn rfl rfl
 ·exact Same.refl _
/-! ### the tree -/
/-! ### errors leave all as it was -/
/-! ### how many are open -/
end
section
variable {B:Nat} {S:PS} {L:PTab} {n:Int}
theorem close_T (h:TBnd S.T B) (L:PTab) (n:Int):TBnd (closeS S L n).T B:=by
 unfold closeS
 cases entL S L n with
 | none => exact h
 | some z =>
  simp only [Option.elim]
  split
  ·exact h
  ·unfold goneS
   split
   ·exact TBnd.drop (T:=S.T) h _
   ·cases ((delS S z.1).ps[z.2.pid]?) with
    | none => exact h
    | some q => exact h
theorem clear_T (L0:PTab) (all:Bool):∀ (f i:Nat) (S:PS) (L:PTab),TBnd S.T B→TBnd (clearFrom L0 all f i S L).1.T B
 | 0,_,S,L,h => h
 | f+1,i,S,L,h => by
  unfold clearFrom
  split
  ·exact clear_T L0 all f (i+1) _ _ (close_T h L i)
  ·exact clear_T L0 all f (i+1) _ _ h
theorem clearS_T (h:TBnd S.T B) (L:PTab) (all:Bool):TBnd (clearS S L all).T B:=clear_T L all 8 0 S L h
theorem fork_T (L:PTab):∀ (f i:Nat) (S:PS),(forkFrom L f i S).T=S.T
 | 0,_,S => rfl
 | f+1,i,S => by
  show (forkFrom L f (i+1) (if 0 < (L i).1 then bumpS S ((L i).1 - 1) else S)).T=S.T
  rw [fork_T L f (i+1)]
  split
  ·unfold bumpS
   cases mget S.es ((L i).1 - 1) <;> rfl
  ·rfl
theorem bump_T:(bumpE S L n).T=S.T:=by
 unfold bumpE
 cases entL S L n <;> rfl
theorem dup_T:(dupS S L n).T=S.T:=by
 unfold dupS
 split
 ·cases entL S L n <;> rfl
 ·rfl
theorem dup2_T (h:TBnd S.T B) (L:PTab) (n m:Int):TBnd (dup2S S L n m).T B:=by
 unfold dup2S
 split
 ·exact close_T (by rw [bump_T]; exact h) L m
 ·exact h
theorem piped_T:(pipedS S L).T=S.T:=by
 unfold pipedS
 split <;> rfl
theorem rd_T (m:Int):(rdS S L n m).T=S.T:=by
 unfold rdS
 cases entL S L n with
 | none => rfl
 | some z =>
  simp only [Option.elim]
  split
  ·rfl
  ·split
   ·cases S.ps[z.2.pid]? <;> rfl
   ·rfl
theorem wr_T (h:TBnd S.T B) (L:PTab) (n:Int) (s:ByteArray) (m:Int):TBnd (wrS S L n s m).T B:=by
 unfold wrS
 cases entL S L n with
 | none => exact h
 | some z =>
  simp only [Option.elim]
  split
  ·exact h
  ·split
   ·cases S.ps[z.2.pid]? <;> exact h
   ·split
    ·exact h
    ·split
     ·exact h.write _ _ _
     ·exact h
theorem open_T (h:TBnd S.T B) (h1:1≤B) (L:PTab) (path:ByteArray) (prot:Int) (mk:Bool):TBnd (openS S L path prot mk).T (B+2):=by
 have hN:TBnd (fileN S.T path mk).2.2 (B+1):=by
  unfold fileN
  split
  ·exact h.make h1 path false
  ·exact h.mono (by omega)
 have hH:TBnd (fileH (fileN S.T path mk)) (B+2):=by
  unfold fileH
  split
  ·exact hN.hold _
  ·exact hN.mono (by omega)
 unfold openS
 split
 ·exact h.mono (by omega)
 ·split
  ·exact h.mono (by omega)
  ·split
   ·exact hH
   ·exact hH
theorem dok_wrs (h:DOk S) (L:PTab) (n:Int) (s:ByteArray) (most:Int):DOk (wrS S L n s most):=by
 unfold wrS
 cases hx:entL S L n with
 | none => exact h
 | some x =>
  obtain ⟨k,e⟩:=x
  have he:=(entL_some hx).2
  have hE:=(h.ent k e he).1
  have hall:∀ S2:PS,S2=(if e.prot=1 then S else if e.kind=3 then (S.ps[e.pid]?).elim S fun q => pipeS S e.pid (pWrQ q s) else if limB e s most=true then S else if writeE S.T e.node e.at' s=0 then putS (treeS S (writeT S.T e.node e.at' s)) k { e with at':=e.at'+s.size } else S)→DOk S2:=by
   rintro S2 rfl
   split
   ·exact h
   ·split
    ·cases hq:S.ps[e.pid]? with
     | none => exact h
     | some q =>
      have h1:=pWrQ_ok (s:=s) (h.pipes _ q hq).1
      exact h.pipe hq h1.1 h1.2.1 h1.2.2
    ·split
     ·exact h
     ·split
      ·rename_i hz
       have h2:=h.tree (write_same S.T e.node e.at' s)
       have h3:0≤e.at'+(s.size:Int)∧e.at'+(s.size:Int)≤200:=by
        unfold writeE at hz
        split at hz
        ·rename_i hz2; exact absurd hz hz2
        ·split at hz
         ·cases hz
         ·split at hz
          ·cases hz
          ·omega
       exact h2.put (S:=treeS S (writeT S.T e.node e.at' s)) he rfl rfl rfl rfl ⟨hE.1,hE.2.1,h3.1,h3.2⟩
      ·exact h
  exact hall _ rfl
end
section
variable {B:Nat} {S:PS} {L:PTab} {n:Int}
theorem alive_close (h:Alive S.T) (L:PTab) (n:Int):Alive (closeS S L n).T:=by
 unfold closeS
 cases entL S L n with
 | none => exact h
 | some z =>
  simp only [Option.elim]
  split
  ·exact h
  ·unfold goneS
   split
   ·exact Alive.drop (T:=S.T) h _
   ·cases ((delS S z.1).ps[z.2.pid]?) with
    | none => exact h
    | some q => exact h
theorem alive_clear (L0:PTab) (all:Bool):∀ (f i:Nat) (S:PS) (L:PTab),Alive S.T→Alive (clearFrom L0 all f i S L).1.T
 | 0,_,S,L,h => h
 | f+1,i,S,L,h => by
  unfold clearFrom
  split
  ·exact alive_clear L0 all f (i+1) _ _ (alive_close h L i)
  ·exact alive_clear L0 all f (i+1) _ _ h
theorem alive_dup2 (h:Alive S.T) (L:PTab) (n m:Int):Alive (dup2S S L n m).T:=by
 unfold dup2S
 split
 ·exact alive_close (by rw [bump_T]; exact h) L m
 ·exact h
theorem alive_wr (h:Alive S.T) (L:PTab) (n:Int) (s:ByteArray) (m:Int):Alive (wrS S L n s m).T:=by
 unfold wrS
 cases entL S L n with
 | none => exact h
 | some z =>
  simp only [Option.elim]
  split
  ·exact h
  ·split
   ·cases S.ps[z.2.pid]? <;> exact h
   ·split
    ·exact h
    ·split
     ·exact h.write _ _ _
     ·exact h
theorem alive_open (h:Alive S.T) (L:PTab) (path:ByteArray) (prot:Int) (mk:Bool):Alive (openS S L path prot mk).T:=by
 have hN:Alive (fileN S.T path mk).2.2:=by
  unfold fileN
  split
  ·exact h.make path false
  ·exact h
 have hH:Alive (fileH (fileN S.T path mk)):=by
  unfold fileH
  split
  ·exact hN.hold _
  ·exact hN
 unfold openS
 split
 ·exact h
 ·split
  ·exact h
  ·split
   ·exact hH
   ·exact hH
theorem alive_seek (h:Alive S.T) (L:PTab) (n m:Int):Alive (seekS S L n m).T:=by
 unfold seekS
 split
 ·cases entL S L n <;> exact h
 ·exact h
theorem tok_gone {T:PT} {p:PN} (h:TOk T) (hn:mget T n=some p) (hds:p.ds=[]):TOk (goneT T n p):=by
 unfold goneT
 split
 ·exact h.del hn (by assumption:p.names=0∧p.held=0).1 hds
 ·exact h
theorem tok_drop {T:PT} (h:TOk T) (n:Int):TOk (dropT T n):=by
 unfold dropT
 cases hn:mget T n with
 | none => exact h
 | some p =>
  simp only [Option.elim]
  split
  ·exact h
  ·rename_i hd
   split
   ·exact h
   ·exact tok_gone (h.upd hn rfl rfl rfl (h.data n p hn)) (by rw [mget_mput,if_pos rfl]) (h.file n p hn (by simpa using hd))
theorem tok_close (h:TOk S.T) (L:PTab) (n:Int):TOk (closeS S L n).T:=by
 unfold closeS
 cases entL S L n with
 | none => exact h
 | some z =>
  simp only [Option.elim]
  split
  ·exact h
  ·unfold goneS
   split
   ·exact tok_drop (T:=S.T) h _
   ·cases ((delS S z.1).ps[z.2.pid]?) with
    | none => exact h
    | some q => exact h
end
section
variable {W:Base} {w w':World} {fb tb tab:Nat} {S S':PS} {L L':PTab} {ts:List (Nat×PTab)} {i:Nat} {n:Int}
theorem law_mark (h:DLawB W w fb tb S ts) (hi:ts[i]?=some (tab,L)) (hok:TabOk S L) (n:Int) (c:Bool) :
  Calls Tryz.prog 30 #[.pointer (some ⟨fb,0,none⟩),.pointer (some ⟨tab,0,none⟩),.int .i64 n,.bool c] w fun e w' => e=.returned (TErr (getE L n))∧DLawB W w' fb tb S (ts.set i (tab,markL S L n c)):=by
 obtain ⟨F,h1,h2,h3⟩:=h.files
 exact (mark_is h1 (h.tabs i _ hi).1 hok (h3 i _ hi) n c).mono fun e w' x => ⟨x.1,h.step hi h2 h3 x.2⟩
end
section
variable {W:Base} {w w' w1 w2:World} {fb tb om tab:Nat} {S S':PS} {L L':PTab} {ts:List (Nat×PTab)} {i j:Nat} {n:Int} {B:Int→Nat} {P:Nat→Nat} {Ft:Nat→Prop} {C:Nat→Nat×Int} {T':PT} {path:ByteArray} {p q:PN}
/-! ### the tree under them,from outside -/
theorem DLawB.treed (h:DLawB W w fb tb S ts) (hin:FilesIn w fb tb om S B P Ft C) (h2:∀ k,CFoot C k→¬ W.old k) (h3:∀ (j:Nat) (x:Nat×PTab),ts[j]?=some x→¬ CFoot C x.1) (hto:TreeTo tb Ft w w' T'):DLawB W w' fb tb (treeS S T') ts:=by
 obtain ⟨Ft',C',a,b,t⟩:=hin.tree hto
 have hC:∀ k,CFoot C' k→CFoot C k∨w.heap.size≤k:=fun k hk => by
  rcases b k with h1 | h1
  ·exact .inl (by have hk:C' k≠_:=hk; rw [h1] at hk; exact hk)
  ·exact .inr h1
 refine ⟨⟨CFoot C',a.is,fun k hk => ?_,fun j x hx hk => ?_⟩,fun j x hx => ⟨(h.tabs j x hx).1.turned t (h3 j x hx),(h.tabs j x hx).2⟩,h.apart,h.turn.trans' t (fun k _ hk => h2 k hk),h.low⟩
 ·rcases hC k hk with h1 | h1
  ·exact h2 k h1
  ·exact h.fresh h1
 ·rcases hC _ hk with h1 | h1
  ·exact h3 j x hx h1
  ·have:=(h.tabs j x hx).1.lt; omega
/-! ### Fork -/
theorem dok_forkFrom (L:PTab):∀ (f i:Nat) (S:PS),DOk S→(∀ k e,mget S.es k=some e→e.refs+f≤1000000)→DOk (forkFrom L f i S)∧(forkFrom L f i S).es.length=S.es.length
 | 0,_,S,h,_ => ⟨h,rfl⟩
 | f+1,i,S,h,hb => by
  show DOk (forkFrom L f (i+1) (if 0 < (L i).1 then bumpS S ((L i).1 - 1) else S))∧(forkFrom L f (i+1) (if 0 < (L i).1 then bumpS S ((L i).1 - 1) else S)).es.length=S.es.length
  by_cases hz:0 < (L i).1
  ·rw [if_pos hz]
   unfold bumpS
   cases he:mget S.es ((L i).1 - 1) with
   | none => exact dok_forkFrom L f (i+1) S h (fun k e he => by have:=hb k e he; omega)
   | some e =>
    have hE:=(h.ent _ e he).1
    have hbe:=hb _ e he
    have h2:DOk (putS S ((L i).1 - 1) { e with refs:=e.refs+1 }):=h.put he rfl rfl rfl rfl ⟨by show 1≤e.refs+1; omega,by show e.refs+1≤1000000; omega,hE.2.2⟩
    obtain ⟨a,b⟩:=dok_forkFrom L f (i+1) (putS S ((L i).1 - 1) { e with refs:=e.refs+1 }) h2 (fun k g hg => by
     have hg:mget (mput S.es _ _) k=some g:=hg
     rw [mget_mput] at hg
     split at hg
     ·cases hg
      show e.refs+1+f≤1000000
      omega
     ·have:=hb k g hg; omega)
    exact ⟨a,b.trans (put_len he)⟩
  ·rw [if_neg hz]
   exact dok_forkFrom L f (i+1) S h (fun k e he => by have:=hb k e he; omega)
/-! ### Clear -/
theorem cnt_zero:∀ us:List (Nat×PTab),(∀ t∈us,∀ j,j < 8→(t.2 j).1=0)→∀ k,0≤k→cntT k us=0
 | [],_,k,_ => rfl
 | u :: us,h,k,hk => by
  have h1:cntL u.2 k=0:=by
   rcases Nat.eq_zero_or_pos (cntL u.2 k) with h1 | h1
   ·exact h1
   ·obtain ⟨j,_,hj,hjk⟩:=cntFrom_ex 8 0 h1
    have:=h u List.mem_cons_self j (by omega)
    omega
  show cntL u.2 k+cntT k us=0
  rw [h1,cnt_zero us (fun t ht => h t (List.mem_cons_of_mem _ ht)) k hk]
end
def tptr (t:Nat×PTab):Value:=.pointer (some ⟨t.1,0,none⟩)
section
variable {W w w' w1 w2:World} {fb tb tab:Nat} {v z:Value} {rs:List Value} {S S':PS} {L L':PTab} {ts:List (Nat×PTab)} {i j:Nat} {n:Int} {path:ByteArray}
theorem map_set_tptr (hi:ts[i]?=some (tab,L)) (L':PTab):(ts.set i (tab,L')).map tptr=ts.map tptr:=by
 rw [List.map_set]
 exact List.ext_getElem? fun m => by
  by_cases e:m=i
  ·subst e
   have hlt:m < ts.length:=by rcases Nat.lt_or_ge m ts.length with h1 | h1; exact h1; rw [List.getElem?_eq_none h1] at hi; cases hi
   rw [List.getElem?_set_self (by rw [List.length_map]; exact hlt),List.getElem?_map,hi]; rfl
  ·rw [List.getElem?_set_ne (fun h => e h.symm)]
/-! ### each call -/
/-! ### behind the list of names -/
end
end Go.Proofs.YtncfmlifponjdaaGreatDoor
