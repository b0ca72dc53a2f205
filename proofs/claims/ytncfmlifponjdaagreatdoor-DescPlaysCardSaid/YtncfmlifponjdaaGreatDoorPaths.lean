/- Paths: which names one has. Plain: no program in sight. No condition. strings.Split at "/", strings.CutPrefix of "/": the kit's contracts at this translation. No condition but the text's size. A tree of files, plain: where names lead, what may not be. No program in sight. Conditions: each theorem's own premises. Package tree: what a tree is in memory; parts, walk, Find, place, file. Conditions: each theorem's own premises. Package tree: walk, Find, place, file, Nodes. Conditions: each theorem's own premises. A tree of files, plain: what each change keeps. No program in sight. Conditions: each theorem's own premises. Package tree: one node's change in memory; goes, Hold, Drop, Size. Conditions: each theorem's own premises. Package tree: New, make, Mkdir, Create. Conditions: each theorem's own premises. Package tree: Link, Unlink. Conditions: each theorem's own premises. Package tree: Rename. Conditions: each theorem's own premises. Package tree: New, Mkdir, Create. Conditions: each theorem's own premises. strings.Repeat of a zero byte; bytes that are written into bytes. Conditions: each theorem's own premises. Package tree: Read, Cut, Write. Conditions: each theorem's own premises. How many names and holders a node may have, and how many names a directory: each change adds one at most. Plain. Conditions: each theorem's own premises. Package tree: Size, Cut. Conditions: each theorem's own premises. A tree with one file alone, and names for it in the directory of all: plain. No program in sight. Conditions: each theorem's own premises. -/
import Derived.Test.YtncfmlifponjdaaGreatDoorBase
import Derived.Lib.SplitLaws
import Derived.Lib.Strings
import Derived.Test.YtncfmlifponjdaaGreatDoorProg
import Derived.Test.YtncfmlifponjdaaGreatDoorSplitI
import Derived.Test.YtncfmlifponjdaaGreatDoorCutPreI
import Derived.WalkKit
import Derived.BigRegion
import Derived.Deep.LoopGhost
import Derived.Deep.DeepCutAuto
import Derived.Deep.CutBlock
import Derived.Outline
import Derived.Handy
import Derived.Test.YtncfmlifponjdaaGreatDoorRepI
import Derived.Deep.QuietTactic
import Derived.BigQuiet
namespace Go.Proofs.YtncfmlifponjdaaGreatDoor
open Go.RowKit
set_option linter.unusedVariables false
set_option maxHeartbeats 4000000
set_option maxRecDepth 100000
section
open Go.Lib
def slash:ByteArray:=⟨#[47]⟩
def piecesOf (s:ByteArray):List ByteArray:=splitB slash 0 (countB s slash) s
theorem pieces_length (s:ByteArray):(piecesOf s).length=countB s slash+1:=splitB_all slash (by decide) 0 _ s rfl
theorem pieces_le (s:ByteArray):(piecesOf s).length≤s.size+1:=by
 rw [pieces_length]
 have:=countB_le slash (by decide) s.size s (Nat.le_refl _)
 omega
theorem pieces_ne (s:ByteArray):piecesOf s≠[]:=fun e => by
 have h:=pieces_length s
 rw [e] at h
 simp at h
def led (s:ByteArray):Bool:=hasPrefix s.data.toList [47]
theorem led_size {s:ByteArray} (h:led s=true):1≤s.size:=by
 unfold led hasPrefix at h
 rw [size_eq]
 cases e:s.data.toList with
 | nil => rw [e] at h; cases h
 | cons a l => simp
theorem index_zero {s:ByteArray} (h:led s=true):indexB s slash=(0:Nat) :=
 index_first (Nat.zero_le _) (by unfold occAt; rw [List.drop_zero]; exact h) (fun j hj => absurd hj (Nat.not_lt_zero _))
theorem empty_of_size {s:ByteArray} (h:s.size=0):s=ByteArray.empty:=by
 have h1:s.data.toList.length=0:=by rw [← size_eq]; exact h
 have h2:s.data.toList=[]:=List.length_eq_zero_iff.1 h1
 have h3:(⟨s.data.toList.toArray⟩:ByteArray)=⟨([]:List UInt8).toArray⟩:=by rw [h2]
 rw [mk_data] at h3
 exact h3
theorem extract_size (s:ByteArray) (a b:Nat) (h:b≤s.size):(s.extract a b).size=b - a:=by
 rw [size_eq,extract_data,List.length_take,List.length_drop,← size_eq]
 omega
theorem pieces_led {s:ByteArray} (h:led s=true):piecesOf s=ByteArray.empty :: piecesOf (s.extract 1 s.size):=by
 have h0:=index_zero h
 have hs:slash.size=1:=rfl
 have h1:=countB_hit s slash 0 (by decide) h0
 have h2:countB s slash=countB (s.extract 1 s.size) slash+1:=by rw [h1,hs,Nat.add_comm]
 unfold piecesOf
 rw [h2,splitB_hit slash 0 _ s 0 h0,hs]
 congr 1
 exact empty_of_size (extract_size s 0 0 (Nat.zero_le _))
theorem occ_zero (s:ByteArray):occAt s.data.toList slash.data.toList 0=led s:=by unfold occAt led; rw [List.drop_zero]; rfl
theorem pieces_unled {s:ByteArray} (h:led s=false):∃ x l,piecesOf s=x :: l∧(1≤x.size∨l=[]):=by
 rcases index_spec s.data.toList slash.data.toList with ⟨h1,_⟩ | ⟨i,h1,h2,h3,h4⟩
 ·refine ⟨s,[],?_,.inr rfl⟩
  unfold piecesOf
  exact splitB_miss slash 0 _ s h1
 ·have hs:slash.size=1:=rfl
  have hc:=countB_hit s slash i (by decide) h1
  have h5:countB s slash=countB (s.extract (i+1) s.size) slash+1:=by rw [hc,hs,Nat.add_comm]
  refine ⟨s.extract 0 (i+0),splitB slash 0 (countB (s.extract (i+1) s.size) slash) (s.extract (i+1) s.size),?_,.inl ?_⟩
  ·unfold piecesOf
   rw [h5,splitB_hit slash 0 _ s i h1,hs]
  ·rw [extract_size s 0 (i+0) (by rw [size_eq]; omega)]
   cases i with
   | zero => rw [occ_zero,h] at h3; cases h3
   | succ i => omega
def okName (s:ByteArray):Bool:=decide (1≤s.size) && decide (s.size≤12) && !(s.toList == [46]) && !(s.toList == [46,46])
def namesOf (p:ByteArray):Option (List ByteArray) :=
 if led p then (if p.size=1 then some [] else if (piecesOf (p.extract 1 p.size)).all okName then some (piecesOf (p.extract 1 p.size)) else none) else none
theorem namesOf_root {p:ByteArray} (h:led p=true) (h1:p.size=1):namesOf p=some []:=by unfold namesOf; rw [if_pos h,if_pos h1]
theorem namesOf_unled {p:ByteArray} (h:led p=false):namesOf p=none:=by unfold namesOf; rw [if_neg (by rw [h]; exact Bool.false_ne_true)]
theorem namesOf_ok {p:ByteArray} (h:led p=true) (h1:p.size≠1) (h2:(piecesOf (p.extract 1 p.size)).all okName=true):namesOf p=some (piecesOf (p.extract 1 p.size)):=by unfold namesOf; rw [if_pos h,if_neg h1,if_pos h2]
theorem namesOf_bad {p:ByteArray} (h:led p=true) (h1:p.size≠1) (h2:(piecesOf (p.extract 1 p.size)).all okName=false):namesOf p=none:=by unfold namesOf; rw [if_pos h,if_neg h1,if_neg (by rw [h2]; exact Bool.false_ne_true)]
theorem namesOf_names {p:ByteArray} {l:List ByteArray} (h:namesOf p=some l):∀ s∈l,okName s=true:=by
 unfold namesOf at h
 split at h
 ·split at h
  ·cases h; intro s hs; cases hs
  ·split at h
   ·rename_i h3
    cases h
    exact List.all_eq_true.1 h3
   ·cases h
 ·cases h
theorem namesOf_length {p:ByteArray} {l:List ByteArray} (h:namesOf p=some l):l.length≤p.size:=by
 unfold namesOf at h
 split at h
 ·rename_i h0
  split at h
  ·cases h; exact Nat.zero_le _
  ·split at h
   ·cases h
    have h1:=pieces_le (p.extract 1 p.size)
    rw [extract_size p 1 p.size (Nat.le_refl _)] at h1
    have:=led_size h0
    omega
   ·cases h
 ·cases h
end
section
open Go.RowKit Go.Shelf Go.Lib
theorem infoStr:(Tryz.prog.info? 9).map (fun i => (i.zero,i.size,i.bytes))=some (some (.string ByteArray.empty),1,16):=by kernel_rfl
theorem genSplit_is (s:ByteArray) (hs:s.size < 4294967281) (w:World) :
  Calls Tryz.prog 98 #[.string s,.string slash,.int .i64 0,.int .i64 (-1)] w fun e w' => e=.returned (.slice (some ⟨w.heap.size,0,none⟩) (piecesOf s).length (piecesOf s).length)∧w'=w.alloc (.cells ((piecesOf s).map Value.string).toArray 9):=by
 have hle:=countB_le slash (by decide) s.size s (Nat.le_refl _)
 have hlen:=pieces_length s
 have c:=Any.strings_genSplit_core (P:=Tryz.prog) (ρ:=laysSplitI_ren) { laysSplitI with } infoStr s slash 0 (-1) (countB s slash+1) w hs (by decide) (Nat.zero_le _)
  (fun x c hx => (Any.strings_Index_one { laysSplitI with } x 47 _).mono fun e w' h => ⟨by rw [h.1]; congr 2; exact (index_one _ _).symm,h.2⟩)
  ((Any.strings_Count_one { laysSplitI with } s 47 w).mono fun e w' h => ⟨by
   rw [h.1]
   show _=Ending.returned (Value.int .i64 ((count s.data.toList [47]:Nat):Int))
   rw [count_one]; rfl,h.2⟩)
  (by decide) (by decide) (by rw [if_pos (by decide)]; omega)
 rw [Nat.add_sub_cancel] at c
 refine c.mono ?_
 rintro e w' ⟨rfl,rfl⟩
 rw [← hlen]
 exact ⟨rfl,by rw [show cellsOf (splitB slash 0 (countB s slash) s) (piecesOf s).length=((piecesOf s).map Value.string).toArray from cellsOf_full _]; rfl⟩
theorem split_is (s:ByteArray) (hs:s.size < 4294967281) (w:World) :
  Calls Tryz.prog 86 #[.string s,.string slash] w fun e w' => e=.returned (.slice (some ⟨w.heap.size,0,none⟩) (piecesOf s).length (piecesOf s).length)∧w'=w.alloc (.cells ((piecesOf s).map Value.string).toArray 9):=by
 have HG:=hid (genSplit_is s hs w)
 clear hs
 go_enter Tryz.func86,Tryz.ntmps86
 go_wp2_with fail
 refine HG.out.mono ?_
 rintro e w' ⟨rfl,rfl⟩
 go_wp2_with fail
 go_ret
 exact ⟨rfl,rfl⟩
theorem cutSlash_yes {s:ByteArray} (h:led s=true) (w:World):Calls Tryz.prog 85 #[.string s,.string slash] w fun e w' => e=.returned (.tuple #[.string (s.extract 1 s.size),.bool true])∧w'=w:=by
 refine (Any.strings_CutPrefix laysCutPreI s slash w).mono ?_
 rintro e w' ⟨rfl,rfl⟩
 have h2:=hasPrefix_raw s slash
 have h3:hasPrefix s.data.toList slash.data.toList=true:=h
 rw [h3] at h2
 rw [Bool.and_eq_true] at h2
 rw [h3,trimPrefix_hit s slash (of_decide_eq_true h2.1) h2.2]
 exact ⟨rfl,rfl⟩
theorem cutSlash_no {s:ByteArray} (h:led s=false) (w:World):Calls Tryz.prog 85 #[.string s,.string slash] w fun e w' => e=.returned (.tuple #[.string s,.bool false])∧w'=w:=by
 refine (Any.strings_CutPrefix laysCutPreI s slash w).mono ?_
 rintro e w' ⟨rfl,rfl⟩
 have h2:=hasPrefix_raw s slash
 have h3:hasPrefix s.data.toList slash.data.toList=false:=h
 rw [h3] at h2
 rw [h3,trimPrefix_miss s slash h2]
 exact ⟨rfl,rfl⟩
end
structure PN where
 isDir:Bool
 ds:List (ByteArray×Int)
 data:ByteArray
 names:Nat
 held:Nat
abbrev PT:=List (Int×PN)
def walkT (T:PT):Int→List ByteArray→Int×Int
 | n,[] => (0,n)
 | n,s :: l => (mget T n).elim (7,0) fun p => if p.isDir then (mget p.ds s).elim (7,0) fun m => walkT T m l else (6,0)
theorem walkT_cons (T:PT) (n:Int) (s:ByteArray) (l:List ByteArray):walkT T n (s :: l)=(mget T n).elim (7,0) fun p => if p.isDir then (mget p.ds s).elim (7,0) fun m => walkT T m l else (6,0):=rfl
theorem walkT_file {T:PT} {n:Int} {p:PN} (h:mget T n=some p) (hd:p.isDir=false) (s:ByteArray) (l:List ByteArray):walkT T n (s :: l)=(6,0):=by
 rw [walkT_cons,h]; show (if p.isDir then _ else _)=_; rw [hd]; rfl
theorem walkT_miss {T:PT} {n:Int} {p:PN} (h:mget T n=some p) (hd:p.isDir=true) {s:ByteArray} (hs:mget p.ds s=none) (l:List ByteArray):walkT T n (s :: l)=(7,0):=by
 rw [walkT_cons,h]; show (if p.isDir then _ else _)=_; rw [hd,hs]; rfl
theorem walkT_hit {T:PT} {n m:Int} {p:PN} (h:mget T n=some p) (hd:p.isDir=true) {s:ByteArray} (hs:mget p.ds s=some m) (l:List ByteArray):walkT T n (s :: l)=walkT T m l:=by
 rw [walkT_cons,h]; show (if p.isDir then _ else _)=_; rw [hd,hs]; rfl
def findT (T:PT) (path:ByteArray):Int×Int:=(namesOf path).elim (1,0) (walkT T 0)
def isDirT (T:PT) (n:Int):Bool:=(mget T n).elim false (·.isDir)
def placeT (T:PT) (path:ByteArray):Int×Int×ByteArray :=
 (namesOf path).elim (1,0,ByteArray.empty) fun l =>
  if l=[] then (1,0,ByteArray.empty)
  else if (walkT T 0 l.dropLast).1≠0 then ((walkT T 0 l.dropLast).1,0,ByteArray.empty)
  else if isDirT T (walkT T 0 l.dropLast).2 then (0,(walkT T 0 l.dropLast).2,l.getLastD ByteArray.empty) else (6,0,ByteArray.empty)
def linksIn (n:Int) (ds:List (ByteArray×Int)):Nat:=(ds.filter fun e => decide (e.2=n)).length
def linksT (n:Int):PT→Nat
 | [] => 0
 | t :: T => linksIn n t.2.ds+linksT n T
structure TOk (T:PT):Prop where
 root:∃ p,mget T 0=some p∧p.isDir=true
 nd:MNodup T
 keys:∀ n p,mget T n=some p→0≤n∧n < 60
 link:∀ n p,mget T n=some p→∀ s m,mget p.ds s=some m→∃ q,mget T m=some q
 file:∀ n p,mget T n=some p→p.isDir=false→p.ds=[]
 cnt:∀ n p,mget T n=some p→p.names=(if n=0 then 1 else 0)+linksT n T
 dnd:∀ n p,mget T n=some p→MNodup p.ds
 data:∀ n p,mget T n=some p→p.data.size≤200
 size:T.length≤60
 nms:∀ n p,mget T n=some p→∀ e∈p.ds,okName e.1=true
theorem walkT_there {T:PT} (h:TOk T):∀ (l:List ByteArray) (n:Int) (p:PN),mget T n=some p→(walkT T n l).1=0→∃ q,mget T (walkT T n l).2=some q
 | [],n,p,hn,_ => ⟨p,hn⟩
 | s :: l,n,p,hn,hz => by
  cases hd:p.isDir with
  | false => rw [walkT_file hn hd] at hz; cases hz
  | true =>
   cases hs:mget p.ds s with
   | none => rw [walkT_miss hn hd hs] at hz; cases hz
   | some m =>
    obtain ⟨q,hq⟩:=h.link n p hn s m hs
    rw [walkT_hit hn hd hs] at hz ⊢
    exact walkT_there h l m q hq hz
theorem linksT_put (n:Int):∀ {T:PT} {k:Int} {p p':PN},MNodup T→mget T k=some p→linksT n (mput T k p')+linksIn n p.ds=linksT n T+linksIn n p'.ds:=by
 intro T k p p' hn hk
 have hmp:mput T k p'=mupd T k p':=by unfold mput; rw [hk]; rfl
 rw [hmp]
 induction T with
 | nil => cases hk
 | cons t T ih =>
  have hn':MNodup T:=(List.nodup_cons.1 hn).2
  have hcons:mupd (t :: T) k p'=(if t.1=k then (t.1,p') else t) :: mupd T k p':=rfl
  rw [hcons]
  by_cases e:t.1=k
  ·have h1:mget (t :: T) k=some t.2:=mget_mem hn (by rw [← e]; exact List.mem_cons_self)
   rw [h1] at hk
   have hk:=Option.some.inj hk
   have hno:∀ q∈T,q.1≠k:=fun q hq e2 => (List.nodup_cons.1 hn).1 (List.mem_map.2 ⟨q,hq,by rw [e2,e]⟩)
   have hsame:mupd T k p'=T:=by
    unfold mupd
    conv => rhs; rw [← List.map_id T]
    exact List.map_congr_left fun q hq => by rw [if_neg (hno q hq)]; rfl
   rw [if_pos e,hsame]
   show linksIn n p'.ds+linksT n T+linksIn n p.ds=linksIn n t.2.ds+linksT n T+linksIn n p'.ds
   rw [hk]
   omega
  ·have h1:mget T k=some p:=by
    have h2:=mem_of_mget hk
    rcases List.mem_cons.1 h2 with h3 | h3
    ·exact absurd (by rw [← h3]) e
    ·exact mget_mem hn' h3
   have h2:=ih hn' h1 (by unfold mput; rw [h1]; rfl)
   rw [if_neg e]
   show linksIn n t.2.ds+linksT n (mupd T k p')+linksIn n p.ds=linksIn n t.2.ds+linksT n T+linksIn n p'.ds
   omega
theorem linksT_append (n:Int):∀ (T:PT) (t:Int×PN),linksT n (T ++ [t])=linksT n T+linksIn n t.2.ds
 | [],t => by show linksIn n t.2.ds+0=0+linksIn n t.2.ds; omega
 | s :: T,t => by
  show linksIn n s.2.ds+linksT n (T ++ [t])=linksIn n s.2.ds+linksT n T+linksIn n t.2.ds
  rw [linksT_append n T t]
  omega
theorem linksT_new (n:Int) {T:PT} {k:Int} {p:PN} (hk:mget T k=none):linksT n (mput T k p)=linksT n T+linksIn n p.ds:=by
 unfold mput
 rw [hk]
 exact linksT_append n T (k,p)
theorem linksT_del (n:Int):∀ {T:PT} {k:Int} {p:PN},MNodup T→mget T k=some p→linksT n (mdel T k)+linksIn n p.ds=linksT n T
 | [],k,p,_,hk => by cases hk
 | t :: T,k,p,hn,hk => by
  have hn':MNodup T:=(List.nodup_cons.1 hn).2
  have hcons:mdel (t :: T) k=if t.1=k then mdel T k else t :: mdel T k:=by
   unfold mdel
   rw [List.filter_cons]
   by_cases e:t.1=k
   ·rw [if_pos e,if_neg (by simp [e])]
   ·rw [if_neg e,if_pos (by simp [e])]
  rw [hcons]
  by_cases e:t.1=k
  ·have h1:mget (t :: T) k=some t.2:=mget_mem hn (by rw [← e]; exact List.mem_cons_self)
   rw [h1] at hk
   have hk:=Option.some.inj hk
   have hno:mget T k=none:=mget_none (fun q hq e2 => (List.nodup_cons.1 hn).1 (List.mem_map.2 ⟨q,hq,by rw [e2,e]⟩))
   rw [if_pos e,mdel_none hno,← hk]
   show linksT n T+linksIn n t.2.ds=linksIn n t.2.ds+linksT n T
   omega
  ·have h1:mget T k=some p:=by
    have h2:=mem_of_mget hk
    rcases List.mem_cons.1 h2 with h3 | h3
    ·exact absurd (by rw [← h3]) e
    ·exact mget_mem hn' h3
   have h2:=linksT_del n hn' h1
   rw [if_neg e]
   show linksIn n t.2.ds+linksT n (mdel T k)+linksIn n p.ds=linksIn n t.2.ds+linksT n T
   omega
theorem linksIn_put {n m:Int} {ds:List (ByteArray×Int)} {s:ByteArray} (hs:mget ds s=none):linksIn n (mput ds s m)=linksIn n ds+if m=n then 1 else 0:=by
 unfold mput linksIn
 rw [hs]
 simp only [Option.isSome_none,Bool.false_eq_true,if_false,List.filter_append,List.length_append]
 by_cases e:m=n <;> simp [e]
theorem linksIn_del {n m:Int}:∀ {ds:List (ByteArray×Int)} {s:ByteArray},MNodup ds→mget ds s=some m→linksIn n (mdel ds s)+(if m=n then 1 else 0)=linksIn n ds
 | [],s,_,h => by cases h
 | t :: ds,s,hn,h => by
  have hn':MNodup ds:=(List.nodup_cons.1 hn).2
  have hcons:mdel (t :: ds) s=if t.1=s then mdel ds s else t :: mdel ds s:=by
   unfold mdel
   rw [List.filter_cons]
   by_cases e:t.1=s
   ·rw [if_pos e,if_neg (by simp [e])]
   ·rw [if_neg e,if_pos (by simp [e])]
  have hc:∀ l:List (ByteArray×Int),linksIn n (t :: l)=linksIn n l+if t.2=n then 1 else 0:=fun l => by
   unfold linksIn
   rw [List.filter_cons]
   by_cases e:t.2=n
   ·rw [if_pos (decide_eq_true e),if_pos e]; rfl
   ·rw [if_neg (by simp [e]),if_neg e]; rfl
  rw [hcons,hc]
  by_cases e:t.1=s
  ·have h1:mget (t :: ds) s=some t.2:=mget_mem hn (by rw [← e]; exact List.mem_cons_self)
   rw [h1] at h
   have h:=Option.some.inj h
   have hno:mget ds s=none:=mget_none (fun q hq e2 => (List.nodup_cons.1 hn).1 (List.mem_map.2 ⟨q,hq,by rw [e2,e]⟩))
   rw [if_pos e,mdel_none hno,← h]
  ·have h1:mget ds s=some m:=by
    have h2:=mem_of_mget h
    rcases List.mem_cons.1 h2 with h3 | h3
    ·exact absurd (by rw [← h3]) e
    ·exact mget_mem hn' h3
   have h2:=linksIn_del (n:=n) hn' h1
   rw [if_neg e,hc]
   omega
theorem placeT_name {T:PT} {path:ByteArray} {d:Int} {s:ByteArray} (h:placeT T path=(0,d,s)):okName s=true:=by
 unfold placeT at h
 cases hn:namesOf path with
 | none => rw [hn] at h; cases h
 | some l =>
  rw [hn] at h
  replace h:(if l=[] then ((1,0,ByteArray.empty):Int×Int×ByteArray) else if (walkT T 0 l.dropLast).1≠0 then ((walkT T 0 l.dropLast).1,0,ByteArray.empty) else if isDirT T (walkT T 0 l.dropLast).2 then (0,(walkT T 0 l.dropLast).2,l.getLastD ByteArray.empty) else (6,0,ByteArray.empty))=(0,d,s):=h
  split at h
  ·cases h
  ·rename_i hl
   split at h
   ·rename_i hz
    exact absurd (congrArg Prod.fst h) hz
   ·split at h
    ·have h2:l.getLastD ByteArray.empty=s:=congrArg (fun x => x.2.2) h
     rw [← h2]
     refine namesOf_names hn _ ?_
     rw [List.getLastD_eq_getLast?,List.getLast?_eq_some_getLast hl]
     exact List.getLast_mem hl
    ·cases h
theorem mem_mput {ds:List (ByteArray×Int)} {s:ByteArray} {n:Int} {e:ByteArray×Int} (h:e∈mput ds s n):e.1=s∨∃ e'∈ds,e'.1=e.1:=by
 unfold mput at h
 split at h
 ·unfold mupd at h
  obtain ⟨x,hx,rfl⟩:=List.mem_map.1 h
  split
  ·exact .inr ⟨x,hx,rfl⟩
  ·exact .inr ⟨x,hx,rfl⟩
 ·rcases List.mem_append.1 h with h1 | h1
  ·exact .inr ⟨e,h1,rfl⟩
  ·rw [List.mem_singleton.1 h1]; exact .inl rfl
theorem mem_mdel {ds:List (ByteArray×Int)} {s:ByteArray} {e:ByteArray×Int} (h:e∈mdel ds s):e∈ds:=(List.mem_filter.1 h).1
def TErr (z:Int):Value:=if z=0 then .nilIface else .iface 35 (.int .i64 z)
theorem TErr_of {z:Int} (h:z≠0):TErr z=.iface 35 (.int .i64 z):=if_neg h
structure NdAt (w:World) (b d:Nat) (p:PN):Prop where
 c0:w.cell? ⟨b,0,none⟩=some (.map (if p.isDir then some d else none))
 c1:w.cell? ⟨b,1,none⟩=some (.string p.data)
 c2:w.cell? ⟨b,2,none⟩=some (.int .i64 (p.names:Int))
 c3:w.cell? ⟨b,3,none⟩=some (.int .i64 (p.held:Int))
 fz:∀ i,w.frozen? ⟨b,i,none⟩=false
 dir:p.isDir=true→MapIs w d .string encS encI p.ds
def ptrV (b:Nat):Value:=.pointer (some ⟨b,0,none⟩)
def keysB (B:Int→Nat) (T:PT):List (Int×Nat):=T.map fun t => (t.1,B t.1)
structure TreeIn (w:World) (tb nm:Nat) (T:PT) (B D:Int→Nat):Prop where
 hdr:w.cell? ⟨tb,0,none⟩=some (.map (some nm))
 mp:MapIs w nm (.int .i64) encI ptrV (keysB B T)
 nd:∀ n p,mget T n=some p→NdAt w (B n) (D n) p
 bb:∀ n m p q,mget T n=some p→mget T m=some q→n≠m→B n≠B m
 dd:∀ n m p q,mget T n=some p→mget T m=some q→p.isDir=true→q.isDir=true→n≠m→D n≠D m
 bd:∀ n m p q,mget T n=some p→mget T m=some q→q.isDir=true→B n≠D m
 own:∀ n p,mget T n=some p→(B n≠tb∧B n≠nm)∧(p.isDir=true→D n≠tb∧D n≠nm)
 ne:tb≠nm
def TrFoot (tb nm:Nat) (T:PT) (B D:Int→Nat) (k:Nat):Prop:=k=tb∨k=nm∨∃ n p,mget T n=some p∧(k=B n∨(p.isDir=true∧k=D n))
def TreeIs (w:World) (tb:Nat) (T:PT) (F:Nat→Prop):Prop:=∃ nm B D,TreeIn w tb nm T B D∧TOk T∧F=TrFoot tb nm T B D
theorem keysB_get (B:Int→Nat):∀ (T:PT) (n:Int),mget (keysB B T) n=(mget T n).map fun _ => B n:=by
 intro T n
 unfold mget keysB
 induction T with
 | nil => rfl
 | cons t T ih =>
  rw [List.map_cons,List.find?_cons,List.find?_cons]
  by_cases e:t.1=n
  ·simp only [e,decide_true]; rfl
  ·simp only [e,decide_false]; exact ih
section
variable {w w':World} {tb nm b d:Nat} {T:PT} {B D:Int→Nat} {F:Nat→Prop} {p:PN} {n:Int}
theorem NdAt.lt (h:NdAt w b d p):b < w.heap.size:=lt_of_cell h.c0
theorem NdAt.turned {S:Nat→Prop} (h:NdAt w b d p) (t:Turn S w w') (hb:¬ S b) (hd:p.isDir=true→¬ S d):NdAt w' b d p :=
 ⟨(t.cell (a:=⟨b,0,none⟩) h.lt hb).trans h.c0,(t.cell (a:=⟨b,1,none⟩) h.lt hb).trans h.c1,(t.cell (a:=⟨b,2,none⟩) h.lt hb).trans h.c2,(t.cell (a:=⟨b,3,none⟩) h.lt hb).trans h.c3,fun i => (t.frozen (a:=⟨b,i,none⟩) h.lt hb).trans (h.fz i),fun e => (h.dir e).turned t (hd e)⟩
theorem TreeIn.turned {S:Nat→Prop} (h:TreeIn w tb nm T B D) (t:Turn S w w') (hn:∀ k,TrFoot tb nm T B D k→¬ S k):TreeIn w' tb nm T B D :=
  { h with
    hdr:=(t.cell (a:=⟨tb,0,none⟩) (lt_of_cell h.hdr) (hn tb (.inl rfl))).trans h.hdr
    mp:=h.mp.turned t (hn nm (.inr (.inl rfl)))
    nd:=fun n p hp => (h.nd n p hp).turned t (hn _ (.inr (.inr ⟨n,p,hp,.inl rfl⟩))) (fun e => hn _ (.inr (.inr ⟨n,p,hp,.inr ⟨e,rfl⟩⟩))) }
theorem TreeIs.turned {S:Nat→Prop} (h:TreeIs w tb T F) (t:Turn S w w') (hn:∀ k,F k→¬ S k):TreeIs w' tb T F:=by
 obtain ⟨nm,B,D,h1,h2,rfl⟩:=h
 exact ⟨nm,B,D,h1.turned t hn,h2,rfl⟩
theorem TreeIn.foot_lt (h:TreeIn w tb nm T B D) (k:Nat) (hk:TrFoot tb nm T B D k):k < w.heap.size:=by
 rcases hk with rfl | rfl | ⟨n,p,hp,rfl | ⟨e,rfl⟩⟩
 ·exact lt_of_cell h.hdr
 ·exact h.mp.lt
 ·exact (h.nd n p hp).lt
 ·exact ((h.nd n p hp).dir e).lt
theorem TreeIs.foot_lt (h:TreeIs w tb T F) (k:Nat) (hk:F k):k < w.heap.size:=by
 obtain ⟨nm,B,D,h1,_,rfl⟩:=h
 exact h1.foot_lt k hk
theorem TreeIs.ok (h:TreeIs w tb T F):TOk T:=by obtain ⟨_,_,_,_,h2,_⟩:=h; exact h2
theorem zeroNode (w:World):(zeroValue 69).run Tryz.prog w=.ok (.pointer none) w:=by kernel_rfl
theorem zeroInt (w:World):(zeroValue 3).run Tryz.prog w=.ok (.int .i64 0) w:=by kernel_rfl
def nodeV (T:PT) (B:Int→Nat) (n:Int):Value:=(mget T n).elim (.pointer none) fun _ => ptrV (B n)
theorem look_node (h:TreeIn w tb nm T B D) (n:Int):(Instr.lookup 73 (.map (some nm)) (.int .i64 n) false).run Tryz.prog w=.ok (nodeV T B n) w:=by
 have h1:=h.mp.run_lookup keyI Tryz.underlying73 Tryz.underlying3 (zeroNode w) n false
 refine h1.trans ?_
 rw [keysB_get]
 unfold nodeV
 cases mget T n <;> rfl
theorem look_name {ds:List (ByteArray×Int)} (h:MapIs w d .string encS encI ds) (s:ByteArray):(Instr.lookup 70 (.map (some d)) (.string s) true).run Tryz.prog w=.ok (.tuple #[.int .i64 ((mget ds s).getD 0),.bool (mget ds s).isSome]) w:=by
 have h1:=h.run_lookup keyS Tryz.underlying70 Tryz.underlying9 (zeroInt w) s true
 refine h1.trans ?_
 cases mget ds s <;> rfl
def StrsIn (w:World) (a:Option Addr) (l:List ByteArray):Prop:=l=[]∨∃ g off,a=some ⟨g,off,none⟩∧g < w.heap.size∧∀ (j:Nat) s,l[j]?=some s→w.cell? ⟨g,off+j,none⟩=some (.string s)
theorem StrsIn.take {a:Option Addr} {l:List ByteArray} (h:StrsIn w a l) (k:Nat):StrsIn w a (l.take k):=by
 rcases h with h | ⟨g,off,rfl,hg,hc⟩
 ·exact .inl (by rw [h]; simp)
 ·refine .inr ⟨g,off,rfl,hg,fun j s hs => hc j s ?_⟩
  rw [List.getElem?_take] at hs
  split at hs
  ·exact hs
  ·cases hs
def PartsIs (path:ByteArray) (w:World) (e:Ending) (w':World):Prop :=
 ((namesOf path=none∧e=.returned (.tuple #[.slice none 0 0,.iface 35 (.int .i64 1)]))∨∃ l a cap,namesOf path=some l∧e=.returned (.tuple #[.slice a l.length cap,.nilIface])∧StrsIn w' a l∧(l≠[]→l.length≤cap))∧Turn (fun _ => False) w w'
theorem toList_empty {s:ByteArray}:s.toList.isEmpty=decide (s.size=0):=by
 rw [ByteArray.toList_eq,Go.Lib.size_eq]
 cases s.data.toList <;> rfl
theorem okName_false {s:ByteArray} (h:okName s=false):s.toList.isEmpty=true∨(12 < s.size∨((s.toList == [46])=true∨(s.toList == [46,46])=true)):=by
 unfold okName at h
 by_cases h1:1≤s.size
 ·by_cases h2:s.size≤12
  ·rw [decide_eq_true h1,decide_eq_true h2] at h
   cases h3:(s.toList == [46]) with
   | true => exact .inr (.inr (.inl rfl))
   | false =>
    cases h4:(s.toList == [46,46]) with
    | true => exact .inr (.inr (.inr rfl))
    | false => rw [h3,h4] at h; cases h
  ·exact .inr (.inl (by omega))
 ·refine .inl ?_
  have h2:s.size=0:=by omega
  rw [toList_empty]; exact decide_eq_true h2
theorem okName_true {s:ByteArray} (h:okName s=true):s.toList.isEmpty=false∧s.size≤12∧(s.toList == [46])=false∧(s.toList == [46,46])=false:=by
 unfold okName at h
 rw [Bool.and_eq_true,Bool.and_eq_true,Bool.and_eq_true,Bool.not_eq_true',Bool.not_eq_true'] at h
 obtain ⟨⟨⟨h1,h2⟩,h3⟩,h4⟩:=h
 have h1:=of_decide_eq_true h1
 exact ⟨by rw [toList_empty]; exact decide_eq_false (by omega),of_decide_eq_true h2,h3,h4⟩
theorem parts_is (path:ByteArray) (hs:path.size < 4294967281) (w:World):Calls Tryz.prog 73 #[.string path] w (PartsIs path w):=by
 cases hl:led path with
 | false =>
  have hn:=namesOf_unled hl
  have HC:=hid (cutSlash_no hl w)
  go_enter Tryz.func73,Tryz.ntmps73
  go_wp2_with fail
  refine HC.out.mono ?_
  rintro e w' ⟨rfl,hw⟩; subst w'
  go_wp2_with fail
  go_ret2
  exact ⟨.inl ⟨hn,rfl⟩,Turn.refl _ _⟩
 | true =>
  have HC:=hid (cutSlash_yes hl w)
  have hsz:=extract_size path 1 path.size (Nat.le_refl _)
  have hl1:=led_size hl
  obtain ⟨r,hr⟩:∃ r,path.extract 1 path.size=r:=⟨_,rfl⟩
  rw [hr] at HC hsz
  by_cases h1:path.size=1
  ·have hn:=namesOf_root hl h1
   have he:r.toList.isEmpty=true:=by rw [toList_empty]; exact decide_eq_true (by omega)
   clear hsz hl1 hr h1 hl hs
   go_enter Tryz.func73,Tryz.ntmps73
   go_wp2_with fail
   refine HC.out.mono ?_
   rintro e w' ⟨rfl,hw⟩; subst w'
   go_wp2_with fail
   go_ret2
   exact ⟨.inr ⟨[],none,0,hn,rfl,.inl rfl,fun h => absurd rfl h⟩,Turn.refl _ _⟩
  ·have he:r.toList.isEmpty=false:=by rw [toList_empty]; exact decide_eq_false (by omega)
   have HSp:=hid (split_is r (by omega) w)
   obtain ⟨l,hpl⟩:∃ l,piecesOf r=l:=⟨_,rfl⟩
   have hlen:=pieces_le r
   have HOk:Hid (l.all okName=true→namesOf path=some l):=hid (fun h => by
    have h2:=namesOf_ok hl h1 (by rw [hr,hpl]; exact h)
    rw [hr,hpl] at h2
    exact h2)
   have HBad:Hid (l.all okName=false→namesOf path=none):=hid (fun h => namesOf_bad hl h1 (by rw [hr,hpl]; exact h))
   rw [hpl] at HSp hlen
   have hll:l.length≤4294967281:=by omega
   clear hsz hl1 hr h1 hl hs hpl hlen
   go_enter Tryz.func73,Tryz.ntmps73
   go_wp2_with fail
   refine HC.out.mono ?_
   rintro e w' ⟨rfl,hw⟩; subst w'
   go_wp2_with fail
   refine HSp.out.mono ?_
   rintro e w1 ⟨rfl,hw1⟩
   have HT:Hid (Turn (fun _ => False) w w1):=hid (by rw [hw1]; exact (Turn.refl _ _).alloc _)
   have HCe:Hid (StrsIn w1 (some ⟨w.heap.size,0,none⟩) l):=hid (.inr ⟨w.heap.size,0,rfl,by rw [hw1,World.size_alloc]; omega,fun j s hj => by
    rw [hw1,Nat.zero_add]
    exact (World.cell?_alloc_new _ _ _ _).trans (by simp [hj])⟩)
   obtain ⟨g,hg⟩:∃ g,w.heap.size=g:=⟨_,rfl⟩
   rw [hg] at HCe
   rw [hg]
   clear hw1 HSp HC hg
   go_wp2_with fail
   go_loopg [23] l.length (fun gl i wr => ∃ k:Nat,k+gl=l.length∧i=.int .i64 k∧wr=w1∧Hid ((l.take k).all okName=true))
   case atStart => exact ⟨0,by omega,rfl,rfl,hid rfl⟩
   case round =>
    obtain ⟨k,hk,rfl,rfl,hA⟩:=hrel
    by_cases hkl:k < l.length
    ·have hkl':(k:Int) < l.length:=by omega
     obtain ⟨s,hs⟩:∃ s,l[k]?=some s:=⟨_,List.getElem?_eq_getElem hkl⟩
     have hc:wr.cell? ⟨g,k,none⟩=some (.string s):=by
      rcases HCe.out with h | ⟨g',off,e,_,h⟩
      ·rw [h] at hkl; simp at hkl
      ·cases e
       have:=h k s hs
       rwa [Nat.zero_add] at this
     cases hok:okName s with
     | false =>
      have hno:namesOf path=none:=HBad.out (by
       rw [List.all_eq_false]
       exact ⟨s,List.mem_of_getElem? hs,by rw [hok]; exact Bool.false_ne_true⟩)
      have HNo:=hid hno
      have HOr:=hid (okName_false hok)
      clear hs hok hno
      rcases HOr.out with h1 | h1 | h1 | h1
      ·go_wp2_with fail
       go_ret2
       exact ⟨.inl ⟨HNo.out,rfl⟩,HT.out⟩
      ·have h1':(12:Int) < s.size:=by omega
       have h2:s.toList.isEmpty=false:=by rw [toList_empty]; exact decide_eq_false (by omega)
       go_wp2_with fail
       go_ret2
       exact ⟨.inl ⟨HNo.out,rfl⟩,HT.out⟩
      ·have hz:s.toList=[46]:=beq_iff_eq.1 h1
       have hz2:s.size=1:=by rw [Go.Lib.size_eq,← ByteArray.toList_eq,hz]; rfl
       have h1':¬ (12:Int) < s.size:=by omega
       have h2:s.toList.isEmpty=false:=by rw [hz]; rfl
       clear hz hz2
       go_wp2_with fail
       go_ret2
       exact ⟨.inl ⟨HNo.out,rfl⟩,HT.out⟩
      ·have hz:s.toList=[46,46]:=beq_iff_eq.1 h1
       have hz2:s.size=2:=by rw [Go.Lib.size_eq,← ByteArray.toList_eq,hz]; rfl
       have h1':¬ (12:Int) < s.size:=by omega
       have h2:s.toList.isEmpty=false:=by rw [hz]; rfl
       have h3:(s.toList == [46])=false:=by rw [hz]; rfl
       clear hz hz2
       go_wp2_with fail
       go_ret2
       exact ⟨.inl ⟨HNo.out,rfl⟩,HT.out⟩
     | true =>
      obtain ⟨h1,h2,h3,h4⟩:=okName_true hok
      have h2':¬ (12:Int) < s.size:=by omega
      have hA2:(l.take (k+1)).all okName=true:=by
       rw [List.take_add_one,hs,List.all_append,hA.out]
       simp [hok]
      have HA2:=hid hA2
      clear hs hok hA2
      go_wp2_with fail
      go_roundg (gk - 1)
      case measure => omega
      case rel => exact ⟨k+1,by omega,by go_num,rfl,HA2⟩
    ·have hkl':¬ (k:Int) < l.length:=by omega
     obtain rfl:k=l.length:=by omega
     have hn:=HOk.out (by have:=hA.out; rwa [List.take_length] at this)
     go_wp2_with fail
     go_ret2
     exact ⟨.inr ⟨l,_,_,hn,rfl,HCe.out,fun _ => Nat.le_refl _⟩,HT.out⟩
end
section
variable {w w':World} {tb nm b d:Nat} {T:PT} {B D:Int→Nat} {F:Nat→Prop} {p:PN} {n:Int}
theorem TreeIn.look (h:TreeIn w tb nm T B D) (hn:mget T n=some p):(Instr.lookup 73 (.map (some nm)) (.int .i64 n) false).run Tryz.prog w=.ok (.pointer (some ⟨B n,0,none⟩)) w:=by
 have h1:=look_node h n
 unfold nodeV at h1
 rw [hn] at h1
 exact h1
theorem TreeIn.looknone (h:TreeIn w tb nm T B D) (hn:mget T n=none):(Instr.lookup 73 (.map (some nm)) (.int .i64 n) false).run Tryz.prog w=.ok (.pointer none) w:=by
 have h1:=look_node h n
 unfold nodeV at h1
 rw [hn] at h1
 exact h1
theorem map_some_nil (d:Nat) (w:World):(Go.binOp BinOp.eql 70 (.map (some d)) (.map none)).run Tryz.prog w=.ok (.bool false) w:=by kernel_rfl
theorem map_nil_nil (w:World):(Go.binOp BinOp.eql 70 (.map none) (.map none)).run Tryz.prog w=.ok (.bool true) w:=by kernel_rfl
theorem map_some_ne (d:Nat) (w:World):(Go.binOp BinOp.neq 70 (.map (some d)) (.map none)).run Tryz.prog w=.ok (.bool true) w:=by kernel_rfl
theorem map_nil_ne (w:World):(Go.binOp BinOp.neq 70 (.map none) (.map none)).run Tryz.prog w=.ok (.bool false) w:=by kernel_rfl
theorem walk_is (h:TreeIn w tb nm T B D) (hok:TOk T) {a:Option Addr} {l:List ByteArray} (cap:Nat) (hl:StrsIn w a l) (hn:l.length≤4294967281) :
  Calls Tryz.prog 74 #[.pointer (some ⟨tb,0,none⟩),.slice a l.length cap] w fun e w' => e=.returned (.tuple #[.int .i64 (walkT T 0 l).2,TErr (walkT T 0 l).1])∧w'=w:=by
 have H:=hid h
 have HOk:=hid hok
 have HL:=hid hl
 have hh:=h.hdr
 obtain ⟨p0,hp0,_⟩:=hok.root
 have HP0:=hid hp0
 obtain ⟨R,hR⟩:∃ R,walkT T 0 l=R:=⟨_,rfl⟩
 rw [hR]
 have HR:=hid hR
 clear h hok hl hp0 hR
 go_enter Tryz.func74,Tryz.ntmps74
 go_wp2_with fail
 go_loopg [6,14] l.length (fun gl at_ i wr => ∃ (k:Nat) (m:Int) (p:PN),k+gl=l.length∧i=.int .i64 k∧at_=.int .i64 m∧Hid (mget T m=some p)∧Hid (walkT T m (l.drop k)=R)∧wr=w)
 case atStart => exact ⟨0,0,p0,by omega,rfl,rfl,HP0,hid (by rw [List.drop_zero]; exact HR.out),rfl⟩
 case round =>
  obtain ⟨k,m,p,hk,rfl,rfl,hm,hw,hwr⟩:=hrel
  subst wr
  by_cases hkl:k < l.length
  ·have hkl':(k:Int) < l.length:=by omega
   obtain ⟨s,hs⟩:∃ s,l[k]?=some s:=⟨_,List.getElem?_eq_getElem hkl⟩
   have hdr:l.drop k=s :: l.drop (k+1):=by
    rw [List.drop_eq_getElem_cons hkl]
    congr 1
    rw [List.getElem?_eq_getElem hkl] at hs
    exact Option.some.inj hs
   obtain ⟨g,off,rfl,_,hc0⟩:=HL.out.resolve_left (by rintro rfl; simp at hkl)
   have hc:=hc0 k s hs
   have lk:=H.out.look hm.out
   have nd:=H.out.nd m p hm.out
   have c0:=nd.c0
   have mno:=map_some_nil (D m) w
   have myes:=map_nil_nil w
   cases hd:p.isDir with
   | false =>
    have hf:R=(6,0):=by
     have h1:=hw.out
     rw [hdr,walkT_file hm.out hd] at h1
     exact h1.symm
    rw [hd] at c0
    simp only [Bool.false_eq_true,if_false] at c0
    subst hf
    clear nd hc0 hs hdr hd
    go_wp2_with fail
    go_ret2
    exact ⟨rfl,rfl⟩
   | true =>
    rw [hd] at c0
    simp only [if_true] at c0
    have ln:=look_name (nd.dir hd) s
    cases hms:mget p.ds s with
    | none =>
     have hf:R=(7,0):=by
      have h1:=hw.out
      rw [hdr,walkT_miss hm.out hd hms] at h1
      exact h1.symm
     rw [hms] at ln
     simp only [Option.getD_none,Option.isSome_none] at ln
     subst hf
     clear nd hc0 hs hdr hd hms
     go_wp2_with fail
     go_ret2
     exact ⟨rfl,rfl⟩
    | some m2 =>
     have hf:=hw.out
     rw [hdr,walkT_hit hm.out hd hms] at hf
     rw [hms] at ln
     simp only [Option.getD_some,Option.isSome_some] at ln
     obtain ⟨q,hq⟩:=HOk.out.link m p hm.out s m2 hms
     have HF:=hid hf
     have HQ:=hid hq
     clear nd hc0 hs hdr hd hms hf hq
     go_wp2_with fail
     go_roundg (gk - 1)
     case measure => omega
     case rel => exact ⟨k+1,m2,q,by omega,by go_num,rfl,HQ,HF,rfl⟩
  ·have hkl':¬ (k:Int) < l.length:=by omega
   obtain rfl:k=l.length:=by omega
   have hf:R=(0,m):=by
    have h1:=hw.out
    rw [List.drop_length] at h1
    exact h1.symm
   subst hf
   go_wp2_with fail
   go_ret2
   exact ⟨rfl,rfl⟩
theorem findT_some {path:ByteArray} {l:List ByteArray} (h:namesOf path=some l):findT T path=walkT T 0 l:=by unfold findT; rw [h]; rfl
theorem findT_none {path:ByteArray} (h:namesOf path=none):findT T path=(1,0):=by unfold findT; rw [h]; rfl
theorem find_is (h:TreeIs w tb T F) (path:ByteArray) (hs:path.size < 4294967281) :
  Calls Tryz.prog 51 #[.pointer (some ⟨tb,0,none⟩),.string path] w fun e w' => e=.returned (.tuple #[.int .i64 (findT T path).2,TErr (findT T path).1])∧Turn (fun _ => False) w w':=by
 have H:=hid h
 have HP:=hid (parts_is path hs w)
 clear h
 go_enter Tryz.func51,Tryz.ntmps51
 go_wp2_with fail
 refine HP.out.mono ?_
 rintro e w1 ⟨⟨hn,rfl⟩ | ⟨l,a,cap,hn,rfl,hl,_⟩,t1⟩
 ·have hf:=findT_none (T:=T) hn
  have HT:=hid t1
  clear t1 hn
  go_wp2_with fail
  go_ret2
  rw [hf]
  exact ⟨rfl,HT.out⟩
 ·have hf:=findT_some (T:=T) hn
  have hlen:=namesOf_length hn
  have HT:=hid t1
  obtain ⟨nm,B,D,hin,hok,_⟩:=H.out.turned t1 (fun _ _ => id)
  have HW:=hid (walk_is hin hok cap hl (by omega))
  clear t1 hn hl hin hok hlen hs
  go_wp2_with fail
  refine HW.out.mono ?_
  rintro e w2 ⟨rfl,hw⟩; subst w2
  go_wp2_with fail
  go_ret2
  rw [hf]
  exact ⟨rfl,HT.out⟩
def PlaceIs (T:PT) (D:Int→Nat) (path:ByteArray) (w:World) (e:Ending) (w':World):Prop :=
 (((placeT T path).1≠0∧e=.returned (.tuple #[.map none,.string ByteArray.empty,TErr (placeT T path).1])) ∨
  ∃ d p s,placeT T path=(0,d,s)∧mget T d=some p∧p.isDir=true∧e=.returned (.tuple #[.map (some (D d)),.string s,.nilIface]))∧Turn (fun _ => False) w w'
theorem placeT_none {path:ByteArray} (h:namesOf path=none):placeT T path=(1,0,ByteArray.empty):=by unfold placeT; rw [h]; rfl
theorem placeT_root {path:ByteArray} (h:namesOf path=some []):placeT T path=(1,0,ByteArray.empty):=by unfold placeT; rw [h]; rfl
theorem placeT_err {path:ByteArray} {l:List ByteArray} (h:namesOf path=some l) (hl:l≠[]) {z:Int} {m:Int} (hw:walkT T 0 l.dropLast=(z,m)) (hz:z≠0):placeT T path=(z,0,ByteArray.empty):=by
 unfold placeT; rw [h]
 show (if l=[] then _ else _)=_
 rw [if_neg hl,hw,if_pos hz]
theorem placeT_file {path:ByteArray} {l:List ByteArray} (h:namesOf path=some l) (hl:l≠[]) {m:Int} (hw:walkT T 0 l.dropLast=(0,m)) (hd:isDirT T m=false):placeT T path=(6,0,ByteArray.empty):=by
 unfold placeT; rw [h]
 show (if l=[] then _ else _)=_
 rw [if_neg hl,hw,if_neg (by simp),if_neg (by simp [hd])]
theorem placeT_dir {path:ByteArray} {l:List ByteArray} (h:namesOf path=some l) (hl:l≠[]) {m:Int} (hw:walkT T 0 l.dropLast=(0,m)) (hd:isDirT T m=true):placeT T path=(0,m,l.getLastD ByteArray.empty):=by
 unfold placeT; rw [h]
 show (if l=[] then _ else _)=_
 rw [if_neg hl,hw,if_neg (by simp),if_pos hd]
theorem place_is (h:TreeIn w tb nm T B D) (hok:TOk T) (path:ByteArray) (hs:path.size < 4294967281) :
  Calls Tryz.prog 45 #[.pointer (some ⟨tb,0,none⟩),.string path] w (PlaceIs T D path w):=by
 have H:=hid h
 have HOk:=hid hok
 have HP:=hid (parts_is path hs w)
 clear h hok
 go_enter Tryz.func45,Tryz.ntmps45
 go_wp2_with fail
 refine HP.out.mono ?_
 rintro e w1 ⟨⟨hn,rfl⟩ | ⟨l,a,cap,hn,rfl,hl,hcap⟩,t1⟩
 ·have hp:=placeT_none (T:=T) hn
  have HT:=hid t1
  clear t1 hn
  go_wp2_with fail
  go_returns
  unfold PlaceIs
  rw [hp]
  exact ⟨.inl ⟨by simp,rfl⟩,HT.out⟩
 ·have HT:=hid t1
  by_cases h0:l=[]
  ·subst h0
   have hp:=placeT_root (T:=T) hn
   clear t1 hn hl
   go_wp2_with fail
   go_returns
   unfold PlaceIs
   rw [hp]
   exact ⟨.inl ⟨by simp,rfl⟩,HT.out⟩
  ·have hlen:=namesOf_length hn
   have h1:1≤l.length:=List.length_pos_iff.2 h0
   have hcp:=hcap h0
   have hin:=H.out.turned t1 (fun _ _ => id)
   have HIn:=hid hin
   have htk:l.take (l.length - 1)=l.dropLast:=List.dropLast_eq_take.symm
   have hl2:=hl.take (l.length - 1)
   rw [htk] at hl2
   obtain ⟨R,hR⟩:∃ R,walkT T 0 l.dropLast=R:=⟨_,rfl⟩
   have HR:=hid hR
   have HW:Hid (∀ cap,Calls Tryz.prog 74 #[.pointer (some ⟨tb,0,none⟩),.slice a (l.length - 1:Nat) cap] w1 fun e w' => e=.returned (.tuple #[.int .i64 R.2,TErr R.1])∧w'=w1):=hid (fun cap => by
    have h3:=walk_is hin HOk.out cap hl2 (by rw [List.length_dropLast]; omega)
    rw [hR,List.length_dropLast] at h3
    exact h3)
   obtain ⟨g,off,rfl,_,hc0⟩:=hl.resolve_left h0
   have hlast:∃ s,l[l.length - 1]?=some s∧l.getLastD ByteArray.empty=s:=⟨_,List.getElem?_eq_getElem (by omega),by rw [List.getLastD_eq_getLast?,List.getLast?_eq_getElem?,List.getElem?_eq_getElem (by omega)]; rfl⟩
   obtain ⟨s,hs1,hs2⟩:=hlast
   have hc:=hc0 _ s hs1
   have h0':((l.length:Int) == 0)=false:=beq_eq_false_iff_ne.2 (by omega)
   have HN:=hid hn
   have HS2:=hid hs2
   obtain ⟨k,hk⟩:∃ k,l.length - 1=k:=⟨_,rfl⟩
   have hk1:l.length=k+1:=by omega
   have hsub:wrap64 ((l.length:Int) - 1)=k:=by rw [IntWalk.wrap64_in _ (by omega)]; omega
   rw [hk] at HW hc
   have h00:=hid h0
   clear hl hl2 hc0 hs1 hs2 htk hR hin t1 hn h0 hk hcap
   go_wp2_with fail
   refine (HW.out cap).mono ?_
   rintro e w2 ⟨rfl,hw⟩; subst w2
   obtain ⟨z,m⟩:=R
   by_cases hz:z=0
   ·subst hz
    have hwk:=HR.out
    obtain ⟨p0,hp0,_⟩:=HOk.out.root
    obtain ⟨q,hq⟩:=walkT_there HOk.out _ 0 p0 hp0 (by rw [hwk])
    rw [hwk] at hq
    simp only at hq
    have nd:=HIn.out.nd m q hq
    have c0:=nd.c0
    have hh:=HIn.out.hdr
    have lk:=HIn.out.look hq
    have mno:=map_some_nil (D m) w1
    have myes:=map_nil_nil w1
    have te:TErr 0=.nilIface:=rfl
    have HQ:=hid hq
    cases hd:q.isDir with
    | false =>
     rw [hd] at c0
     simp only [Bool.false_eq_true,if_false] at c0
     have hpl:=placeT_file HN.out h00.out hwk (by unfold isDirT; rw [hq]; exact hd)
     have HPl:=hid hpl
     clear nd hq hwk hp0 hpl hd
     go_wp2_with fail
     go_returns
     unfold PlaceIs
     rw [HPl.out]
     exact ⟨.inl ⟨by simp,rfl⟩,HT.out⟩
    | true =>
     rw [hd] at c0
     simp only [if_true] at c0
     have hpl:=placeT_dir HN.out h00.out hwk (by unfold isDirT; rw [hq]; exact hd)
     rw [HS2.out] at hpl
     have HPl:=hid hpl
     have HD:=hid hd
     clear nd hq hwk hp0 hpl hd
     go_wp2_with fail
     have hq1:(k:Int) < ((k+1:Nat):Int):=by omega
     have hq2:IntKind.i64.wrap (((k+1:Nat):Int) - 1)=(k:Int):=by rw [IntWalk.i64_in _ (by omega)]; omega
     generalize hkk:k+1=N at *
     have hkn:k < N:=by omega
     have hk0:¬ (k:Int) < 0:=by omega
     clear hsub h1 hcp hlen hkk
     go_quiet (fail)
     go_wp2_with fail
     go_returns
     exact ⟨.inr ⟨m,q,s,HPl.out,HQ.out,HD.out,rfl⟩,HT.out.drewN _⟩
   ·have te:=TErr_of hz
    have hpl:=placeT_err HN.out h00.out HR.out hz
    have HPl:=hid hpl
    have HZ:=hid hz
    clear hpl hz
    go_wp2_with fail
    go_returns
    unfold PlaceIs
    rw [HPl.out]
    exact ⟨.inl ⟨HZ.out,by rw [TErr_of HZ.out]; rfl⟩,HT.out⟩
def fileE (T:PT) (n:Int):Int:=(mget T n).elim 7 fun p => if p.isDir then 6 else 0
theorem fileE_none (h:mget T n=none):fileE T n=7:=by unfold fileE; rw [h]; rfl
theorem fileE_dir (h:mget T n=some p) (hd:p.isDir=true):fileE T n=6:=by unfold fileE; rw [h]; show (if p.isDir then _ else _)=_; rw [hd]; rfl
theorem fileE_file (h:mget T n=some p) (hd:p.isDir=false):fileE T n=0:=by unfold fileE; rw [h]; show (if p.isDir then _ else _)=_; rw [hd]; rfl
def FileIs (T:PT) (B:Int→Nat) (n:Int) (w:World) (e:Ending) (w':World):Prop :=
 ((fileE T n≠0∧e=.returned (.tuple #[.pointer none,TErr (fileE T n)]))∨∃ p,mget T n=some p∧p.isDir=false∧fileE T n=0∧e=.returned (.tuple #[.pointer (some ⟨B n,0,none⟩),.nilIface]))∧w'=w
theorem file_is (h:TreeIn w tb nm T B D) (n:Int):Calls Tryz.prog 81 #[.pointer (some ⟨tb,0,none⟩),.int .i64 n] w (FileIs T B n w):=by
 have hh:=h.hdr
 cases hn:mget T n with
 | none =>
  have lk:=h.looknone hn
  have hf:=fileE_none hn
  clear h hn
  go_enter Tryz.func81,Tryz.ntmps81
  go_wp2_with fail
  go_returns
  unfold FileIs
  rw [hf]
  exact ⟨.inl ⟨by simp,rfl⟩,rfl⟩
 | some p =>
  have lk:=h.look hn
  have c0:=(h.nd n p hn).c0
  have mno:=fun d => map_some_nil d w
  have myes:=map_nil_nil w
  have mno2:=map_some_ne (D n) w
  have myes2:=map_nil_ne w
  cases hd:p.isDir with
  | true =>
   rw [hd] at c0
   simp only [if_true] at c0
   have hf:=fileE_dir hn hd
   clear h hn hd
   go_enter Tryz.func81,Tryz.ntmps81
   go_wp2_with fail
   go_returns
   unfold FileIs
   rw [hf]
   exact ⟨.inl ⟨by simp,rfl⟩,rfl⟩
  | false =>
   rw [hd] at c0
   simp only [Bool.false_eq_true,if_false] at c0
   have hf:=fileE_file hn hd
   clear h
   go_enter Tryz.func81,Tryz.ntmps81
   go_wp2_with fail
   go_returns
   exact ⟨.inr ⟨p,hn,hd,hf,rfl⟩,rfl⟩
theorem nodes_is (h:TreeIs w tb T F):Calls Tryz.prog 17 #[.pointer (some ⟨tb,0,none⟩)] w fun e w' => e=.returned (.int .i64 (T.length:Int))∧w'=w:=by
 obtain ⟨nm,B,D,hin,hok,_⟩:=h
 have hh:=hin.hdr
 have hl:∀ ty,(Builtin.len_ #[73] ty #[.map (some nm)]).run Tryz.prog w=.ok (.int .i64 T.length) w:=fun ty => by
  have h1:=hin.mp.run_len Tryz.underlying73 ty
  unfold keysB at h1
  rw [List.length_map] at h1
  exact h1
 have hsz:=hok.size
 clear hin hok
 go_enter Tryz.func17,Tryz.ntmps17
 go_wp2_with fail
 go_returns
 exact ⟨rfl,rfl⟩
end
section
variable {T:PT} {n m d e k:Int} {p p' q q':PN} {s s':ByteArray}
theorem linksIn_some {n:Int}:∀ {ds:List (ByteArray×Int)},0 < linksIn n ds→∃ s,(s,n)∈ds:=by
 intro ds h
 unfold linksIn at h
 obtain ⟨a,ha⟩:=List.exists_mem_of_length_pos h
 have h1:=List.mem_filter.1 ha
 have h2:=of_decide_eq_true h1.2
 exact ⟨a.1,by rw [← h2]; exact h1.1⟩
theorem linksIn_nil (n:Int):linksIn n []=0:=rfl
theorem linksT_some {n:Int}:∀ {T:PT},0 < linksT n T→∃ t∈T,0 < linksIn n t.2.ds
 | [],h => absurd h (Nat.lt_irrefl _)
 | t :: T,h => by
  by_cases e:0 < linksIn n t.2.ds
  ·exact ⟨t,List.mem_cons_self,e⟩
  ·have h1:0 < linksIn n t.2.ds+linksT n T:=h
   obtain ⟨t',h2,h3⟩:=linksT_some (T:=T) (n:=n) (by omega)
   exact ⟨t',List.mem_cons_of_mem _ h2,h3⟩
theorem linksT_ge {n:Int}:∀ {T:PT} {t:Int×PN},t∈T→linksIn n t.2.ds≤linksT n T
 | [],t,h => by cases h
 | s :: T,t,h => by
  show _≤linksIn n s.2.ds+linksT n T
  rcases List.mem_cons.1 h with rfl | h
  ·omega
  ·have:=linksT_ge (n:=n) h; omega
theorem TOk.named (h:TOk T) (hd:mget T d=some p) (hs:mget p.ds s=some n):0 < linksT n T:=by
 have h1:=linksT_ge (n:=n) (mem_of_mget hd)
 have h2:=mem_of_mget hs
 have h3:0 < linksIn n p.ds:=by
  unfold linksIn
  exact List.length_pos_of_mem (List.mem_filter.2 ⟨h2,decide_eq_true rfl⟩)
 simp only at h1
 omega
theorem TOk.unnamed (h:TOk T) (hn:mget T n=none):linksT n T=0:=by
 by_cases e:0 < linksT n T
 ·obtain ⟨t,ht,h1⟩:=linksT_some e
  obtain ⟨s,hs⟩:=linksIn_some h1
  have h2:mget T t.1=some t.2:=mget_mem h.nd ht
  have h3:mget t.2.ds s=some n:=mget_mem (h.dnd _ _ h2) hs
  obtain ⟨q,hq⟩:=h.link _ _ h2 s n h3
  rw [hn] at hq; cases hq
 ·omega
theorem mput_length_same (hn:mget T n=some p):(mput T n p').length=T.length:=by rw [mput_length,hn]; rfl
theorem mput_length_new (hn:mget T n=none):(mput T n p').length=T.length+1:=by rw [mput_length,hn]; rfl
theorem TOk.upd (h:TOk T) (hn:mget T n=some p) (h1:p'.isDir=p.isDir) (h2:p'.ds=p.ds) (h3:p'.names=p.names) (h4:p'.data.size≤200):TOk (mput T n p'):=by
 have hlk:∀ m,linksT m (mput T n p')=linksT m T:=fun m => by
  have:=linksT_put m (p':=p') h.nd hn
  rw [h2] at this
  omega
 have hget:∀ m q,mget (mput T n p') m=some q→∃ q0,mget T m=some q0∧q.isDir=q0.isDir∧q.ds=q0.ds∧q.names=q0.names∧q.data.size≤200:=fun m q hq => by
  rw [mget_mput] at hq
  by_cases e:m=n
  ·rw [if_pos e] at hq
   cases hq
   exact ⟨p,by rw [e]; exact hn,h1,h2,h3,h4⟩
  ·rw [if_neg e] at hq
   exact ⟨q,hq,rfl,rfl,rfl,h.data m q hq⟩
 have hhas:∀ m q0,mget T m=some q0→∃ q,mget (mput T n p') m=some q:=fun m q0 hm => by
  rw [mget_mput]
  by_cases e:m=n
  ·rw [if_pos e]; exact ⟨_,rfl⟩
  ·rw [if_neg e]; exact ⟨_,hm⟩
 refine ⟨?_,mput_nodup h.nd _ _,fun m q hq => ?_,fun m q hq s k hs => ?_,fun m q hq hf => ?_,fun m q hq => ?_,fun m q hq => ?_,fun m q hq => ?_,by rw [mput_length_same hn]; exact h.size,fun m q hq => by
  obtain ⟨q0,hq0,_,e2,_⟩:=hget m q hq
  rw [e2]
  exact h.nms m q0 hq0⟩
 ·obtain ⟨p0,hp0,hd0⟩:=h.root
  obtain ⟨q,hq⟩:=hhas 0 p0 hp0
  obtain ⟨q0,hq0,e1,_⟩:=hget 0 q hq
  rw [hp0] at hq0
  cases hq0
  exact ⟨q,hq,e1.trans hd0⟩
 ·obtain ⟨q0,hq0,_⟩:=hget m q hq
  exact h.keys m q0 hq0
 ·obtain ⟨q0,hq0,_,e2,_⟩:=hget m q hq
  rw [e2] at hs
  obtain ⟨q1,hq1⟩:=h.link m q0 hq0 s k hs
  exact hhas k q1 hq1
 ·obtain ⟨q0,hq0,e1,e2,_⟩:=hget m q hq
  rw [e2]
  exact h.file m q0 hq0 (by rw [← e1]; exact hf)
 ·obtain ⟨q0,hq0,_,_,e3,_⟩:=hget m q hq
  rw [e3,hlk]
  exact h.cnt m q0 hq0
 ·obtain ⟨q0,hq0,_,e2,_⟩:=hget m q hq
  rw [e2]
  exact h.dnd m q0 hq0
 ·obtain ⟨q0,hq0,_,_,_,e4⟩:=hget m q hq
  exact e4
theorem TOk.del (h:TOk T) (hn:mget T n=some p) (h1:p.names=0) (h2:p.ds=[]):TOk (mdel T n):=by
 have hc:=h.cnt n p hn
 rw [h1] at hc
 have hn0:n≠0:=fun e => by rw [if_pos e] at hc; omega
 rw [if_neg hn0] at hc
 have hlk:∀ m,linksT m (mdel T n)=linksT m T:=fun m => by
  have:=linksT_del m h.nd hn
  rw [h2,linksIn_nil] at this
  omega
 have hget:∀ m q,mget (mdel T n) m=some q→mget T m=some q∧m≠n:=fun m q hq => by
  rw [mget_mdel] at hq
  by_cases e:m=n
  ·rw [if_pos e] at hq; cases hq
  ·rw [if_neg e] at hq; exact ⟨hq,e⟩
 have hhas:∀ m q,mget T m=some q→m≠n→mget (mdel T n) m=some q:=fun m q hm e => by rw [mget_mdel,if_neg e]; exact hm
 refine ⟨?_,mdel_nodup h.nd _,fun m q hq => h.keys m q (hget m q hq).1,fun m q hq s k hs => ?_,fun m q hq hf => h.file m q (hget m q hq).1 hf,fun m q hq => by rw [hlk]; exact h.cnt m q (hget m q hq).1,fun m q hq => h.dnd m q (hget m q hq).1,fun m q hq => h.data m q (hget m q hq).1,?_,fun m q hq => h.nms m q (hget m q hq).1⟩
 ·obtain ⟨p0,hp0,hd0⟩:=h.root
  exact ⟨p0,hhas 0 p0 hp0 (fun e => hn0 e.symm),hd0⟩
 ·have h3:=(hget m q hq).1
  have h4:=h.named h3 hs
  obtain ⟨q1,hq1⟩:=h.link m q h3 s k hs
  exact ⟨q1,hhas k q1 hq1 (fun e => by rw [e] at h4; omega)⟩
 ·have:=mdel_length h.nd hn
  have:=h.size
  omega
theorem TOk.two (h:TOk T) (hd:mget T d=some p) (hdir:p.isDir=true) (hn:mget T n=some q) (hne:n≠d) {ds:List (ByteArray×Int)} {c:Nat} (hnd:MNodup ds) (hnm:∀ e∈ds,okName e.1=true) (hsub:∀ s m,mget ds s=some m→m=n∨mget p.ds s=some m)
  (hc:∀ m,m≠n→linksIn m ds=linksIn m p.ds) (hcn:c+linksIn n p.ds=q.names+linksIn n ds):TOk (mput (mput T d { p with ds:=ds }) n { q with names:=c }):=by
 have hd2:mget (mput T d { p with ds:=ds }) n=some q:=by rw [mget_mput,if_neg hne]; exact hn
 have hlk:∀ m,linksT m (mput (mput T d { p with ds:=ds }) n { q with names:=c })+linksIn m p.ds=linksT m T+linksIn m ds:=fun m => by
  have e1:=linksT_put m (p':={ p with ds:=ds }) h.nd hd
  have e2:=linksT_put m (p':={ q with names:=c }) (mput_nodup h.nd _ _) hd2
  simp only at e1 e2
  omega
 have hget:∀ m r,mget (mput (mput T d { p with ds:=ds }) n { q with names:=c }) m=some r→(m=n∧r={ q with names:=c })∨(m≠n∧m=d∧r={ p with ds:=ds })∨(m≠n∧m≠d∧mget T m=some r):=fun m r hr => by
  rw [mget_mput,mget_mput] at hr
  by_cases e1:m=n
  ·rw [if_pos e1] at hr; cases hr; exact .inl ⟨e1,rfl⟩
  ·rw [if_neg e1] at hr
   by_cases e2:m=d
   ·rw [if_pos e2] at hr; cases hr; exact .inr (.inl ⟨e1,e2,rfl⟩)
   ·rw [if_neg e2] at hr; exact .inr (.inr ⟨e1,e2,hr⟩)
 have hhas:∀ m r,mget T m=some r→∃ r',mget (mput (mput T d { p with ds:=ds }) n { q with names:=c }) m=some r'∧r'.isDir=r.isDir:=fun m r hm => by
  rw [mget_mput,mget_mput]
  by_cases e1:m=n
  ·rw [if_pos e1]; rw [e1,hn] at hm; cases hm; exact ⟨_,rfl,rfl⟩
  ·rw [if_neg e1]
   by_cases e2:m=d
   ·rw [if_pos e2]; rw [e2,hd] at hm; cases hm; exact ⟨_,rfl,rfl⟩
   ·rw [if_neg e2]; exact ⟨r,hm,rfl⟩
 refine ⟨?_,mput_nodup (mput_nodup h.nd _ _) _ _,fun m r hr => ?_,fun m r hr s k hs => ?_,fun m r hr hf => ?_,fun m r hr => ?_,fun m r hr => ?_,fun m r hr => ?_,?_,fun m r hr => by
  rcases hget m r hr with ⟨rfl,rfl⟩ | ⟨_,rfl,rfl⟩ | ⟨_,_,h3⟩
  ·exact h.nms m q hn
  ·exact hnm
  ·exact h.nms m r h3⟩
 ·obtain ⟨p0,hp0,hd0⟩:=h.root
  obtain ⟨r,hr,e⟩:=hhas 0 p0 hp0
  exact ⟨r,hr,e.trans hd0⟩
 ·rcases hget m r hr with ⟨rfl,rfl⟩ | ⟨_,rfl,rfl⟩ | ⟨_,_,h3⟩
  ·exact h.keys m q hn
  ·exact h.keys m p hd
  ·exact h.keys m r h3
 ·have there:∃ r1,mget T k=some r1:=by
   rcases hget m r hr with ⟨rfl,rfl⟩ | ⟨_,rfl,rfl⟩ | ⟨_,_,h3⟩
   ·exact h.link m q hn s k hs
   ·rcases hsub s k hs with rfl | h4
    ·exact ⟨q,hn⟩
    ·exact h.link m p hd s k h4
   ·exact h.link m r h3 s k hs
  obtain ⟨r1,hr1⟩:=there
  obtain ⟨r2,hr2,_⟩:=hhas k r1 hr1
  exact ⟨r2,hr2⟩
 ·rcases hget m r hr with ⟨rfl,rfl⟩ | ⟨_,rfl,rfl⟩ | ⟨_,_,h3⟩
  ·exact h.file m q hn hf
  ·rw [show ({ p with ds:=ds }:PN).isDir=p.isDir from rfl,hdir] at hf; cases hf
  ·exact h.file m r h3 hf
 ·have e:=hlk m
  rcases hget m r hr with ⟨rfl,rfl⟩ | ⟨e1,rfl,rfl⟩ | ⟨e1,_,h3⟩
  ·have e3:=h.cnt m q hn
   simp only
   omega
  ·have e3:=h.cnt m p hd
   have e4:=hc m e1
   simp only
   omega
  ·have e3:=h.cnt m r h3
   have e4:=hc m e1
   omega
 ·rcases hget m r hr with ⟨rfl,rfl⟩ | ⟨_,rfl,rfl⟩ | ⟨_,_,h3⟩
  ·exact h.dnd m q hn
  ·exact hnd
  ·exact h.dnd m r h3
 ·rcases hget m r hr with ⟨rfl,rfl⟩ | ⟨_,rfl,rfl⟩ | ⟨_,_,h3⟩
  ·exact h.data m q hn
  ·exact h.data m p hd
  ·exact h.data m r h3
 ·rw [mput_length_same hd2,mput_length_same hd]
  exact h.size
theorem linksIn_putm {n m:Int} {ds:List (ByteArray×Int)} {s:ByteArray} (hs:mget ds s=none) (h:n≠m):linksIn n (mput ds s m)=linksIn n ds:=by
 rw [linksIn_put hs,if_neg (fun e => h e.symm)]; rfl
theorem linksIn_delm {n m:Int} {ds:List (ByteArray×Int)} {s:ByteArray} (hn:MNodup ds) (hs:mget ds s=some m) (h:n≠m):linksIn n (mdel ds s)=linksIn n ds:=by
 have:=linksIn_del (n:=n) hn hs
 rw [if_neg (fun e => h e.symm)] at this
 omega
theorem TOk.link_ (h:TOk T) (hd:mget T d=some p) (hdir:p.isDir=true) (hn:mget T n=some q) (hq:q.isDir=false) (hs:mget p.ds s=none) (hsn:okName s=true) :
  TOk (mput (mput T d { p with ds:=mput p.ds s n }) n { q with names:=q.names+1 }):=by
 have hne:n≠d:=fun e => by rw [e,hd] at hn; cases hn; rw [hdir] at hq; cases hq
 refine h.two hd hdir hn hne (mput_nodup (h.dnd d p hd) _ _) (fun e he => (mem_mput he).elim (fun e2 => by rw [e2]; exact hsn) (fun ⟨e',h1,h2⟩ => by rw [← h2]; exact h.nms d p hd e' h1)) (fun s' m hm => ?_) (fun m hm => linksIn_putm hs hm) ?_
 ·rw [mget_mput] at hm
  split at hm
  ·cases hm; exact .inl rfl
  ·exact .inr hm
 ·rw [linksIn_put hs,if_pos rfl]; omega
theorem TOk.unlink_ (h:TOk T) (hd:mget T d=some p) (hdir:p.isDir=true) (hn:mget T n=some q) (hne:n≠d) (hs:mget p.ds s=some n) :
  TOk (mput (mput T d { p with ds:=mdel p.ds s }) n { q with names:=q.names - 1 }):=by
 have h1:=h.named hd hs
 have h2:=h.cnt n q hn
 have h3:=linksIn_del (n:=n) (h.dnd d p hd) hs
 rw [if_pos rfl] at h3
 refine h.two hd hdir hn hne (mdel_nodup (h.dnd d p hd) _) (fun e he => h.nms d p hd e (mem_mdel he)) (fun s' m hm => ?_) (fun m hm => linksIn_delm (h.dnd d p hd) hs hm) (by omega)
 rw [mget_mdel] at hm
 split at hm
 ·cases hm
 ·exact .inr hm
theorem TOk.make_ (h:TOk T) (hd:mget T d=some p) (hdir:p.isDir=true) (hk:mget T k=none) (hk0:1≤k∧k < 60) (hsz:T.length < 60) (hs:mget p.ds s=none) (hsn:okName s=true) (b:Bool) :
  TOk (mput (mput T k ⟨b,[],ByteArray.empty,1,0⟩) d { p with ds:=mput p.ds s k }):=by
 have hne:k≠d:=fun e => by rw [e,hd] at hk; cases hk
 have hd2:mget (mput T k (⟨b,[],ByteArray.empty,1,0⟩:PN)) d=some p:=by rw [mget_mput,if_neg (fun e => hne e.symm)]; exact hd
 have hlk:∀ m,linksT m (mput (mput T k ⟨b,[],ByteArray.empty,1,0⟩) d { p with ds:=mput p.ds s k })=linksT m T+if k=m then 1 else 0:=fun m => by
  have e1:=linksT_new m (p:=⟨b,[],ByteArray.empty,1,0⟩) hk
  have e2:=linksT_put m (p':={ p with ds:=mput p.ds s k }) (mput_nodup h.nd _ _) hd2
  have e3:=linksIn_put (n:=m) (m:=k) hs
  simp only [linksIn_nil] at e1 e2
  omega
 have hget:∀ m r,mget (mput (mput T k ⟨b,[],ByteArray.empty,1,0⟩) d { p with ds:=mput p.ds s k }) m=some r→(m=d∧m≠k∧r={ p with ds:=mput p.ds s k })∨(m≠d∧m=k∧r=⟨b,[],ByteArray.empty,1,0⟩)∨(m≠d∧m≠k∧mget T m=some r):=fun m r hr => by
  rw [mget_mput,mget_mput] at hr
  by_cases e1:m=d
  ·rw [if_pos e1] at hr; cases hr; exact .inl ⟨e1,fun e => hne (by rw [← e,e1]),rfl⟩
  ·rw [if_neg e1] at hr
   by_cases e2:m=k
   ·rw [if_pos e2] at hr; cases hr; exact .inr (.inl ⟨e1,e2,rfl⟩)
   ·rw [if_neg e2] at hr; exact .inr (.inr ⟨e1,e2,hr⟩)
 have hhas:∀ m r,mget T m=some r→∃ r',mget (mput (mput T k ⟨b,[],ByteArray.empty,1,0⟩) d { p with ds:=mput p.ds s k }) m=some r'∧r'.isDir=r.isDir:=fun m r hm => by
  rw [mget_mput,mget_mput]
  by_cases e1:m=d
  ·rw [if_pos e1]; rw [e1,hd] at hm; cases hm; exact ⟨_,rfl,rfl⟩
  ·rw [if_neg e1,if_neg (fun e => by rw [e,hk] at hm; cases hm)]; exact ⟨r,hm,rfl⟩
 have hun:=h.unnamed hk
 refine ⟨?_,mput_nodup (mput_nodup h.nd _ _) _ _,fun m r hr => ?_,fun m r hr s' k' hs' => ?_,fun m r hr hf => ?_,fun m r hr => ?_,fun m r hr => ?_,fun m r hr => ?_,?_,fun m r hr => by
  rcases hget m r hr with ⟨rfl,_,rfl⟩ | ⟨_,rfl,rfl⟩ | ⟨_,_,h3⟩
  ·exact fun e he => (mem_mput he).elim (fun e2 => by rw [e2]; exact hsn) (fun ⟨e',h1,h2⟩ => by rw [← h2]; exact h.nms m p hd e' h1)
  ·intro e he; cases he
  ·exact h.nms m r h3⟩
 ·obtain ⟨p0,hp0,hd0⟩:=h.root
  obtain ⟨r,hr,e⟩:=hhas 0 p0 hp0
  exact ⟨r,hr,e.trans hd0⟩
 ·rcases hget m r hr with ⟨rfl,_,rfl⟩ | ⟨_,rfl,rfl⟩ | ⟨_,_,h3⟩
  ·exact h.keys m p hd
  ·exact ⟨by omega,hk0.2⟩
  ·exact h.keys m r h3
 ·have there:k'=k∨∃ r1,mget T k'=some r1:=by
   rcases hget m r hr with ⟨rfl,_,rfl⟩ | ⟨_,rfl,rfl⟩ | ⟨_,_,h3⟩
   ·simp only [mget_mput] at hs'
    split at hs'
    ·cases hs'; exact .inl rfl
    ·exact .inr (h.link m p hd s' k' hs')
   ·cases hs'
   ·exact .inr (h.link m r h3 s' k' hs')
  rcases there with rfl | ⟨r1,hr1⟩
  ·rw [mget_mput,if_neg hne,mget_mput,if_pos rfl]; exact ⟨_,rfl⟩
  ·obtain ⟨r2,hr2,_⟩:=hhas k' r1 hr1
   exact ⟨r2,hr2⟩
 ·rcases hget m r hr with ⟨rfl,_,rfl⟩ | ⟨_,rfl,rfl⟩ | ⟨_,_,h3⟩
  ·rw [show ({ p with ds:=mput p.ds s k }:PN).isDir=p.isDir from rfl,hdir] at hf; cases hf
  ·rfl
  ·exact h.file m r h3 hf
 ·rw [hlk m]
  rcases hget m r hr with ⟨rfl,e1,rfl⟩ | ⟨_,rfl,rfl⟩ | ⟨_,e1,h3⟩
  ·have:=h.cnt m p hd
   have e5:(if k=m then 1 else 0)=0:=if_neg (fun e => e1 e.symm)
   rw [e5]
   simp only
   omega
  ·rw [if_neg (by omega),hun,if_pos rfl]
  ·have e5:(if k=m then 1 else 0)=0:=if_neg (fun e => e1 e.symm)
   rw [e5]
   exact h.cnt m r h3
 ·rcases hget m r hr with ⟨rfl,_,rfl⟩ | ⟨_,rfl,rfl⟩ | ⟨_,_,h3⟩
  ·exact mput_nodup (h.dnd m p hd) _ _
  ·exact List.nodup_nil
  ·exact h.dnd m r h3
 ·rcases hget m r hr with ⟨rfl,_,rfl⟩ | ⟨_,rfl,rfl⟩ | ⟨_,_,h3⟩
  ·exact h.data m p hd
  ·exact Nat.zero_le _
  ·exact h.data m r h3
 ·rw [mput_length_same hd2,mput_length_new hk]
  omega
end
def TreeTo (tb:Nat) (F:Nat→Prop) (w w':World) (T':PT):Prop:=∃ F',TreeIs w' tb T' F'∧Turn F w w'∧∀ k,F' k→F k∨w.heap.size≤k
section
variable {w w' w1 w2:World} {tb nm b d:Nat} {T T1 T2:PT} {B D:Int→Nat} {F:Nat→Prop} {p p':PN} {n:Int}
theorem TreeTo.same (h:TreeIs w tb T F) (t:Turn (fun _ => False) w w'):TreeTo tb F w w' T:=⟨F,h.turned t (fun _ _ => id),t.mono (fun _ _ h => h.elim),fun _ h => .inl h⟩
theorem TreeTo.before (h:TreeTo tb F w1 w2 T2) (t:Turn (fun _ => False) w w1):TreeTo tb F w w2 T2:=by
 obtain ⟨F',a,b,c⟩:=h
 exact ⟨F',a,(t.mono (fun _ _ h => h.elim)).trans b,fun k hk => (c k hk).imp id (fun h => Nat.le_trans t.size h)⟩
theorem keysB_put (B:Int→Nat) (hn:mget T n=some p):keysB B (mput T n p')=keysB B T:=by
 unfold keysB mput
 rw [hn]
 simp only [Option.isSome_some,if_true]
 unfold mupd
 rw [List.map_map]
 refine List.map_congr_left fun t _ => ?_
 show ((if t.1=n then (t.1,p') else t).1,B (if t.1=n then (t.1,p') else t).1)=(t.1,B t.1)
 by_cases e:t.1=n
 ·rw [if_pos e]
 ·rw [if_neg e]
theorem foot_put (hn:mget T n=some p) (hd:p'.isDir=p.isDir):TrFoot tb nm (mput T n p') B D=TrFoot tb nm T B D:=by
 funext k
 apply propext
 unfold TrFoot
 constructor
 ·rintro (h | h | ⟨m,q,hq,h⟩)
  ·exact .inl h
  ·exact .inr (.inl h)
  ·rw [mget_mput] at hq
   by_cases e:m=n
   ·rw [if_pos e] at hq
    cases hq
    rw [hd] at h
    exact .inr (.inr ⟨m,p,by rw [e]; exact hn,h⟩)
   ·rw [if_neg e] at hq
    exact .inr (.inr ⟨m,q,hq,h⟩)
 ·rintro (h | h | ⟨m,q,hq,h⟩)
  ·exact .inl h
  ·exact .inr (.inl h)
  ·by_cases e:m=n
   ·rw [e,hn] at hq
    cases hq
    rw [← hd] at h
    exact .inr (.inr ⟨m,p',by rw [mget_mput,if_pos e],h⟩)
   ·exact .inr (.inr ⟨m,q,by rw [mget_mput,if_neg e]; exact hq,h⟩)
theorem TreeIn.put (h:TreeIn w tb nm T B D) (hn:mget T n=some p) (hd:p'.isDir=p.isDir) (nd':NdAt w' (B n) (D n) p') (t:Turn (fun k => k=B n∨(p.isDir=true∧k=D n)) w w'):TreeIn w' tb nm (mput T n p') B D:=by
 have hget:∀ m q,mget (mput T n p') m=some q→(m=n∧q=p')∨(m≠n∧mget T m=some q):=fun m q hq => by
  rw [mget_mput] at hq
  by_cases e:m=n
  ·rw [if_pos e] at hq; cases hq; exact .inl ⟨e,rfl⟩
  ·rw [if_neg e] at hq; exact .inr ⟨e,hq⟩
 have hold:∀ m q,mget (mput T n p') m=some q→∃ q0,mget T m=some q0∧q.isDir=q0.isDir:=fun m q hq => by
  rcases hget m q hq with ⟨rfl,rfl⟩ | ⟨_,h2⟩
  ·exact ⟨p,hn,hd⟩
  ·exact ⟨q,h2,rfl⟩
 have ho:=h.own n p hn
 refine ⟨(t.cell (a:=⟨tb,0,none⟩) (lt_of_cell h.hdr) (fun e => ?_)).trans h.hdr,?_,fun m q hq => ?_,fun m k q r hq hr hne => ?_,fun m k q r hq hr h1 h2 hne => ?_,fun m k q r hq hr h1 => ?_,fun m q hq => ?_,h.ne⟩
 ·rcases e with e | ⟨e1,e2⟩
  ·exact ho.1.1 e.symm
  ·exact (ho.2 e1).1 e2.symm
 ·rw [keysB_put B hn]
  exact h.mp.turned t (fun e => by
   rcases e with e | ⟨e1,e2⟩
   ·exact ho.1.2 e.symm
   ·exact (ho.2 e1).2 e2.symm)
 ·rcases hget m q hq with ⟨rfl,rfl⟩ | ⟨e,h2⟩
  ·exact nd'
  ·refine (h.nd m q h2).turned t (fun e2 => ?_) (fun hq2 e2 => ?_)
   ·rcases e2 with e2 | ⟨e1,e2⟩
    ·exact h.bb m n q p h2 hn e e2
    ·exact h.bd m n q p h2 hn e1 e2
   ·rcases e2 with e2 | ⟨e1,e2⟩
    ·exact h.bd n m p q hn h2 hq2 e2.symm
    ·exact h.dd m n q p h2 hn hq2 e1 e e2
 ·obtain ⟨q0,a,_⟩:=hold m q hq
  obtain ⟨r0,b,_⟩:=hold k r hr
  exact h.bb m k q0 r0 a b hne
 ·obtain ⟨q0,a,e1⟩:=hold m q hq
  obtain ⟨r0,b,e2⟩:=hold k r hr
  exact h.dd m k q0 r0 a b (e1 ▸ h1) (e2 ▸ h2) hne
 ·obtain ⟨q0,a,_⟩:=hold m q hq
  obtain ⟨r0,b,e2⟩:=hold k r hr
  exact h.bd m k q0 r0 a b (e2 ▸ h1)
 ·obtain ⟨q0,a,e1⟩:=hold m q hq
  have:=h.own m q0 a
  exact ⟨this.1,fun e => this.2 (e1 ▸ e)⟩
theorem NdAt.setHeld (h:NdAt w b d p) (hne:p.isDir=true→b≠d) {z:Int} {c:Nat} (hz:z=c):NdAt (w.setCell ⟨b,3,none⟩ (.int .i64 z)) b d { p with held:=c } :=
 ⟨(World.cell?_setCell_other _ _ _ _ (fun e => by simp at e)).trans h.c0,(World.cell?_setCell_other _ _ _ _ (fun e => by simp at e)).trans h.c1,(World.cell?_setCell_other _ _ _ _ (fun e => by simp at e)).trans h.c2,
  by rw [hz]; exact World.cell?_setCell_same _ _ _ h.c3,fun i => by rw [World.frozen?_setCell]; exact h.fz i,fun e => (h.dir e).turned (S:=fun k => k=b) ((Turn.refl _ w).setCell _ _ (fun _ => rfl)) (fun e2 => hne e e2.symm)⟩
theorem NdAt.setNames (h:NdAt w b d p) (hne:p.isDir=true→b≠d) {z:Int} {c:Nat} (hz:z=c):NdAt (w.setCell ⟨b,2,none⟩ (.int .i64 z)) b d { p with names:=c } :=
 ⟨(World.cell?_setCell_other _ _ _ _ (fun e => by simp at e)).trans h.c0,(World.cell?_setCell_other _ _ _ _ (fun e => by simp at e)).trans h.c1,by rw [hz]; exact World.cell?_setCell_same _ _ _ h.c2,
  (World.cell?_setCell_other _ _ _ _ (fun e => by simp at e)).trans h.c3,fun i => by rw [World.frozen?_setCell]; exact h.fz i,fun e => (h.dir e).turned (S:=fun k => k=b) ((Turn.refl _ w).setCell _ _ (fun _ => rfl)) (fun e2 => hne e e2.symm)⟩
theorem NdAt.setData (h:NdAt w b d p) (hne:p.isDir=true→b≠d) (x:ByteArray):NdAt (w.setCell ⟨b,1,none⟩ (.string x)) b d { p with data:=x } :=
 ⟨(World.cell?_setCell_other _ _ _ _ (fun e => by simp at e)).trans h.c0,World.cell?_setCell_same _ _ _ h.c1,(World.cell?_setCell_other _ _ _ _ (fun e => by simp at e)).trans h.c2,
  (World.cell?_setCell_other _ _ _ _ (fun e => by simp at e)).trans h.c3,fun i => by rw [World.frozen?_setCell]; exact h.fz i,fun e => (h.dir e).turned (S:=fun k => k=b) ((Turn.refl _ w).setCell _ _ (fun _ => rfl)) (fun e2 => hne e e2.symm)⟩
theorem TreeIn.apart (h:TreeIn w tb nm T B D) (hn:mget T n=some p):p.isDir=true→B n≠D n:=fun e => h.bd n n p p hn hn e
theorem TreeIn.to (h:TreeIn w tb nm T B D) (hok:TOk (mput T n p')) (hn:mget T n=some p) (hd:p'.isDir=p.isDir) (nd':NdAt w' (B n) (D n) p') (t:Turn (fun k => k=B n∨(p.isDir=true∧k=D n)) w w'):TreeTo tb (TrFoot tb nm T B D) w w' (mput T n p'):=by
 refine ⟨TrFoot tb nm T B D,⟨nm,B,D,h.put hn hd nd' t,hok,(foot_put hn hd).symm⟩,t.mono (fun k _ hk => ?_),fun _ hk => .inl hk⟩
 rcases hk with rfl | ⟨e,rfl⟩
 ·exact .inr (.inr ⟨n,p,hn,.inl rfl⟩)
 ·exact .inr (.inr ⟨n,p,hn,.inr ⟨e,rfl⟩⟩)
theorem keysB_del (B:Int→Nat) (T:PT) (n:Int):keysB B (mdel T n)=mdel (keysB B T) n:=by
 unfold keysB mdel
 rw [List.filter_map]
 rfl
theorem TreeIn.del (h:TreeIn w tb nm T B D) (hm:MapIs w' nm (.int .i64) encI ptrV (mdel (keysB B T) n)) (t:Turn (fun k => k=nm) w w'):TreeIn w' tb nm (mdel T n) B D:=by
 have hget:∀ m q,mget (mdel T n) m=some q→mget T m=some q:=fun m q hq => by
  rw [mget_mdel] at hq
  split at hq
  ·cases hq
  ·exact hq
 refine ⟨(t.cell (a:=⟨tb,0,none⟩) (lt_of_cell h.hdr) h.ne).trans h.hdr,by rw [keysB_del]; exact hm,fun m q hq => ?_,fun m k q r hq hr => h.bb m k q r (hget m q hq) (hget k r hr),fun m k q r hq hr => h.dd m k q r (hget m q hq) (hget k r hr),fun m k q r hq hr => h.bd m k q r (hget m q hq) (hget k r hr),fun m q hq => h.own m q (hget m q hq),h.ne⟩
 have ho:=h.own m q (hget m q hq)
 exact (h.nd m q (hget m q hq)).turned t ho.1.2 (fun e => (ho.2 e).2)
theorem foot_del (k:Nat) (hk:TrFoot tb nm (mdel T n) B D k):TrFoot tb nm T B D k:=by
 rcases hk with h | h | ⟨m,q,hq,h⟩
 ·exact .inl h
 ·exact .inr (.inl h)
 ·rw [mget_mdel] at hq
  split at hq
  ·cases hq
  ·exact .inr (.inr ⟨m,q,hq,h⟩)
def goneT (T:PT) (n:Int) (p:PN):PT:=if p.names=0∧p.held=0 then mdel T n else T
theorem goes_is (h:TreeIn w tb nm T B D) (hok:TOk T) (hn:mget T n=some p) (hds:p.ds=[]) :
  Calls Tryz.prog 46 #[.pointer (some ⟨tb,0,none⟩),.int .i64 n] w fun e w' => e=.returned (.tuple #[])∧TreeTo tb (TrFoot tb nm T B D) w w' (goneT T n p):=by
 have H:=hid h
 have HOk:=hid hok
 have hh:=h.hdr
 have lk:=h.look hn
 have c2:=(h.nd n p hn).c2
 have c3:=(h.nd n p hn).c3
 have HN:=hid hn
 by_cases h1:p.names=0
 ·by_cases h2:p.held=0
  ·obtain ⟨w3,hrun,hmp,t3⟩:=h.mp.run_delete (P:=Tryz.prog) (ty:=0) keyI Tryz.underlying73 Tryz.underlying3 n
   replace hrun:(Builtin.delete_ #[73,3] 0 #[.map (some nm),.int .i64 n]).run Tryz.prog w=.ok (.tuple #[]) w3:=hrun
   have hg:goneT T n p=mdel T n:=if_pos ⟨h1,h2⟩
   have HG:=hid hg
   have HD:=hid (hok.del hn h1 hds)
   rw [h1] at c2
   rw [h2] at c3
   have HM3:=hid hmp
   have HT3:=hid t3
   clear h hok hn h1 h2 hg hmp t3
   go_enter Tryz.func46,Tryz.ntmps46
   go_wp2_with fail
   go_returns
   rw [HG.out]
   refine ⟨rfl,_,⟨nm,B,D,H.out.del HM3.out HT3.out,HD.out,rfl⟩,HT3.out.mono (fun k _ hk => .inr (.inl hk)),fun k hk => .inl (foot_del k hk)⟩
  ·have hg:goneT T n p=T:=if_neg (fun e => h2 e.2)
   have h2':((p.held:Int) == 0)=false:=beq_eq_false_iff_ne.2 (by omega)
   rw [h1] at c2
   clear h hok hn h1 h2
   go_enter Tryz.func46,Tryz.ntmps46
   go_wp2_with fail
   go_returns
   rw [hg]
   exact ⟨rfl,TreeTo.same ⟨nm,B,D,H.out,HOk.out,rfl⟩ (Turn.refl _ _)⟩
 ·have hg:goneT T n p=T:=if_neg (fun e => h1 e.1)
  have h1':((p.names:Int) == 0)=false:=beq_eq_false_iff_ne.2 (by omega)
  clear h hok hn h1
  go_enter Tryz.func46,Tryz.ntmps46
  go_wp2_with fail
  go_returns
  rw [hg]
  exact ⟨rfl,TreeTo.same ⟨nm,B,D,H.out,HOk.out,rfl⟩ (Turn.refl _ _)⟩
def holdT (T:PT) (n:Int):PT:=(mget T n).elim T fun p => if p.isDir then T else mput T n { p with held:=p.held+1 }
theorem holdT_err (h:fileE T n≠0):holdT T n=T:=by
 unfold holdT
 cases hn:mget T n with
 | none => rfl
 | some p =>
  cases hd:p.isDir with
  | true => show (if p.isDir then T else _)=T; rw [hd]; rfl
  | false => exact absurd (fileE_file hn hd) h
theorem holdT_file (hn:mget T n=some p) (hd:p.isDir=false):holdT T n=mput T n { p with held:=p.held+1 }:=by
 unfold holdT; rw [hn]; show (if p.isDir then T else _)=_; rw [hd]; rfl
theorem hold_is (h:TreeIs w tb T F) (n:Int) (hb:∀ p,mget T n=some p→p.held < 1000000) :
  Calls Tryz.prog 54 #[.pointer (some ⟨tb,0,none⟩),.int .i64 n] w fun e w' => e=.returned (TErr (fileE T n))∧TreeTo tb F w w' (holdT T n):=by
 have HI:=hid h
 obtain ⟨nm,B,D,hin,hok,rfl⟩:=h
 have H:=hid hin
 have HOk:=hid hok
 have HF:=hid (file_is hin n)
 have HB:=hid hb
 clear hin hok hb
 go_enter Tryz.func54,Tryz.ntmps54
 go_wp2_with fail
 refine HF.out.mono ?_
 rintro e w1 ⟨⟨hz,rfl⟩ | ⟨p,hn,hd,hz,rfl⟩,hw⟩ <;> subst w1
 ·have te:=TErr_of hz
  have hT:=holdT_err hz
  have HT:=hid hT
  clear hz hT
  go_wp2_with fail
  go_returns
  rw [HT.out]
  exact ⟨congrArg Ending.returned te.symm,TreeTo.same HI.out (Turn.refl _ _)⟩
 ·have nd:=H.out.nd n p hn
  have c3:=nd.c3
  have f3:=nd.fz 3
  have hlt:=HB.out p hn
  have HN:=hid hn
  have HD:=hid hd
  have HZ:=hid hz
  have hwr:wrap64 ((p.held:Int)+1)=p.held+1:=IntWalk.wrap64_in _ (by omega)
  clear nd hn hd hz
  go_wp2_with fail
  go_returns
  rw [HZ.out,holdT_file HN.out HD.out]
  refine ⟨rfl,?_⟩
  exact H.out.to (HOk.out.upd HN.out rfl rfl rfl (HOk.out.data n p HN.out)) HN.out rfl ((H.out.nd n p HN.out).setHeld (H.out.apart HN.out) (by omega)) ((Turn.refl _ _).setCell _ _ (fun _ => .inl rfl))
theorem TreeTo.then_ {F1:Nat→Prop} (t:Turn F w w1) (c:∀ k,F1 k→F k∨w.heap.size≤k) (h:TreeTo tb F1 w1 w2 T2):TreeTo tb F w w2 T2:=by
 obtain ⟨F',a,b,c2⟩:=h
 refine ⟨F',a,t.trans' b (fun k hk hf => ?_),fun k hk => ?_⟩
 ·rcases c k hf with h1 | h1
  ·exact h1
  ·omega
 ·rcases c2 k hk with h1 | h1
  ·exact c k h1
  ·exact .inr (Nat.le_trans t.size h1)
def dropE (T:PT) (n:Int):Int:=(mget T n).elim 7 fun p => if p.isDir then 6 else if p.held=0 then 10 else 0
def dropT (T:PT) (n:Int):PT:=(mget T n).elim T fun p => if p.isDir then T else if p.held=0 then T else goneT (mput T n { p with held:=p.held - 1 }) n { p with held:=p.held - 1 }
theorem drop_err (h:fileE T n≠0):dropE T n=fileE T n∧dropT T n=T:=by
 unfold dropE dropT fileE at *
 cases hn:mget T n with
 | none => exact ⟨rfl,rfl⟩
 | some p =>
  rw [hn] at h
  cases hd:p.isDir with
  | true => show (if p.isDir then _ else _)=(if p.isDir then _ else _)∧(if p.isDir then _ else _)=_; rw [hd]; exact ⟨rfl,rfl⟩
  | false => exact absurd (show (if p.isDir then (6:Int) else 0)=0 by rw [hd]; rfl) h
theorem drop_none (hn:mget T n=some p) (hd:p.isDir=false) (h0:p.held=0):dropE T n=10∧dropT T n=T:=by
 unfold dropE dropT; rw [hn]
 show (if p.isDir then _ else if p.held=0 then _ else _)=_∧(if p.isDir then _ else if p.held=0 then _ else _)=_
 rw [hd,if_neg Bool.false_ne_true,if_neg Bool.false_ne_true,if_pos h0,if_pos h0]; exact ⟨rfl,rfl⟩
theorem drop_file (hn:mget T n=some p) (hd:p.isDir=false) (h0:p.held≠0):dropE T n=0∧dropT T n=goneT (mput T n { p with held:=p.held - 1 }) n { p with held:=p.held - 1 }:=by
 unfold dropE dropT; rw [hn]
 show (if p.isDir then _ else if p.held=0 then _ else _)=_∧(if p.isDir then _ else if p.held=0 then _ else _)=_
 rw [hd,if_neg Bool.false_ne_true,if_neg Bool.false_ne_true,if_neg h0,if_neg h0]; exact ⟨rfl,rfl⟩
theorem drop_is (h:TreeIs w tb T F) (n:Int) (hb:∀ p,mget T n=some p→p.held < 1000000) :
  Calls Tryz.prog 62 #[.pointer (some ⟨tb,0,none⟩),.int .i64 n] w fun e w' => e=.returned (TErr (dropE T n))∧TreeTo tb F w w' (dropT T n):=by
 have HI:=hid h
 obtain ⟨nm,B,D,hin,hok,rfl⟩:=h
 have H:=hid hin
 have HOk:=hid hok
 have HF:=hid (file_is hin n)
 have HB:=hid hb
 clear hin hok hb
 go_enter Tryz.func62,Tryz.ntmps62
 go_wp2_with fail
 refine HF.out.mono ?_
 rintro e w1 ⟨⟨hz,rfl⟩ | ⟨p,hn,hd,hz,rfl⟩,hw⟩ <;> subst w1
 ·have te:=TErr_of hz
  have HT:=hid (drop_err hz)
  clear hz
  go_wp2_with fail
  go_returns
  rw [HT.out.1,HT.out.2]
  exact ⟨congrArg Ending.returned te.symm,TreeTo.same HI.out (Turn.refl _ _)⟩
 ·have nd:=H.out.nd n p hn
  have c3:=nd.c3
  have f3:=nd.fz 3
  have hlt:=HB.out p hn
  have HN:=hid hn
  have HD:=hid hd
  by_cases h0:p.held=0
  ·have HT:=hid (drop_none hn hd h0)
   rw [h0] at c3
   clear nd hn hd hz h0
   go_wp2_with fail
   go_returns
   rw [HT.out.1,HT.out.2]
   exact ⟨rfl,TreeTo.same HI.out (Turn.refl _ _)⟩
  ·have HT:=hid (drop_file hn hd h0)
   have h0':((p.held:Int) == 0)=false:=beq_eq_false_iff_ne.2 (by omega)
   have hwr:wrap64 ((p.held:Int) - 1)=p.held - 1:=IntWalk.wrap64_in _ (by omega)
   have tt:Turn (fun k => k=B n∨(p.isDir=true∧k=D n)) w (w.setCell ⟨B n,3,none⟩ (.int .i64 ((p.held:Int) - 1))):=(Turn.refl _ _).setCell _ _ (fun _ => .inl rfl)
   have hput:=H.out.put (p':={ p with held:=p.held - 1 }) hn rfl (nd.setHeld (c:=p.held - 1) (H.out.apart hn) (by omega)) tt
   have hok2:=HOk.out.upd (p':={ p with held:=p.held - 1 }) hn rfl rfl rfl (HOk.out.data n p hn)
   have HG:=hid (goes_is hput hok2 (p:={ p with held:=p.held - 1 }) (by rw [mget_mput,if_pos rfl]) (HOk.out.file n p hn hd))
   have HTt:Hid (Turn (TrFoot tb nm T B D) w (w.setCell ⟨B n,3,none⟩ (.int .i64 ((p.held:Int) - 1)))):=hid (tt.mono (fun k _ hk => by
    rcases hk with rfl | ⟨e,rfl⟩
    ·exact .inr (.inr ⟨n,p,hn,.inl rfl⟩)
    ·exact .inr (.inr ⟨n,p,hn,.inr ⟨e,rfl⟩⟩)))
   clear nd hn hd hz h0 tt hput hok2
   go_wp2_with fail
   refine HG.out.mono ?_
   rintro e w2 ⟨rfl,hto⟩
   have HTo:=hid hto
   clear hto
   go_wp2_with fail
   go_returns
   rw [HT.out.1,HT.out.2]
   exact ⟨rfl,HTo.out.then_ HTt.out (fun k hk => .inl (by rw [foot_put (p':={ p with held:=p.held - 1 }) HN.out rfl] at hk; exact hk))⟩
end
def leastT (T:PT):Nat→Nat→Nat
 | 0,k => k
 | f+1,k => if (mget T (k:Int)).isSome then leastT T f (k+1) else k
def freeT (T:PT):Nat:=leastT T 60 1
theorem leastT_spec (T:PT):∀ (f k:Nat),k≤leastT T f k∧leastT T f k≤k+f∧(∀ i:Nat,k≤i→i < leastT T f k→(mget T (i:Int)).isSome=true)∧(leastT T f k < k+f→mget T ((leastT T f k:Nat):Int)=none)
 | 0,k => ⟨Nat.le_refl _,Nat.le_refl _,fun i h1 h2 => by unfold leastT at h2; omega,fun h => by unfold leastT at h; omega⟩
 | f+1,k => by
  unfold leastT
  cases hk:mget T (k:Int) with
  | none =>
   simp only [Option.isSome_none,Bool.false_eq_true,if_false]
   exact ⟨Nat.le_refl _,by omega,fun i h1 h2 => by omega,fun _ => hk⟩
  | some p =>
   simp only [Option.isSome_some,if_true]
   obtain ⟨a,b,c,d⟩:=leastT_spec T f (k+1)
   refine ⟨by omega,by omega,fun i h1 h2 => ?_,fun h => d (by omega)⟩
   by_cases e:i=k
   ·rw [e,hk]; rfl
   ·exact c i (by omega) h2
theorem keys_fillT:∀ (k:Nat) (T:PT),MNodup T→(∀ i:Int,0≤i→i < k→(mget T i).isSome=true)→k≤T.length
 | 0,T,_,_ => Nat.zero_le _
 | k+1,T,hn,h => by
  obtain ⟨v,hv⟩:=Option.isSome_iff_exists.1 (h (k:Int) (by omega) (by omega))
  have h1:=mdel_length hn hv
  have h2:=keys_fillT k (mdel T (k:Int)) (mdel_nodup hn _) (fun i h1 h2 => by
   rw [mget_mdel,if_neg (by omega)]
   exact h i h1 (by omega))
  omega
theorem freeT_spec {T:PT} (h:TOk T) (hl:T.length < 60):1≤freeT T∧freeT T < 60∧mget T (freeT T:Int)=none∧∀ i:Nat,1≤i→i < freeT T→(mget T (i:Int)).isSome=true:=by
 obtain ⟨a,b,c,d⟩:=leastT_spec T 60 1
 have hlt:freeT T < 60:=by
  rcases Nat.lt_or_ge (freeT T) 60 with h1 | h1
  ·exact h1
  ·have h2:=keys_fillT 60 T h.nd (fun i h3 h4 => by
    by_cases e:i=0
    ·obtain ⟨p0,hp0,_⟩:=h.root
     rw [e,hp0]; rfl
    ·have h5:=c i.toNat (by omega) (by unfold freeT at h1; omega)
     rwa [show ((i.toNat:Nat):Int)=i by omega] at h5)
   omega
 exact ⟨a,hlt,d (by unfold freeT at hlt; omega),c⟩
def updI (B:Int→Nat) (k:Int) (c:Nat):Int→Nat:=fun n => if n=k then c else B n
section
variable {w w' w1 w2 w3:World} {tb nm b d c dn:Nat} {T T1 T2:PT} {B D:Int→Nat} {F:Nat→Prop} {p p' nn:PN} {n k:Int}
theorem mput_newT (hk:mget T k=none):mput T k p=T ++ [(k,p)]:=by
 unfold mput
 rw [if_neg (by rw [hk]; simp)]
theorem keysB_new (hk:mget T k=none):keysB (updI B k c) (mput T k nn)=mput (keysB B T) k c:=by
 rw [mput_newT hk]
 have h1:mget (keysB B T) k=none:=by rw [keysB_get,hk]; rfl
 have h2:mput (keysB B T) k c=keysB B T ++ [(k,c)]:=by
  unfold mput
  rw [if_neg (by rw [h1]; simp)]
 rw [h2]
 unfold keysB
 rw [List.map_append]
 congr 1
 ·refine List.map_congr_left fun t ht => ?_
  have hne:t.1≠k:=mget_none_iff.1 hk t ht
  unfold updI
  rw [if_neg hne]
 ·show [(k,updI B k c k)]=[(k,c)]
  unfold updI
  rw [if_pos rfl]
theorem TreeIn.add (h:TreeIn w tb nm T B D) (hk:mget T k=none) (nd:NdAt w' c dn nn) (hm:MapIs w' nm (.int .i64) encI ptrV (mput (keysB B T) k c)) (t:Turn (fun j => j=nm∨j=c) w w')
  (hc:¬ TrFoot tb nm T B D c) (hdn:nn.isDir=true→¬ TrFoot tb nm T B D dn∧dn≠c):TreeIn w' tb nm (mput T k nn) (updI B k c) (updI D k dn):=by
 have hget:∀ m q,mget (mput T k nn) m=some q→(m=k∧q=nn∧updI B k c m=c∧updI D k dn m=dn)∨(m≠k∧mget T m=some q∧updI B k c m=B m∧updI D k dn m=D m):=fun m q hq => by
  rw [mget_mput] at hq
  by_cases e:m=k
  ·rw [if_pos e] at hq; cases hq; exact .inl ⟨e,rfl,if_pos e,if_pos e⟩
  ·rw [if_neg e] at hq; exact .inr ⟨e,hq,if_neg e,if_neg e⟩
 have hfb:∀ m q,mget T m=some q→TrFoot tb nm T B D (B m):=fun m q hq => .inr (.inr ⟨m,q,hq,.inl rfl⟩)
 have hfd:∀ m q,mget T m=some q→q.isDir=true→TrFoot tb nm T B D (D m):=fun m q hq e => .inr (.inr ⟨m,q,hq,.inr ⟨e,rfl⟩⟩)
 refine ⟨(t.cell (a:=⟨tb,0,none⟩) (lt_of_cell h.hdr) (fun e => ?_)).trans h.hdr,by rw [keysB_new hk]; exact hm,fun m q hq => ?_,fun m m2 q r hq hr hne => ?_,fun m m2 q r hq hr h1 h2 hne => ?_,fun m m2 q r hq hr h1 => ?_,fun m q hq => ?_,h.ne⟩
 ·rcases e with e | e
  ·exact h.ne e
  ·exact hc (e ▸ .inl rfl)
 ·rcases hget m q hq with ⟨rfl,rfl,e1,e2⟩ | ⟨_,h2,e1,e2⟩
  ·rw [e1,e2]; exact nd
  ·rw [e1,e2]
   have ho:=h.own m q h2
   exact (h.nd m q h2).turned t (fun e => e.elim ho.1.2 (fun e => hc (e ▸ hfb m q h2))) (fun hd e => e.elim (ho.2 hd).2 (fun e => hc (e ▸ hfd m q h2 hd)))
 ·rcases hget m q hq with ⟨rfl,rfl,e1,_⟩ | ⟨_,h2,e1,_⟩ <;> rcases hget m2 r hr with ⟨rfl,rfl,e3,_⟩ | ⟨_,h4,e3,_⟩
  ·exact absurd rfl hne
  ·rw [e1,e3]; exact fun e => hc (e ▸ hfb m2 r h4)
  ·rw [e1,e3]; exact fun e => hc (e ▸ hfb m q h2)
  ·rw [e1,e3]; exact h.bb m m2 q r h2 h4 hne
 ·rcases hget m q hq with ⟨rfl,rfl,_,e1⟩ | ⟨_,hq2,_,e1⟩ <;> rcases hget m2 r hr with ⟨rfl,rfl,_,e3⟩ | ⟨_,hr2,_,e3⟩
  ·exact absurd rfl hne
  ·rw [e1,e3]; exact fun e => (hdn h1).1 (e ▸ hfd m2 r hr2 h2)
  ·rw [e1,e3]; exact fun e => (hdn h2).1 (e ▸ hfd m q hq2 h1)
  ·rw [e1,e3]; exact h.dd m m2 q r hq2 hr2 h1 h2 hne
 ·rcases hget m q hq with ⟨rfl,rfl,e1,_⟩ | ⟨_,hq2,e1,_⟩ <;> rcases hget m2 r hr with ⟨rfl,rfl,_,e3⟩ | ⟨_,hr2,_,e3⟩
  ·rw [e1,e3]; exact fun e => (hdn h1).2 e.symm
  ·rw [e1,e3]; exact fun e => hc (e ▸ hfd m2 r hr2 h1)
  ·rw [e1,e3]; exact fun e => (hdn h1).1 (e ▸ hfb m q hq2)
  ·rw [e1,e3]; exact h.bd m m2 q r hq2 hr2 h1
 ·rcases hget m q hq with ⟨rfl,rfl,e1,e2⟩ | ⟨_,hq2,e1,e2⟩
  ·rw [e1,e2]
   exact ⟨⟨fun e => hc (e ▸ .inl rfl),fun e => hc (e ▸ .inr (.inl rfl))⟩,fun hd => ⟨fun e => (hdn hd).1 (e ▸ .inl rfl),fun e => (hdn hd).1 (e ▸ .inr (.inl rfl))⟩⟩
  ·rw [e1,e2]; exact h.own m q hq2
theorem foot_add (hk:mget T k=none) (j:Nat) (hj:TrFoot tb nm (mput T k nn) (updI B k c) (updI D k dn) j):TrFoot tb nm T B D j∨j=c∨(nn.isDir=true∧j=dn):=by
 rcases hj with h | h | ⟨m,q,hq,h⟩
 ·exact .inl (.inl h)
 ·exact .inl (.inr (.inl h))
 ·rw [mget_mput] at hq
  by_cases e:m=k
  ·rw [if_pos e] at hq
   cases hq
   unfold updI at h
   rw [if_pos e,if_pos e] at h
   exact .inr h
  ·rw [if_neg e] at hq
   unfold updI at h
   rw [if_neg e,if_neg e] at h
   exact .inl (.inr (.inr ⟨m,q,hq,h⟩))
theorem NdAt.setDs {ds':List (ByteArray×Int)} (h:NdAt w b d p) (hd:p.isDir=true) (hm:MapIs w' d .string encS encI ds') (t:Turn (fun j => j=d) w w') (hne:b≠d):NdAt w' b d { p with ds:=ds' } :=
 ⟨(t.cell (a:=⟨b,0,none⟩) h.lt hne).trans h.c0,(t.cell (a:=⟨b,1,none⟩) h.lt hne).trans h.c1,(t.cell (a:=⟨b,2,none⟩) h.lt hne).trans h.c2,(t.cell (a:=⟨b,3,none⟩) h.lt hne).trans h.c3,fun i => (t.frozen (a:=⟨b,i,none⟩) h.lt hne).trans (h.fz i),fun _ => hm⟩
def dsT (T:PT) (n:Int):List (ByteArray×Int):=(mget T n).elim [] (·.ds)
def makeE (T:PT) (path:ByteArray):Int:=if (placeT T path).1≠0 then (placeT T path).1 else if (mget (dsT T (placeT T path).2.1) (placeT T path).2.2).isSome then 9 else if 60≤T.length then 12 else 0
def nameT (T:PT) (d:Int) (ds:List (ByteArray×Int)):PT:=(mget T d).elim T fun p => mput T d { p with ds:=ds }
def newN (b:Bool):PN:=⟨b,[],ByteArray.empty,1,0⟩
def makeT (T:PT) (path:ByteArray) (b:Bool):PT :=
 if makeE T path=0 then nameT (mput T (freeT T) (newN b)) (placeT T path).2.1 (mput (dsT T (placeT T path).2.1) (placeT T path).2.2 (freeT T)) else T
def makeK (T:PT) (path:ByteArray):Int:=if makeE T path=0 then (freeT T:Int) else 0
theorem makeK_err {path:ByteArray} {z:Int} (h:makeE T path=z) (hz:z≠0):makeK T path=0:=if_neg (by rw [h]; exact hz)
theorem makeK_ok {path:ByteArray} (h:makeE T path=0):makeK T path=freeT T:=if_pos h
def MakeTo (tb c dn:Nat) (b:Bool) (F:Nat→Prop) (w w':World) (T':PT):Prop :=
 ∃ F',TreeIs w' tb T' F'∧Turn (fun j => F j∨j=c) w w'∧∀ j,F' j→F j∨j=c∨(b=true∧j=dn)
theorem make_is (h:TreeIs w tb T F) (path:ByteArray) (hs:path.size < 4294967281) (b:Bool) (nd:NdAt w c dn ⟨b,[],ByteArray.empty,0,0⟩) (hc:¬ F c) (hdn:b=true→¬ F dn∧dn≠c) :
  Calls Tryz.prog 80 #[.pointer (some ⟨tb,0,none⟩),.string path,.pointer (some ⟨c,0,none⟩)] w fun e w' => e=.returned (.tuple #[.int .i64 (makeK T path),TErr (makeE T path)])∧MakeTo tb c dn b F w w' (makeT T path b):=by
 have HI:=hid h
 obtain ⟨nm,B,D,hin,hok,rfl⟩:=h
 have H:=hid hin
 have HOk:=hid hok
 have HP:=hid (place_is hin hok path hs)
 have ND:=hid nd
 have HC:=hid hc
 have HDn:=hid hdn
 have HSame:Hid (makeE T path≠0→∀ w',Turn (fun _ => False) w w'→MakeTo tb c dn b (TrFoot tb nm T B D) w w' (makeT T path b)):=hid (fun hz w' tt => by
  have:makeT T path b=T:=if_neg hz
  rw [this]
  exact ⟨_,HI.out.turned tt (fun _ _ => id),tt.mono (fun _ _ h => h.elim),fun _ h => .inl h⟩)
 clear hin hok nd hc hdn HI
 go_enter Tryz.func80,Tryz.ntmps80
 go_wp2_with fail
 refine HP.out.mono ?_
 rintro e w1 ⟨⟨hz,rfl⟩ | ⟨d,p,s,hpl,hd,hdir,rfl⟩,t1⟩
 ·have te:=TErr_of hz
  have hE:makeE T path=(placeT T path).1:=if_pos hz
  have HR:=HSame.out (by rw [hE]; exact hz) w1 t1
  have HR:=hid HR
  have HZ:=hid hz
  have HE:=hid hE
  clear hz t1 hE
  go_wp2_with fail
  go_returns
  rw [makeK_err HE.out HZ.out,HE.out]
  exact ⟨by rw [te]; rfl,HR.out⟩
 ·have h1:=H.out.turned t1 (fun _ _ => id)
  have H1:=hid h1
  have ln:=look_name ((h1.nd d p hd).dir hdir) s
  have hh:=h1.hdr
  have hds:dsT T d=p.ds:=by unfold dsT; rw [hd]; rfl
  have HT1:=hid t1
  have HDr:=hid hdir
  have HD:=hid hd
  have HSn:=hid (placeT_name hpl)
  cases hms:mget p.ds s with
  | some m =>
   have hE:makeE T path=9:=by
    unfold makeE
    rw [hpl,if_neg (by simp)]
    simp only
    rw [hds,hms]; rfl
   have HR:=hid (HSame.out (by rw [hE]; decide) w1 t1)
   rw [hms] at ln
   simp only [Option.getD_some,Option.isSome_some] at ln
   have HE:=hid hE
   clear h1 hds hms t1 hpl hd hdir hE
   go_wp2_with fail
   go_returns
   rw [makeK_err HE.out (by decide),HE.out]
   exact ⟨rfl,HR.out⟩
  | none =>
   rw [hms] at ln
   simp only [Option.getD_none,Option.isSome_none] at ln
   have hl:∀ ty,(Builtin.len_ #[73] ty #[.map (some nm)]).run Tryz.prog w1=.ok (.int .i64 T.length) w1:=fun ty => by
    have h2:=h1.mp.run_len Tryz.underlying73 ty
    unfold keysB at h2
    rw [List.length_map] at h2
    exact h2
   have hsz:=HOk.out.size
   by_cases hfull:60≤T.length
   ·have hfull':(60:Int)≤T.length:=by omega
    have hE:makeE T path=12:=by
     unfold makeE
     rw [hpl,if_neg (by simp)]
     simp only
     rw [hds,hms,if_neg (by simp),if_pos hfull]
    have HR:=hid (HSame.out (by rw [hE]; decide) w1 t1)
    have HE:=hid hE
    clear h1 hds hms t1 hpl hd hdir hfull hE
    go_wp2_with fail
    go_returns
    rw [makeK_err HE.out (by decide),HE.out]
    exact ⟨rfl,HR.out⟩
   ·have hfull':¬ (60:Int)≤T.length:=by omega
    have hE:makeE T path=0:=by
     unfold makeE
     rw [hpl,if_neg (by simp)]
     simp only
     rw [hds,hms,if_neg (by simp),if_neg hfull]
    have hT:makeT T path b=nameT (mput T (freeT T) (newN b)) d (mput p.ds s (freeT T)):=by
     unfold makeT
     rw [if_pos hE,hpl]
     simp only
     rw [hds]
    obtain ⟨f1,f60,fnone,fall⟩:=freeT_spec HOk.out (by omega)
    obtain ⟨K,hK⟩:∃ K,freeT T=K:=⟨_,rfl⟩
    rw [hK] at f1 f60 fnone fall hT
    have HK:=hid hK
    have HT:=hid hT
    have HMs:=hid hms
    have HFn:=hid fnone
    have HFa:=hid fall
    have HLk:Hid (∀ k:Nat,1≤k→k < K→∃ b,(Instr.lookup 73 (.map (some nm)) (.int .i64 k) false).run Tryz.prog w1=.ok (.pointer (some ⟨b,0,none⟩)) w1):=hid (fun k h2 h3 => by
     obtain ⟨q,hq⟩:=Option.isSome_iff_exists.1 (fall k h2 h3)
     exact ⟨_,h1.look hq⟩)
    have lkK:=h1.looknone fnone
    have HLen:Hid (T.length < 60):=hid (by omega)
    have HE:=hid hE
    clear h1 hds hms t1 hpl hd hdir hfull hK hT fnone fall hE
    go_wp2_with fail
    go_loopg [13] (K - 1) (fun gl i wr => ∃ k:Nat,k+gl=K∧1≤k∧i=.int .i64 k∧wr=w1)
    case atStart => exact ⟨1,by omega,by omega,rfl,rfl⟩
    case round =>
     obtain ⟨k,hk,hk1,rfl,hwr⟩:=hrel
     subst wr
     by_cases hkl:k < K
     ·obtain ⟨b',lk⟩:=HLk.out k hk1 hkl
      clear lkK
      go_wp2_with fail
      go_roundg (gk - 1)
      case measure => omega
      case rel => exact ⟨k+1,by omega,by omega,by go_num,rfl⟩
     ·obtain rfl:k=K:=by omega
      clear hkl hk HLk
      have nd1:=ND.out.turned HT1.out id (fun _ => id)
      have c2:=nd1.c2
      have f2:=nd1.fz 2
      simp only at c2
      have hcn:c≠nm:=fun e => HC.out (e ▸ .inr (.inl rfl))
      have hcd:c≠D d:=fun e => HC.out (e ▸ .inr (.inr ⟨d,p,HD.out,.inr ⟨HDr.out,rfl⟩⟩))
      have t12:Turn (fun j => j=c) w1 (w1.setCell ⟨c,2,none⟩ (.int .i64 1)):=(Turn.refl _ _).setCell _ _ (fun _ => rfl)
      have nd2:=nd1.setNames (z:=1) (c:=1) (fun e => fun e2 => (HDn.out e).2 e2.symm) (by omega)
      obtain ⟨w3,hrun3,hm3,t3⟩:=(H1.out.mp.turned t12 (fun e => hcn e.symm)).run_update (P:=Tryz.prog) keyI Tryz.underlying73 Tryz.underlying3 (k:Int) c
      replace hrun3:(Instr.mapUpdate 73 (.map (some nm)) (.int .i64 k) (.pointer (some ⟨c,0,none⟩))).run Tryz.prog (w1.setCell ⟨c,2,none⟩ (.int .i64 1))=.ok () w3:=hrun3
      have ho:=H1.out.own d p HD.out
      have hnd:nm≠D d:=fun e => (ho.2 HDr.out).2 e.symm
      have hdm:=(((H1.out.nd d p HD.out).dir HDr.out).turned t12 (fun e => hcd e.symm)).turned t3 (fun e => hnd e.symm)
      obtain ⟨w4,hrun4,hm4,t4⟩:=hdm.run_update (P:=Tryz.prog) keyS Tryz.underlying70 Tryz.underlying9 s (k:Int)
      replace hrun4:(Instr.mapUpdate 70 (.map (some (D d))) (.string s) (.int .i64 k)).run Tryz.prog w3=.ok () w4:=hrun4
      have hh2:=(t12.cell (a:=⟨tb,0,none⟩) (lt_of_cell hh) (fun e => HC.out (e ▸ .inl rfl))).trans hh
      have hin3:TreeIn w3 tb nm (mput T (k:Int) (newN b)) (updI B k c) (updI D k dn):=H1.out.add HFn.out (nd2.turned t3 hcn (fun e e2 => (HDn.out e).1 (e2 ▸ .inr (.inl rfl)))) hm3 ((t12.mono (fun _ _ h => .inr h)).trans (t3.mono (fun _ _ h => .inl h))) HC.out HDn.out
      have hdk:d≠(k:Int):=fun e => by have:=HD.out; rw [e,HFn.out] at this; cases this
      have hd3:mget (mput T (k:Int) (newN b)) d=some p:=by rw [mget_mput,if_neg hdk]; exact HD.out
      have hBd:updI B k c d=B d:=if_neg hdk
      have hDd:updI D k dn d=D d:=if_neg hdk
      have hnd3:=hin3.nd d p hd3
      rw [hBd,hDd] at hnd3
      have hin4:TreeIn w4 tb nm (mput (mput T (k:Int) (newN b)) d { p with ds:=mput p.ds s (k:Int) }) (updI B k c) (updI D k dn):=hin3.put hd3 rfl (by rw [hBd,hDd]; exact hnd3.setDs HDr.out hm4 t4 (H1.out.apart HD.out HDr.out)) (by rw [hBd,hDd]; exact t4.mono (fun _ _ e => .inr ⟨HDr.out,e⟩))
      have hok4:=HOk.out.make_ HD.out HDr.out HFn.out ⟨by omega,by omega⟩ HLen.out HMs.out HSn.out b
      have hTT:makeT T path b=mput (mput T (k:Int) (newN b)) d { p with ds:=mput p.ds s (k:Int) }:=by
       rw [HT.out]
       unfold nameT
       rw [hd3]; rfl
      have hfin:MakeTo tb c dn b (TrFoot tb nm T B D) w w4 (makeT T path b):=by
       rw [hTT]
       refine ⟨_,⟨nm,_,_,hin4,hok4,rfl⟩,(HT1.out.mono (fun _ _ h => h.elim)).trans (((t12.mono (fun _ _ h => .inr h)).trans (t3.mono (fun _ _ h => .inl (by rw [h]; exact .inr (.inl rfl))))).trans (t4.mono (fun _ _ h => .inl (by rw [h]; exact .inr (.inr ⟨d,p,HD.out,.inr ⟨HDr.out,rfl⟩⟩))))),fun j hj => ?_⟩
       rw [foot_put (p':={ p with ds:=mput p.ds s (k:Int) }) hd3 rfl] at hj
       exact foot_add HFn.out j hj
      have HFin:=hid hfin
      clear nd1 hcn hcd t12 nd2 hm3 t3 ho hnd hdm hm4 t4 hin3 hdk hd3 hBd hDd hnd3 hin4 hok4 hTT hfin
      go_wp2_with fail
      go_returns
      rw [makeK_ok HE.out,HE.out,HK.out]
      exact ⟨rfl,HFin.out⟩
end
section
variable {w w' w1 w2 w3:World} {tb nm b d c dn:Nat} {T T1 T2:PT} {B D:Int→Nat} {F:Nat→Prop} {p p' q nn:PN} {n k:Int} {s:ByteArray}
def updN (T:PT) (n:Int) (f:PN→PN):PT:=(mget T n).elim T fun p => mput T n (f p)
theorem updN_is (h:mget T n=some p) (f:PN→PN):updN T n f=mput T n (f p):=by unfold updN; rw [h]; rfl
theorem TreeIn.name (h:TreeIn w tb nm T B D) (hd:mget T k=some p) (hdir:p.isDir=true) {ds:List (ByteArray×Int)} (hm:MapIs w' (D k) .string encS encI ds) (t:Turn (fun j => j=D k) w w'):TreeIn w' tb nm (mput T k { p with ds:=ds }) B D :=
 h.put hd rfl ((h.nd k p hd).setDs hdir hm t (h.apart hd hdir)) (t.mono (fun _ _ e => .inr ⟨hdir,e⟩))
theorem TreeIn.count (h:TreeIn w tb nm T B D) (hn:mget T n=some q) {z:Int} {c:Nat} (hz:z=c):TreeIn (w.setCell ⟨B n,2,none⟩ (.int .i64 z)) tb nm (mput T n { q with names:=c }) B D :=
 h.put hn rfl ((h.nd n q hn).setNames (h.apart hn) hz) ((Turn.refl _ _).setCell _ _ (fun _ => .inl rfl))
theorem foot_name (hd:mget T k=some p) {ds:List (ByteArray×Int)}:TrFoot tb nm (mput T k { p with ds:=ds }) B D=TrFoot tb nm T B D:=foot_put hd rfl
theorem foot_count (hd:mget T k=some p) {c:Nat}:TrFoot tb nm (mput T k { p with names:=c }) B D=TrFoot tb nm T B D:=foot_put hd rfl
def unlinkE (T:PT) (path:ByteArray):Int :=
 if (placeT T path).1≠0 then (placeT T path).1 else (mget (dsT T (placeT T path).2.1) (placeT T path).2.2).elim 7 fun n => if dsT T n≠[] then 6 else 0
def unlinkT (T:PT) (path:ByteArray):PT :=
 if unlinkE T path=0 then (mget (dsT T (placeT T path).2.1) (placeT T path).2.2).elim T fun n =>
  (mget T n).elim T fun q => goneT (mput (updN T (placeT T path).2.1 fun p => { p with ds:=mdel p.ds (placeT T path).2.2 }) n { q with names:=q.names - 1 }) n { q with names:=q.names - 1 }
 else T
theorem len_nil_map (w:World) (ty:TypeId):(Builtin.len_ #[70] ty #[.map none]).run Tryz.prog w=.ok (.int .i64 0) w:=by kernel_rfl
theorem unlink_is (h:TreeIs w tb T F) (path:ByteArray) (hs:path.size < 4294967281) (hb:∀ n p,mget T n=some p→p.names < 1000000∧p.ds.length < 1000000) :
  Calls Tryz.prog 18 #[.pointer (some ⟨tb,0,none⟩),.string path] w fun e w' => e=.returned (TErr (unlinkE T path))∧TreeTo tb F w w' (unlinkT T path):=by
 have HI:=hid h
 have HB:=hid hb
 have HSame:Hid (unlinkE T path≠0→∀ w',Turn (fun _ => False) w w'→TreeTo tb F w w' (unlinkT T path)):=hid (fun hz w' tt => by
  have:unlinkT T path=T:=if_neg hz
  rw [this]
  exact TreeTo.same HI.out tt)
 obtain ⟨nm,B,D,h0,hok,hF⟩:=h
 have H:=hid h0
 have HOk:=hid hok
 have HF:=hid hF
 have HP:=hid (place_is h0 hok path hs)
 clear h0 hok hF hb
 go_enter Tryz.func18,Tryz.ntmps18
 go_wp2_with fail
 refine HP.out.mono ?_
 rintro e w1 ⟨⟨hz,rfl⟩ | ⟨d,p,s,hpl,hd,hdir,rfl⟩,t1⟩
 ·have te:=TErr_of hz
  have hE:unlinkE T path=(placeT T path).1:=if_pos hz
  have HR:=hid (HSame.out (by rw [hE]; exact hz) w1 t1)
  have HE:=hid hE
  clear hz hE t1
  go_wp2_with fail
  go_returns
  rw [HE.out]
  exact ⟨congrArg Ending.returned te.symm,HR.out⟩
 ·have h1:=H.out.turned t1 (fun _ _ => id)
  have H1:=hid h1
  have HT1:=hid t1
  have hds:dsT T d=p.ds:=by unfold dsT; rw [hd]; rfl
  have hdm:=(h1.nd d p hd).dir hdir
  have ln:=look_name hdm s
  have hh:=h1.hdr
  have HD:=hid hd
  have HDr:=hid hdir
  have HPl:=hid hpl
  have HDs:=hid hds
  cases hms:mget p.ds s with
  | none =>
   rw [hms] at ln
   simp only [Option.getD_none,Option.isSome_none] at ln
   have hE:unlinkE T path=7:=by
    unfold unlinkE
    rw [hpl,if_neg (by simp)]
    simp only
    rw [hds,hms]; rfl
   have HR:=hid (HSame.out (by rw [hE]; decide) w1 t1)
   have HE:=hid hE
   clear h1 hds hdm hms t1 hpl hd hdir hE
   go_wp2_with fail
   go_returns
   rw [HE.out]
   exact ⟨rfl,HR.out⟩
  | some n =>
   rw [hms] at ln
   simp only [Option.getD_some,Option.isSome_some] at ln
   obtain ⟨q,hq⟩:=HOk.out.link d p hd s n hms
   have lk:=h1.look hq
   have nd:=h1.nd n q hq
   have c0:=nd.c0
   have hdq:dsT T n=q.ds:=by unfold dsT; rw [hq]; rfl
   have hbq:=HB.out n q hq
   have hlen:∃ m:Option Nat,w1.cell? ⟨B n,0,none⟩=some (.map m)∧∀ ty,(Builtin.len_ #[70] ty #[.map m]).run Tryz.prog w1=.ok (.int .i64 (q.ds.length:Int)) w1:=by
    cases hqd:q.isDir with
    | true =>
     rw [hqd] at c0
     exact ⟨_,c0,fun ty => (nd.dir hqd).run_len Tryz.underlying70 ty⟩
    | false =>
     rw [hqd] at c0
     exact ⟨_,c0,fun ty => by rw [HOk.out.file n q hq hqd]; exact len_nil_map w1 ty⟩
   obtain ⟨m,cm,hl⟩:=hlen
   have HQ:=hid hq
   have HMs:=hid hms
   have hE0:unlinkE T path=if dsT T n≠[] then 6 else 0:=by
    unfold unlinkE
    rw [hpl,if_neg (by simp)]
    simp only
    rw [hds,hms]; rfl
   by_cases h0:q.ds.length=0
   ·have hnil:q.ds=[]:=List.length_eq_zero_iff.1 h0
    have hE:unlinkE T path=0:=by rw [hE0,if_neg (by rw [hdq]; exact fun e => e hnil)]
    have hne:n≠d:=fun e => by
     rw [e,hd] at hq
     cases hq
     rw [hnil] at hms
     cases hms
    have hT:unlinkT T path=goneT (mput (mput T d { p with ds:=mdel p.ds s }) n { q with names:=q.names - 1 }) n { q with names:=q.names - 1 }:=by
     unfold unlinkT
     rw [if_pos hE,hpl]
     simp only
     rw [hds,hms,updN_is hd]
     show (mget T n).elim T _=_
     rw [hq]; rfl
    have hl0:∀ ty,(Builtin.len_ #[70] ty #[.map m]).run Tryz.prog w1=.ok (.int .i64 0) w1:=fun ty => by rw [hl ty,h0]; rfl
    obtain ⟨w3,hrun,hm3,t3⟩:=hdm.run_delete (P:=Tryz.prog) (ty:=0) keyS Tryz.underlying70 Tryz.underlying9 s
    replace hrun:(Builtin.delete_ #[70,9] 0 #[.map (some (D d)),.string s]).run Tryz.prog w1=.ok (.tuple #[]) w3:=hrun
    have hin3:=h1.name hd hdir hm3 t3
    have hq3:mget (mput T d { p with ds:=mdel p.ds s }) n=some q:=by rw [mget_mput,if_neg hne]; exact hq
    have hh3:=hin3.hdr
    have lk3:=hin3.look hq3
    have c23:=(hin3.nd n q hq3).c2
    have f23:=(hin3.nd n q hq3).fz 2
    have hnm:1≤q.names:=by
     have:=HOk.out.named hd hms
     have:=HOk.out.cnt n q hq
     omega
    have hwr:wrap64 ((q.names:Int) - 1)=q.names - 1:=IntWalk.wrap64_in _ (by omega)
    have hin4:=hin3.count hq3 (z:=(q.names:Int) - 1) (c:=q.names - 1) (by omega)
    have hok4:=HOk.out.unlink_ hd hdir hq hne hms
    have HG:=hid (goes_is hin4 hok4 (n:=n) (p:={ q with names:=q.names - 1 }) (by rw [mget_mput,if_pos rfl]) hnil)
    have htw:Turn F w (w3.setCell ⟨B n,2,none⟩ (.int .i64 ((q.names:Int) - 1))):=by
     refine (HT1.out.mono (fun _ _ h => h.elim)).trans ((t3.mono (fun j _ e => ?_)).trans ((Turn.refl _ _).setCell _ _ (fun _ => ?_)))
     ·rw [HF.out]; exact .inr (.inr ⟨d,p,hd,.inr ⟨hdir,e⟩⟩)
     ·rw [HF.out]; exact .inr (.inr ⟨n,q,hq,.inl rfl⟩)
    have HTw:=hid htw
    have HT:=hid hT
    have HFt:Hid (∀ k,TrFoot tb nm (mput (mput T d { p with ds:=mdel p.ds s }) n { q with names:=q.names - 1 }) B D k→F k∨w.heap.size≤k):=hid (fun k hk => by
     rw [foot_count hq3,foot_name hd] at hk
     rw [HF.out]; exact .inl hk)
    have HE:=hid hE
    clear h1 hds hdm nd hms t1 hpl hd hdir hE hE0 hne hT hm3 t3 hin3 hq3 hin4 hok4 htw c0 hdq hl h0 hnil hq hbq
    go_wp2_with fail
    refine HG.out.mono ?_
    rintro e w5 ⟨rfl,hto⟩
    have HTo:=hid hto
    clear hto
    go_wp2_with fail
    go_returns
    rw [HE.out,HT.out]
    exact ⟨rfl,HTo.out.then_ HTw.out HFt.out⟩
   ·have hE:unlinkE T path=6:=by rw [hE0,if_pos (by rw [hdq]; exact fun e => h0 (by rw [e]; rfl))]
    have HR:=hid (HSame.out (by rw [hE]; decide) w1 t1)
    have HE:=hid hE
    have hpos:(0:Int) < q.ds.length:=by omega
    clear h1 hds hdm nd hms t1 hpl hd hdir hE hE0 c0 hdq h0 hq
    go_wp2_with fail
    go_returns
    rw [HE.out]
    exact ⟨rfl,HR.out⟩
end
section
variable {w w' w1 w2 w3:World} {tb nm b d c dn:Nat} {T T1 T2:PT} {B D:Int→Nat} {F:Nat→Prop} {p p' nn:PN} {n k:Int}
def rootT:PT:=[(0,⟨true,[],ByteArray.empty,1,0⟩)]
theorem rootT_ok:TOk rootT:=by
 have hget:∀ n p,mget rootT n=some p→n=0∧p=⟨true,[],ByteArray.empty,1,0⟩:=fun n p hp => by
  have h:=mem_of_mget hp
  unfold rootT at h
  have h:=List.mem_singleton.1 h
  cases h
  exact ⟨rfl,rfl⟩
 refine ⟨⟨_,rfl,rfl⟩,by simp [rootT,MNodup],fun n p hp => ?_,fun n p hp s m hm => ?_,fun n p hp hf => ?_,fun n p hp => ?_,fun n p hp => ?_,fun n p hp => ?_,by decide,fun n p hp => ?_⟩
 all_goals obtain ⟨rfl,rfl⟩:=hget n p hp
 ·omega
 ·cases hm
 ·cases hf
 ·rfl
 ·exact List.nodup_nil
 ·exact Nat.zero_le _
 ·intro e he; cases he
def TreeNewIs (w:World) (e:Ending) (w':World):Prop:=∃ tb F,e=.returned (.pointer (some ⟨tb,0,none⟩))∧TreeIs w' tb rootT F∧Turn (fun _ => False) w w'∧∀ k,F k→w.heap.size≤k
theorem treeNew_is (w:World):Calls Tryz.prog 4 #[] w (TreeNewIs w):=by
 have hmm:=@run_makeMap Tryz.prog
 obtain ⟨W2,hW2⟩:∃ W2,(w.alloc (.map #[] 0)).alloc (.map #[] 0)=W2:=⟨_,rfl⟩
 have hs0:(w.alloc (.map #[] 0)).heap.size=w.heap.size+1:=World.size_alloc _ _
 have hs2:W2.heap.size=w.heap.size+2:=by rw [← hW2,World.size_alloc,hs0]
 obtain ⟨N,hN⟩:∃ N,Obj.cells #[.map (some (w.heap.size+1)),.string ByteArray.empty,.int .i64 1,.int .i64 0] 72=N:=⟨_,rfl⟩
 have t0:Turn (fun _ => False) w (w.alloc (.map #[] 0)):=(Turn.refl _ _).alloc _
 have t1:Turn (fun _ => False) (w.alloc (.map #[] 0)) W2:=by rw [← hW2]; exact (Turn.refl _ _).alloc _
 have t2:Turn (fun _ => False) W2 (W2.alloc N):=(Turn.refl _ _).alloc _
 have HM:Hid (MapIs (W2.alloc N) w.heap.size (.int .i64) encI ptrV ([]:List (Int×Nat))):=hid (((MapIs.made w).turned t1 id).turned t2 id)
 have hmd:MapIs W2 (w.heap.size+1) .string encS encI ([]:List (ByteArray×Int)):=by
  rw [← hW2,← hs0]; exact MapIs.made _
 have HMd:=hid (hmd.turned t2 id)
 have HNd:Hid (NdAt (W2.alloc N) (w.heap.size+2) (w.heap.size+1) ⟨true,[],ByteArray.empty,1,0⟩):=hid (by
  rw [← hs2]
  refine ⟨?_,?_,?_,?_,fun i => by rw [← hN]; simp,fun _ => by rw [← hs2] at *; exact HMd.out⟩
  ·rw [← hN]; exact World.cell?_alloc_new _ _ _ _
  ·rw [← hN]; exact World.cell?_alloc_new _ _ _ _
  ·rw [← hN]; exact World.cell?_alloc_new _ _ _ _
  ·rw [← hN]; exact World.cell?_alloc_new _ _ _ _)
 have HT0:=hid ((t0.trans t1).trans t2)
 have HS:=hid hs2
 have HW2:=hid hW2
 have HN:=hid hN
 obtain ⟨w5,hrun,hm5,t5⟩:=HM.out.run_update (P:=Tryz.prog) keyI Tryz.underlying73 Tryz.underlying3 (0:Int) (w.heap.size+2)
 have hC:W2.alloc N=((w.alloc (.map #[] 0)).alloc (.map #[] 0)).alloc (.cells #[.map (some (w.heap.size+1)),.string ⟨#[]⟩,.int .i64 1,.int .i64 0] 72):=by rw [← hN,← hW2]; rfl
 replace hrun:(Instr.mapUpdate 73 (.map (some w.heap.size)) (.int .i64 0) (.pointer (some ⟨w.heap.size+1+1,0,none⟩))).run Tryz.prog (((w.alloc (.map #[] 0)).alloc (.map #[] 0)).alloc (.cells #[.map (some (w.heap.size+1)),.string ⟨#[]⟩,.int .i64 1,.int .i64 0] 72))=.ok () w5:=by rw [← hC]; exact hrun
 have hs5:w.heap.size+3≤w5.heap.size:=by
  have h1:=t5.size
  rw [World.size_alloc,hs2] at h1
  omega
 have t6:Turn (fun _ => False) w5 (w5.alloc (.cells #[.map (some w.heap.size)] 75)):=(Turn.refl _ _).alloc _
 have hin:TreeIn (w5.alloc (.cells #[.map (some w.heap.size)] 75)) w5.heap.size w.heap.size rootT (fun _ => w.heap.size+2) (fun _ => w.heap.size+1):=by
  have hget:∀ n p,mget rootT n=some p→n=0∧p=⟨true,[],ByteArray.empty,1,0⟩:=fun n p hp => by
   have h:=mem_of_mget hp
   unfold rootT at h
   have h:=List.mem_singleton.1 h
   cases h
   exact ⟨rfl,rfl⟩
  refine ⟨World.cell?_alloc_new _ _ _ _,hm5.turned t6 id,fun n p hp => ?_,fun n m p q hp hq hne => ?_,fun n m p q hp hq _ _ hne => ?_,fun n m p q _ _ _ => by omega,fun n p hp => ⟨⟨by omega,by omega⟩,fun _ => ⟨by omega,by omega⟩⟩,by omega⟩
  ·obtain ⟨_,rfl⟩:=hget n p hp
   exact (HNd.out.turned t5 (by omega) (fun _ => by omega)).turned t6 id (fun _ => id)
  ·exact absurd ((hget n p hp).1.trans (hget m q hq).1.symm) hne
  ·exact absurd ((hget n p hp).1.trans (hget m q hq).1.symm) hne
 have HIn:=hid hin
 have HT6:Hid (Turn (fun _ => False) w (w5.alloc (.cells #[.map (some w.heap.size)] 75))):=hid ((HT0.out.trans' (t5.trans (t6.mono (fun _ _ h => h.elim))) (fun k hk e => by omega)))
 have HS5:=hid hs5
 clear t0 t1 t2 hmd hs0 hs2 hW2 hN hm5 t5 hC t6 hin hs5
 go_enter Tryz.func4,Tryz.ntmps4
 go_wp2_with fail
 go_returns
 refine ⟨_,_,rfl,⟨_,_,_,HIn.out,rootT_ok,rfl⟩,HT6.out,fun k hk => ?_⟩
 have h5:=HS5.out
 rcases hk with rfl | rfl | ⟨n,p,_,e | ⟨_,e⟩⟩
 ·omega
 ·omega
 ·have e:k=w.heap.size+2:=e
  omega
 ·have e:k=w.heap.size+1:=e
  omega
def nodeObj (dir:Option Nat):Obj:=.cells #[.map dir,.string ⟨#[]⟩,.int .i64 0,.int .i64 0] 72
theorem nodeObj_at (w:World) (dir:Option Nat) (d:Nat) (b:Bool) (hb:dir=if b then some d else none) (hd:b=true→MapIs w d .string encS encI ([]:List (ByteArray×Int))):NdAt (w.alloc (nodeObj dir)) w.heap.size d ⟨b,[],ByteArray.empty,0,0⟩:=by
 subst hb
 exact ⟨World.cell?_alloc_new _ _ _ _,World.cell?_alloc_new _ _ _ _,World.cell?_alloc_new _ _ _ _,World.cell?_alloc_new _ _ _ _,fun i => by unfold nodeObj; simp,fun e => (hd e).turned (S:=fun _ => False) ((Turn.refl _ _).alloc _) id⟩
theorem MakeTo.to {b:Bool} (h:MakeTo tb c dn b F w1 w2 T2) (t:Turn (fun _ => False) w w1) (hc:w.heap.size≤c) (hd:b=true→w.heap.size≤dn):TreeTo tb F w w2 T2:=by
 obtain ⟨F',a,t2,hF⟩:=h
 refine ⟨F',a,(t.mono (fun _ _ h => h.elim)).trans' t2 (fun k hk e => e.elim id (fun e => by omega)),fun k hk => ?_⟩
 rcases hF k hk with h1 | h1 | ⟨h1,h2⟩
 ·exact .inl h1
 ·exact .inr (by omega)
 ·exact .inr (by rw [h2]; exact hd h1)
theorem create_is (h:TreeIs w tb T F) (path:ByteArray) (hs:path.size < 4294967281) :
  Calls Tryz.prog 53 #[.pointer (some ⟨tb,0,none⟩),.string path] w fun e w' => e=.returned (.tuple #[.int .i64 (makeK T path),TErr (makeE T path)])∧TreeTo tb F w w' (makeT T path false):=by
 have t1:Turn (fun _ => False) w (w.alloc (nodeObj none)):=(Turn.refl _ _).alloc _
 have HM:=hid (make_is (c:=w.heap.size) (dn:=0) (h.turned t1 (fun _ _ => id)) path hs false (nodeObj_at w none 0 false rfl (fun e => by cases e)) (fun hf => by have:=h.foot_lt _ hf; omega) (fun e => by cases e))
 have HT:=hid t1
 unfold nodeObj at HM HT
 clear h t1
 go_enter Tryz.func53,Tryz.ntmps53
 go_wp2_with fail
 refine HM.out.mono ?_
 rintro e w2 ⟨rfl,hto⟩
 have HTo:=hid hto
 clear hto
 go_wp2_with fail
 go_returns
 exact ⟨rfl,HTo.out.to HT.out (Nat.le_refl _) (fun e => by cases e)⟩
end
def zerosB (k:Nat):ByteArray:=⟨(Go.Lib.repeatL [0] k).toArray⟩
def zeroByte:ByteArray:=⟨#[0]⟩
theorem repExtra:Go.Proofs.Builder.Extra Tryz.prog laysRepI_ren :=
  { sizeBuilder:=by kernel_rfl
    liesBuilder:=by kernel_rfl
    t5:=by kernel_rfl
    a5:=laysRepI.a5
    z5:=laysRepI.z5
    v5:=laysRepI.v5
    infoByte:=by kernel_rfl
    cellsByte:=by kernel_rfl
    sizeByte:=by kernel_rfl
    neB5:=by decide }
theorem repeat_is (c:Nat) (hc:c≤1000) (w:World):Calls Tryz.prog 84 #[.string zeroByte,.int .i64 c] w fun e w' => e=.returned (.string (zerosB c))∧Turn (fun _ => False) w w':=by
 refine (Any.strings_Repeat laysRepI repExtra zeroByte c w (by omega) (by rw [show zeroByte.size=1 from rfl]; omega)).mono ?_
 rintro e w' ⟨rfl,hb⟩
 exact ⟨rfl,⟨hb.os,hb.tape,hb.output,hb.size,fun k hk _ => hb.block k hk⟩⟩
theorem zerosB_size (k:Nat):(zerosB k).size=k:=by
 rw [Go.Lib.size_eq]
 show (Go.Lib.repeatL [0] k).toArray.toList.length=k
 rw [List.toList_toArray]
 induction k with
 | zero => rfl
 | succ k ih =>
  show ([0] ++ Go.Lib.repeatL [0] k).length=k+1
  rw [List.length_append,ih]
  simp; omega
def padB (d:ByteArray) (a:Nat):ByteArray:=if d.size < a then d ++ zerosB (a - d.size) else d
def putB (y:ByteArray) (a:Nat) (s:ByteArray):ByteArray:=y.extract 0 a ++ s ++ y.extract (min (a+s.size) y.size) y.size
def writeB (d:ByteArray) (a:Nat) (s:ByteArray):ByteArray:=putB (padB d a) a s
theorem append_size (x y:ByteArray):(x ++ y).size=x.size+y.size:=ByteArray.size_append
theorem padB_size (d:ByteArray) (a:Nat):(padB d a).size=max d.size a:=by
 unfold padB
 split
 ·rw [append_size,zerosB_size]; omega
 ·omega
theorem putB_size (y:ByteArray) (a:Nat) (s:ByteArray) (h:a≤y.size):(putB y a s).size=max y.size (a+s.size):=by
 unfold putB
 rw [append_size,append_size,extract_size y 0 a h,extract_size y _ y.size (Nat.le_refl _)]
 omega
theorem writeB_size (d:ByteArray) (a:Nat) (s:ByteArray):(writeB d a s).size=max (max d.size a) (a+s.size):=by
 unfold writeB
 rw [putB_size _ _ _ (by rw [padB_size]; omega),padB_size]
section
variable {w w' w1 w2:World} {tb nm b d:Nat} {T T1 T2:PT} {B D:Int→Nat} {F:Nat→Prop} {p p':PN} {n:Int}
def readB (x:ByteArray) (at' many:Nat):ByteArray:=x.extract (min at' x.size) (min at' x.size+min many (x.size - min at' x.size))
def readE (T:PT) (n at' many:Int):Int:=if fileE T n≠0 then fileE T n else if at' < 0∨many < 0 then 2 else 0
def dataT (T:PT) (n:Int):ByteArray:=(mget T n).elim ByteArray.empty (·.data)
def readT (T:PT) (n at' many:Int):ByteArray:=if readE T n at' many=0 then readB (dataT T n) at'.toNat many.toNat else ByteArray.empty
theorem read_is (h:TreeIs w tb T F) (n at' many:Int) :
  Calls Tryz.prog 66 #[.pointer (some ⟨tb,0,none⟩),.int .i64 n,.int .i64 at',.int .i64 many] w fun e w' => e=.returned (.tuple #[.string (readT T n at' many),TErr (readE T n at' many)])∧Turn (fun _ => False) w w':=by
 obtain ⟨nm,B,D,hin,hok,rfl⟩:=h
 have H:=hid hin
 have HOk:=hid hok
 have HF:=hid (file_is hin n)
 clear hin hok
 go_enter Tryz.func66,Tryz.ntmps66
 go_wp2_with fail
 refine HF.out.mono ?_
 rintro e w1 ⟨⟨hz,rfl⟩ | ⟨p,hn,hd,hz,rfl⟩,hw⟩ <;> subst w1
 ·have te:=TErr_of hz
  have hr:readE T n at' many=fileE T n:=if_pos hz
  have hr2:readT T n at' many=ByteArray.empty:=if_neg (by rw [hr]; exact hz)
  clear hz
  go_wp2_with fail
  go_returns
  rw [hr2,hr]
  exact ⟨by rw [te]; rfl,Turn.refl _ _⟩
 ·have c1:=(H.out.nd n p hn).c1
  have hdt:dataT T n=p.data:=by unfold dataT; rw [hn]; rfl
  have hsz:=HOk.out.data n p hn
  have h00:¬ (fileE T n≠0):=fun e => e hz
  clear hn hd hz
  by_cases ha:at' < 0
  ·have hr:readE T n at' many=2:=by unfold readE; rw [if_neg h00,if_pos (.inl ha)]
   have hr2:readT T n at' many=ByteArray.empty:=if_neg (by rw [hr]; decide)
   clear h00 hdt
   go_wp2_with fail
   go_returns
   rw [hr2,hr]
   exact ⟨rfl,Turn.refl _ _⟩
  ·by_cases hm:many < 0
   ·have hr:readE T n at' many=2:=by unfold readE; rw [if_neg h00,if_pos (.inr hm)]
    have hr2:readT T n at' many=ByteArray.empty:=if_neg (by rw [hr]; decide)
    clear h00 hdt
    go_wp2_with fail
    go_returns
    rw [hr2,hr]
    exact ⟨rfl,Turn.refl _ _⟩
   ·have hr:readE T n at' many=0:=by unfold readE; rw [if_neg h00,if_neg (by omega)]
    have hr2:readT T n at' many=readB p.data at'.toNat many.toNat:=by unfold readT; rw [if_pos hr,hdt]
    clear h00 hdt
    obtain ⟨A,rfl⟩:∃ A:Nat,at'=A:=⟨at'.toNat,by omega⟩
    obtain ⟨M,rfl⟩:∃ M:Nat,many=M:=⟨many.toNat,by omega⟩
    obtain ⟨x,hx⟩:∃ x,p.data=x:=⟨_,rfl⟩
    rw [hx] at c1 hsz hr2
    clear hx
    go_wp2_with fail
    obtain ⟨a,haa⟩:∃ a:Nat,min A x.size=a:=⟨_,rfl⟩
    obtain ⟨r,hrr⟩:∃ r:Nat,x.size - a=r:=⟨_,rfl⟩
    obtain ⟨k,hkk⟩:∃ k:Nat,min M r=k:=⟨_,rfl⟩
    obtain ⟨hi,hhi⟩:∃ hi:Nat,a+k=hi:=⟨_,rfl⟩
    have e1:min (A:Int) (x.size:Int)=a:=by omega
    have q1:IntKind.i64.wrap ((x.size:Int) - a)=r:=by rw [IntWalk.i64_in _ (by omega)]; omega
    have q2:min (M:Int) (r:Int)=k:=by omega
    have q3:IntKind.i64.wrap ((a:Int)+k)=hi:=by rw [IntWalk.i64_in _ (by omega)]; omega
    have q4:a≤hi:=by omega
    have q5:hi≤x.size:=by omega
    have HFin:Hid (x.extract a hi=readT T n A M):=hid (by
     rw [hr2]
     unfold readB
     simp only [Int.toNat_natCast]
     rw [haa,hrr,hkk,hhi])
    simp only [e1]
    clear hr2 haa hrr hkk hhi e1
    go_quiet (fail)
    go_wp2_with fail
    go_returns
    rw [hr]
    exact ⟨by rw [HFin.out]; rfl,(Turn.refl _ _).drewN _⟩
theorem TreeTo.also {w3:World} (h:TreeTo tb F w w1 T1) (t:Turn (fun _ => False) w1 w3):TreeTo tb F w w3 T1:=by
 obtain ⟨F',a,b,c⟩:=h
 exact ⟨F',a.turned t (fun _ _ => id),b.trans' t (fun k _ h => h.elim),c⟩
def setDataT (T:PT) (n:Int) (x:ByteArray):PT:=(mget T n).elim T fun p => mput T n { p with data:=x }
theorem setDataT_is (hn:mget T n=some p) (x:ByteArray):setDataT T n x=mput T n { p with data:=x }:=by unfold setDataT; rw [hn]; rfl
def writeE (T:PT) (n at':Int) (s:ByteArray):Int:=if fileE T n≠0 then fileE T n else if at' < 0 then 2 else if 200 < s.size∨200 - (s.size:Int) < at' then 4 else 0
def writeT (T:PT) (n at':Int) (s:ByteArray):PT:=if writeE T n at' s=0∧s.size≠0 then setDataT T n (writeB (dataT T n) at'.toNat s) else T
theorem write_nums {x s y:ByteArray} {a:Nat} (hy:padB x a=y) (hsz:x.size≤200) (hl:s.size≤200) (hl2:a+s.size≤200) :
  ∃ hi lo:Nat,IntKind.i64.wrap ((a:Int)+s.size)=hi∧wrap64 ((a:Int)+s.size)=hi∧min (hi:Int) (y.size:Int)=lo∧a≤y.size∧lo≤y.size∧(writeB x a s).size≤200∧y.extract 0 a ++ s ++ y.extract lo y.size=writeB x a s∧a+s.size≤1000∧a+s.size+(y.size - lo)≤1000:=by
 have hys:=padB_size x a
 rw [hy] at hys
 have q3:a≤y.size:=by rw [hys]; exact Nat.le_max_right _ _
 have hy2:y.size≤200:=by rw [hys]; exact Nat.max_le.2 ⟨hsz,by omega⟩
 clear hys
 refine ⟨a+s.size,min (a+s.size) y.size,by rw [IntWalk.i64_in _ (by omega)]; omega,by rw [IntWalk.wrap64_in _ (by omega)]; omega,by omega,q3,Nat.min_le_right _ _,?_,?_,?_,?_⟩
 ·rw [writeB_size]; exact Nat.max_le.2 ⟨Nat.max_le.2 ⟨hsz,by omega⟩,hl2⟩
 ·unfold writeB putB; rw [hy]
 ·omega
 ·omega
theorem write_is (h:TreeIs w tb T F) (n at':Int) (s:ByteArray) (hss:s.size≤4294967281) :
  Calls Tryz.prog 70 #[.pointer (some ⟨tb,0,none⟩),.int .i64 n,.int .i64 at',.string s] w fun e w' => e=.returned (TErr (writeE T n at' s))∧TreeTo tb F w w' (writeT T n at' s):=by
 have HI:=hid h
 obtain ⟨nm,B,D,hin,hok,rfl⟩:=h
 have H:=hid hin
 have HOk:=hid hok
 have HF:=hid (file_is hin n)
 clear hin hok
 go_enter Tryz.func70,Tryz.ntmps70
 go_wp2_with fail
 refine HF.out.mono ?_
 rintro e w1 ⟨⟨hz,rfl⟩ | ⟨p,hn,hd,hz,rfl⟩,hw⟩ <;> subst w1
 ·have te:=TErr_of hz
  have hr:writeE T n at' s=fileE T n:=if_pos hz
  have hr2:writeT T n at' s=T:=if_neg (fun e => by rw [hr] at e; exact hz e.1)
  clear hz hss
  go_wp2_with fail
  go_returns
  rw [hr2,hr]
  exact ⟨congrArg Ending.returned te.symm,TreeTo.same HI.out (Turn.refl _ _)⟩
 ·have nd:=H.out.nd n p hn
  have c1:=nd.c1
  have f1:=nd.fz 1
  have hdt:dataT T n=p.data:=by unfold dataT; rw [hn]; rfl
  have hsz:=HOk.out.data n p hn
  have h00:¬ (fileE T n≠0):=fun e => e hz
  have HN:=hid hn
  clear hn hz nd
  by_cases ha:at' < 0
  ·have hr:writeE T n at' s=2:=by unfold writeE; rw [if_neg h00,if_pos ha]
   have hr2:writeT T n at' s=T:=if_neg (fun e => by rw [hr] at e; cases e.1)
   clear h00 hdt hss
   go_wp2_with fail
   go_returns
   rw [hr2,hr]
   exact ⟨rfl,TreeTo.same HI.out (Turn.refl _ _)⟩
  ·obtain ⟨a,rfl⟩:∃ a:Nat,at'=a:=⟨at'.toNat,by omega⟩
   by_cases hl:200 < s.size
   ·have hr:writeE T n a s=4:=by unfold writeE; rw [if_neg h00,if_neg ha,if_pos (.inl hl)]
    have hr2:writeT T n a s=T:=if_neg (fun e => by rw [hr] at e; cases e.1)
    have hl':(200:Int) < s.size:=by omega
    clear h00 hdt hss
    go_wp2_with fail
    go_returns
    rw [hr2,hr]
    exact ⟨rfl,TreeTo.same HI.out (Turn.refl _ _)⟩
   ·have hl':¬ (200:Int) < s.size:=by omega
    have hw0:wrap64 (200 - (s.size:Int))=200 - s.size:=IntWalk.wrap64_in _ (by omega)
    by_cases hl2:200 - (s.size:Int) < a
    ·have hr:writeE T n a s=4:=by unfold writeE; rw [if_neg h00,if_neg ha,if_pos (.inr hl2)]
     have hr2:writeT T n a s=T:=if_neg (fun e => by rw [hr] at e; cases e.1)
     clear h00 hdt hss
     go_wp2_with fail
     go_returns
     rw [hr2,hr]
     exact ⟨rfl,TreeTo.same HI.out (Turn.refl _ _)⟩
    ·have hr:writeE T n a s=0:=by unfold writeE; rw [if_neg h00,if_neg ha,if_neg (fun e => e.elim hl hl2)]
     by_cases h0:s.size=0
     ·have hr2:writeT T n a s=T:=if_neg (fun e => e.2 h0)
      have he:s.toList.isEmpty=true:=by rw [toList_empty]; exact decide_eq_true h0
      clear h00 hdt hss
      go_wp2_with fail
      go_returns
      rw [hr2,hr]
      exact ⟨rfl,TreeTo.same HI.out (Turn.refl _ _)⟩
     ·have he:s.toList.isEmpty=false:=by rw [toList_empty]; exact decide_eq_false h0
      obtain ⟨x,hx⟩:∃ x,p.data=x:=⟨_,rfl⟩
      have hr2:writeT T n a s=setDataT T n (writeB x a s):=by unfold writeT; rw [if_pos ⟨hr,h0⟩,hdt,hx]; rfl
      rw [hx] at c1 hsz
      have HR2:=hid hr2
      clear h00 hdt hss hx hr2 h0
      go_upto_if 48 with fail
      obtain ⟨y,hy⟩:∃ y,padB x a=y:=⟨_,rfl⟩
      have HY:=hid hy
      have hys:=padB_size x a
      rw [hy] at hys
      have HYs:=hid hys
      have HNm:=hid (write_nums (s:=s) hy hsz (by omega) (by omega))
      clear hy hys
      go_cut [11] (fun v wx => v=.string y∧Hid (Turn (fun _ => False) w wx))
      case first =>
       by_cases hp:x.size < a
       ·have hp':(x.size:Int) < a:=by omega
        have hsub:wrap64 ((a:Int) - x.size)=((a - x.size:Nat):Int):=by rw [IntWalk.wrap64_in _ (by omega)]; omega
        have hRp:=repeat_is (a - x.size) (by omega) w
        have hcast:((a - x.size:Nat):Int)=(a:Int) - x.size:=by omega
        have hyy:y=x ++ zerosB (a - x.size):=by rw [← HY.out]; exact if_pos hp
        have HYY:=hid hyy
        obtain ⟨k,hk⟩:∃ k,a - x.size=k:=⟨_,rfl⟩
        rw [hcast] at hRp
        rw [hk] at hRp HYY
        have HRp:=hid hRp
        have hzs:x.size+(zerosB k).size≤200:=by rw [zerosB_size,← hk]; omega
        clear hyy hp hk hsub hcast hRp
        go_wp2_with fail
        refine HRp.out.mono ?_
        rintro e w2 ⟨rfl,t2⟩
        have HT2:=hid t2
        clear t2
        go_wp2_with fail
        go_meet
        exact ⟨by rw [HYY.out],HT2⟩
       ·have hp':¬ (x.size:Int) < a:=by omega
        have hyy:y=x:=by rw [← HY.out]; exact if_neg hp
        clear hp
        go_wp2_with fail
        go_meet
        exact ⟨by rw [hyy],hid (Turn.refl _ _)⟩
      case rest =>
       obtain ⟨rfl,hT⟩:=hcut
       have c1':=(hT.out.cell (a:=⟨B n,1,none⟩) (lt_of_cell c1) id).trans c1
       have f1':=(hT.out.frozen (a:=⟨B n,1,none⟩) (lt_of_cell c1) id).trans f1
       obtain ⟨hi,lo,q1,q1',q2,q3,q4,hle,hfin,hO,hO2⟩:=HNm.out
       have HLe:=hid hle
       have HFin:=hid hfin
       clear c1 f1 hle hfin hsz hw0 hl hl2 hl' ha HNm HYs
       go_wp2_with fail
       go_region
       all_goals
        go_wp2_with fail
        go_returns
        rw [HR2.out,hr,HFin.out]
        refine ⟨rfl,?_⟩
        rw [setDataT_is HN.out]
        exact ((H.out.turned hT.out (fun _ _ => id)).to (HOk.out.upd (p':={ p with data:=writeB x a s }) HN.out rfl rfl rfl HLe.out) HN.out rfl (((H.out.turned hT.out (fun _ _ => id)).nd n p HN.out).setData (H.out.apart HN.out) _) ((Turn.refl _ _).setCell _ _ (fun _ => .inl rfl))).also (Turn.refl _ _).drew |>.before hT.out
end
def TBnd (T:PT) (k:Nat):Prop:=∀ n p,mget T n=some p→p.names≤k∧p.held≤k∧p.ds.length≤k
section
variable {T:PT} {p q q':PN} {n d z:Int} {s path old:ByteArray} {k k':Nat}
theorem TBnd.mono (h:TBnd T k) (hk:k≤k'):TBnd T k':=fun n p hp => by have:=h n p hp; omega
theorem TBnd.put (h:TBnd T k) (hq:q.names≤k∧q.held≤k∧q.ds.length≤k):TBnd (mput T n q) k:=fun m r hr => by
 rw [mget_mput] at hr
 by_cases e:m=n
 ·rw [if_pos e] at hr; cases hr; exact hq
 ·rw [if_neg e] at hr; exact h m r hr
theorem TBnd.del (h:TBnd T k):TBnd (mdel T n) k:=fun m r hr => by
 rw [mget_mdel] at hr
 by_cases e:m=n
 ·rw [if_pos e] at hr; cases hr
 ·rw [if_neg e] at hr; exact h m r hr
theorem TBnd.updN_ (h:TBnd T k) {f:PN→PN} (hf:∀ p:PN,p.names≤k∧p.held≤k∧p.ds.length≤k→(f p).names≤k+1∧(f p).held≤k+1∧(f p).ds.length≤k+1) (n:Int):TBnd (updN T n f) (k+1):=by
 unfold updN
 cases hn:mget T n with
 | none => exact h.mono (by omega)
 | some p => exact (h.mono (Nat.le_succ k)).put (hf p (h n p hn))
theorem mput_le {κ β:Type} [DecidableEq κ] (m:List (κ×β)) (a:κ) (b:β):(mput m a b).length≤m.length+1:=by
 rw [mput_length]; split <;> omega
theorem mdel_le {κ β:Type} [DecidableEq κ] (m:List (κ×β)) (a:κ):(mdel m a).length≤m.length:=List.length_filter_le _ _
theorem TBnd.root:TBnd rootT 1:=fun n p hp => by
 have h:=mem_of_mget hp
 unfold rootT at h
 have h:=List.mem_singleton.1 h
 cases h
 exact ⟨by decide,by decide,by decide⟩
theorem TBnd.gone (h:TBnd T k):TBnd (goneT T n p) k:=by
 unfold goneT
 split
 ·exact h.del
 ·exact h
theorem TBnd.make (h:TBnd T k) (h1:1≤k) (path:ByteArray) (b:Bool):TBnd (makeT T path b) (k+1):=by
 unfold makeT
 split
 ·have h2:TBnd (mput T (freeT T) (newN b)) k:=h.put ⟨h1,Nat.zero_le _,Nat.zero_le _⟩
  unfold nameT
  cases hn:mget (mput T (freeT T) (newN b)) (placeT T path).2.1 with
  | none => exact h2.mono (by omega)
  | some p =>
   refine (h2.mono (Nat.le_succ k)).put ⟨by have:=h2 _ p hn; simp only; omega,by have:=h2 _ p hn; simp only; omega,?_⟩
   have h3:=mput_le (dsT T (placeT T path).2.1) (placeT T path).2.2 (freeT T:Int)
   have h4:(dsT T (placeT T path).2.1).length≤k:=by
    unfold dsT
    cases hq:mget T (placeT T path).2.1 with
    | none => exact Nat.zero_le _
    | some q => exact (h _ q hq).2.2
   simp only
   omega
 ·exact h.mono (by omega)
theorem TBnd.setData (h:TBnd T k) (n:Int) (x:ByteArray):TBnd (setDataT T n x) k:=by
 unfold setDataT
 cases hn:mget T n with
 | none => exact h
 | some p => exact h.put (h n p hn)
theorem TBnd.write (h:TBnd T k) (n z:Int) (s:ByteArray):TBnd (writeT T n z s) k:=by
 unfold writeT
 split
 ·exact h.setData n _
 ·exact h
theorem TBnd.hold (h:TBnd T k) (n:Int):TBnd (holdT T n) (k+1):=by
 unfold holdT
 cases hn:mget T n with
 | none => exact h.mono (by omega)
 | some p =>
  simp only [Option.elim]
  split
  ·exact h.mono (by omega)
  ·exact (h.mono (Nat.le_succ k)).put (by have:=h n p hn; simp only; omega)
theorem TBnd.drop (h:TBnd T k) (n:Int):TBnd (dropT T n) k:=by
 unfold dropT
 cases hn:mget T n with
 | none => exact h
 | some p =>
  simp only [Option.elim]
  split
  ·exact h
  ·split
   ·exact h
   ·exact TBnd.gone (h.put (by have:=h n p hn; simp only; omega))
theorem TBnd.unlink (h:TBnd T k) (path:ByteArray):TBnd (unlinkT T path) (k+1):=by
 unfold unlinkT
 split
 ·cases mget (dsT T (placeT T path).2.1) (placeT T path).2.2 with
  | none => exact h.mono (by omega)
  | some n =>
   simp only [Option.elim]
   cases hq:mget T n with
   | none => exact h.mono (by omega)
   | some q =>
    refine TBnd.gone (TBnd.put (TBnd.updN_ (f:=fun p => { p with ds:=mdel p.ds (placeT T path).2.2 }) h (fun p hp => by
     have:=mdel_le p.ds (placeT T path).2.2
     simp only; omega) _) (by have:=h n q hq; simp only; omega))
 ·exact h.mono (by omega)
end
def TS (ds:List (ByteArray×Int)) (x:ByteArray) (names held:Nat):PT:=[(0,⟨true,ds,ByteArray.empty,1,0⟩),(1,⟨false,[],x,names,held⟩)]
section
variable {ds:List (ByteArray×Int)} {x y:ByteArray} {names held c:Nat} {l:List ByteArray} {path s:ByteArray}
/-! ### bytes -/
end
end Go.Proofs.YtncfmlifponjdaaGreatDoor
