/- The document's tree: which names a path has. Conditions: each theorem's own premises. The document's tree in memory (the same plain tree); lead, Find, place. Conditions: each theorem's own premises. The document's tree: place. Conditions: each theorem's own premises. The document's tree: one node's change in memory. Conditions: each theorem's own premises. The document's tree: Link, file. Conditions: each theorem's own premises. The document's tree: Read, Cut. Conditions: each theorem's own premises. A range over a map in memory (Maps.lean's 'MapIs'): each entry comes once, in an order that is drawn. No program in sight. Conditions: each theorem's own premises. A store at a key that is there, into a map that is ranged over: the range goes on as it was. No program in sight. Conditions: each theorem's own premises. A delete of a key that has come, from a map that is ranged over: the range goes on as it was. No program in sight. Conditions: each theorem's own premises. A range over a map that may be nil. No program in sight. Conditions: each theorem's own premises. The document's tree: sweep. Conditions: each theorem's own premises. The document's tree: Hold. Conditions: each theorem's own premises. The document's tree: Unlink. Conditions: each theorem's own premises. The document's sweep takes what the program's own counts let go: plain. Conditions: each theorem's own premises. The document's tree: Rename. Conditions: each theorem's own premises. The document's tree: Make. Conditions: each theorem's own premises. The document's tree: NewTree. Conditions: each theorem's own premises. Each node has a name, or is held: kept by all of the tree's changes. Plain. Conditions: each theorem's own premises. The law's own 'pick': a number from 0 to below n. Condition: n is from 1 to 10^6. Two association lists side by side: the one's keys are the other one's by a map of keys, its values by a map of values. Plain. Conditions: each theorem's own premises. The document's table of numbers in memory: Used, least, Has. Conditions: each theorem's own premises. The document's table of numbers: Has. Conditions: each theorem's own premises. The document's files in memory, over the program's own plain state: entries by numbers of its own. Conditions: each theorem's own premises. The document's files: a table's change; Mark. Conditions: each theorem's own premises. The document's files: one change in memory (an entry's numbers, its place, a pipe; one goes; one comes). Conditions: each theorem's own premises. The document's files: Seek. Conditions: each theorem's own premises. The document's files: Dup. Conditions: each theorem's own premises. -/
import Derived.Test.YtncfmlifponjdaaGreatDoorPaths
import Derived.Test.YtncfmlifponjdaaGreatDoorBase
import Derived.Maps.RangeRun
import Derived.Maps.RangeWalk
import Derived.Laws.IdiomRangeMap
import Derived.Test.YtncfmlifponjdaaGreatDoorProg
import Derived.Test.YtncfmlifponjdaaGreatDoorDescTab
import Derived.Deep.QuietTactic
import Derived.BigQuiet
namespace Go.Proofs.YtncfmlifponjdaaGreatDoor
open Go.RowKit
set_option linter.unusedVariables false
set_option maxHeartbeats 4000000
set_option maxRecDepth 100000
def NamesIs (path:ByteArray) (w:World) (e:Ending) (w':World):Prop :=
 ((namesOf path=none∧e=.returned (.tuple #[.slice none 0 0,.bool false]))∨∃ l a cap,namesOf path=some l∧e=.returned (.tuple #[.slice a l.length cap,.bool true])∧StrsIn w' a l∧(l≠[]→l.length≤cap))∧Turn (fun _ => False) w w'
theorem inR_yes (n lo hi:Int) (h1:lo≤n) (h2:n≤hi) (w:World):Calls Tryz.prog 44 #[.int .i64 n,.int .i64 lo,.int .i64 hi] w fun e w' => e=.returned (.bool true)∧w'=w:=by
 go_enter Tryz.func44,Tryz.ntmps44
 go_wp2
 go_ret
 exact ⟨rfl,rfl⟩
theorem inR_no (n lo hi:Int) (h:¬ (lo≤n∧n≤hi)) (w:World):Calls Tryz.prog 44 #[.int .i64 n,.int .i64 lo,.int .i64 hi] w fun e w' => e=.returned (.bool false)∧w'=w:=by
 by_cases h1:lo≤n
 ·have h2:¬ n≤hi:=fun h2 => h ⟨h1,h2⟩
  clear h
  go_enter Tryz.func44,Tryz.ntmps44
  go_wp2
  go_ret
  exact ⟨by simp; try omega,rfl⟩
 ·clear h
  go_enter Tryz.func44,Tryz.ntmps44
  go_wp2
  go_ret
  exact ⟨by simp; try omega,rfl⟩
theorem root_led {path:ByteArray} (h:(path.toList == [47])=true):namesOf path=some []:=by
 have h1:path.toList=[47]:=beq_iff_eq.1 h
 have h2:path.data.toList=[47]:=by rw [← ByteArray.toList_eq]; exact h1
 exact namesOf_root (by unfold led Go.Lib.hasPrefix; rw [h2]; rfl) (by rw [Go.Lib.size_eq,h2]; rfl)
theorem unroot_led {path:ByteArray} (h:(path.toList == [47])=false) (hl:led path=true):path.size≠1:=fun hs => by
 have h1:path.data.toList.length=1:=by rw [← Go.Lib.size_eq]; exact hs
 unfold led Go.Lib.hasPrefix at hl
 rw [ByteArray.toList_eq] at h
 cases e:path.data.toList with
 | nil => rw [e] at h1; cases h1
 | cons a t =>
  rw [e] at h1 hl h
  have ht:t=[]:=List.length_eq_zero_iff.1 (by simpa using h1)
  subst ht
  have ha:47=a:=by simpa using hl
  rw [← ha] at h
  exact absurd h (by decide)
theorem names_is (path:ByteArray) (hs:path.size < 4294967281) (w:World):Calls Tryz.prog 75 #[.string path] w (NamesIs path w):=by
 cases hr:(path.toList == [47]) with
 | true =>
  have hn:=root_led hr
  go_enter Tryz.func75,Tryz.ntmps75
  go_wp2_with fail
  go_ret2
  exact ⟨.inr ⟨[],none,0,hn,rfl,.inl rfl,fun h => absurd rfl h⟩,Turn.refl _ _⟩
 | false =>
  have HSp:=hid (split_is path hs w)
  obtain ⟨L,hL⟩:∃ L,piecesOf path=L:=⟨_,rfl⟩
  have hlen:=pieces_le path
  rw [hL] at HSp hlen
  cases hl:led path with
  | false =>
   have hn:=namesOf_unled hl
   obtain ⟨x,l,hxl,hx⟩:=pieces_unled hl
   rw [hL] at hxl
   subst hxl
   have HN:=hid hn
   by_cases h1:2≤(x :: l).length
   ·have hxs:x.toList.isEmpty=false:=by
     rw [toList_empty]
     exact decide_eq_false (by rcases hx with hx | hx; omega; rw [hx] at h1; simp at h1)
    have h1':¬ ((x :: l).length:Int) < 2:=by omega
    clear hn hl hx hL
    go_enter Tryz.func75,Tryz.ntmps75
    go_wp2_with fail
    refine HSp.out.mono ?_
    rintro e w1 ⟨rfl,hw1⟩
    have HT:Hid (Turn (fun _ => False) w w1):=hid (by rw [hw1]; exact (Turn.refl _ _).alloc _)
    have hc:w1.cell? ⟨w.heap.size,0,none⟩=some (.string x):=by rw [hw1]; exact World.cell?_alloc_new _ _ _ _
    clear hw1
    obtain ⟨LL,hLL⟩:∃ LL,(x :: l).length=LL:=⟨_,rfl⟩
    rw [hLL] at h1 h1' ⊢
    clear hLL
    go_wp2_with fail
    go_ret2
    exact ⟨.inl ⟨HN.out,rfl⟩,HT.out⟩
   ·have h1':((x :: l).length:Int) < 2:=by omega
    clear hn hl hx hL
    go_enter Tryz.func75,Tryz.ntmps75
    go_wp2_with fail
    refine HSp.out.mono ?_
    rintro e w1 ⟨rfl,hw1⟩
    have HT:Hid (Turn (fun _ => False) w w1):=hid (by rw [hw1]; exact (Turn.refl _ _).alloc _)
    clear hw1
    obtain ⟨LL,hLL⟩:∃ LL,(x :: l).length=LL:=⟨_,rfl⟩
    rw [hLL] at h1 h1' ⊢
    clear hLL
    go_wp2_with fail
    go_ret2
    exact ⟨.inl ⟨HN.out,rfl⟩,HT.out⟩
  | true =>
   have h1:=unroot_led hr hl
   obtain ⟨l,hpl⟩:∃ l,piecesOf (path.extract 1 path.size)=l:=⟨_,rfl⟩
   have hLl:L=ByteArray.empty :: l:=by rw [← hL,pieces_led hl,hpl]
   have hne:l≠[]:=by rw [← hpl]; exact pieces_ne _
   have hl1:1≤l.length:=by cases l with | nil => exact absurd rfl hne | cons a t => simp
   have HOk:Hid (l.all okName=true→namesOf path=some l):=hid (fun h => by
    have h2:=namesOf_ok hl h1 (by rw [hpl]; exact h)
    rw [hpl] at h2
    exact h2)
   have HBad:Hid (l.all okName=false→namesOf path=none):=hid (fun h => namesOf_bad hl h1 (by rw [hpl]; exact h))
   subst hLl
   have hll:(ByteArray.empty :: l).length=l.length+1:=rfl
   rw [hll] at HSp hlen
   have hlen':l.length+1≤4294967282:=by omega
   clear h1 hpl hL hl hlen
   have hne2:¬ l=[]:=hne
   go_enter Tryz.func75,Tryz.ntmps75
   go_wp2_with fail
   refine HSp.out.mono ?_
   rintro e w1 ⟨rfl,hw1⟩
   have HT:Hid (Turn (fun _ => False) w w1):=hid (by rw [hw1]; exact (Turn.refl _ _).alloc _)
   have hc0:w1.cell? ⟨w.heap.size,0,none⟩=some (.string ByteArray.empty):=by rw [hw1]; exact World.cell?_alloc_new _ _ _ _
   have HCe:Hid (∀ (j:Nat) s,l[j]?=some s→w1.cell? ⟨w.heap.size,1+j,none⟩=some (.string s)):=hid (fun j s hj => by
    rw [hw1]
    exact (World.cell?_alloc_new _ _ _ _).trans (by rw [Nat.add_comm]; simp [hj]))
   have HLt:Hid (w.heap.size < w1.heap.size):=hid (by rw [hw1,World.size_alloc]; omega)
   obtain ⟨g,hg⟩:∃ g,w.heap.size=g:=⟨_,rfl⟩
   rw [hg] at HCe hc0 HLt
   rw [hg]
   have hemp:ByteArray.empty.toList.isEmpty=true:=by rw [toList_empty]; rfl
   clear hw1 HSp hg
   go_wp2_with fail
   go_loopg [23] l.length (fun gl i wr => ∃ k:Nat,k+gl=l.length∧i=.int .i64 k∧wr=w1∧Hid ((l.take k).all okName=true))
   case atStart => exact ⟨0,by omega,rfl,rfl,hid rfl⟩
   case round =>
    obtain ⟨k,hk,rfl,rfl,hA⟩:=hrel
    by_cases hkl:k < l.length
    ·have hkl':(k:Int) < l.length:=by omega
     obtain ⟨s,hs⟩:∃ s,l[k]?=some s:=⟨_,List.getElem?_eq_getElem hkl⟩
     have hc:=HCe.out k s hs
     cases hok:okName s with
     | false =>
      have hno:namesOf path=none:=HBad.out (by
       rw [List.all_eq_false]
       exact ⟨s,List.mem_of_getElem? hs,by rw [hok]; exact Bool.false_ne_true⟩)
      have HNo:=hid hno
      have HOr:=hid (okName_false hok)
      clear hs hok hno
      by_cases hin:(1:Int)≤s.size∧(s.size:Int)≤12
      ·have HIn:=hid (inR_yes (s.size:Int) 1 12 hin.1 hin.2 wr)
       have h34:(s.toList == [46])=true∨((s.toList == [46])=false∧(s.toList == [46,46])=true):=by
        rcases HOr.out with h1 | h1 | h1 | h1
        ·rw [toList_empty] at h1
         have:=of_decide_eq_true h1
         omega
        ·omega
        ·exact .inl h1
        ·cases h2:(s.toList == [46]) with
         | true => exact .inl rfl
         | false => exact .inr ⟨rfl,h1⟩
       clear hin
       rcases h34 with h3 | ⟨h3,h4⟩
       ·go_wp2_with fail
        refine HIn.out.mono ?_
        rintro e w5 ⟨rfl,rfl⟩
        go_wp2_with fail
        go_ret2
        exact ⟨.inl ⟨HNo.out,rfl⟩,HT.out⟩
       ·go_wp2_with fail
        refine HIn.out.mono ?_
        rintro e w5 ⟨rfl,rfl⟩
        go_wp2_with fail
        go_ret2
        exact ⟨.inl ⟨HNo.out,rfl⟩,HT.out⟩
      ·have HIn:=hid (inR_no (s.size:Int) 1 12 hin wr)
       clear hin
       go_wp2_with fail
       refine HIn.out.mono ?_
       rintro e w5 ⟨rfl,rfl⟩
       go_wp2_with fail
       go_ret2
       exact ⟨.inl ⟨HNo.out,rfl⟩,HT.out⟩
     | true =>
      obtain ⟨h1,h2,h3,h4⟩:=okName_true hok
      have hsz1:1≤s.size:=by
       rw [toList_empty] at h1
       have:=of_decide_eq_false h1
       omega
      have HIn:=hid (inR_yes (s.size:Int) 1 12 (by omega) (by omega) wr)
      have hA2:(l.take (k+1)).all okName=true:=by
       rw [List.take_add_one,hs,List.all_append,hA.out]
       simp [hok]
      have HA2:=hid hA2
      clear hs hok hA2 h1 h2 hsz1
      go_wp2_with fail
      refine HIn.out.mono ?_
      rintro e w5 ⟨rfl,rfl⟩
      go_wp2_with fail
      go_roundg (gk - 1)
      case measure => omega
      case rel => exact ⟨k+1,by omega,by go_num,rfl,HA2⟩
    ·have hkl':¬ (k:Int) < l.length:=by omega
     obtain rfl:k=l.length:=by omega
     have hn:=HOk.out (by have:=hA.out; rwa [List.take_length] at this)
     have HN:=hid hn
     clear hn
     go_wp2_with fail
     go_ret2
     refine ⟨.inr ⟨l,_,_,HN.out,rfl,.inr ⟨g,1,rfl,HLt.out,HCe.out⟩,fun _ => ?_⟩,HT.out⟩
     omega
def rnodeV (x:Nat×PN):Value:=.agg #[.map (if x.2.isDir then some x.1 else none),.bool x.2.isDir,.string x.2.data,.int .i64 (x.2.held:Int)]
def rlist (D:Int→Nat) (T:PT):List (Int×(Nat×PN)):=T.map fun t => (t.1,(D t.1,t.2))
structure RTreeIn (w:World) (rb nm:Nat) (T:PT) (D:Int→Nat):Prop where
 hdr:w.cell? ⟨rb,0,none⟩=some (.map (some nm))
 mp:MapIs w nm (.int .i64) encI rnodeV (rlist D T)
 dir:∀ n p,mget T n=some p→p.isDir=true→MapIs w (D n) .string encS encI p.ds
 dd:∀ n m p q,mget T n=some p→mget T m=some q→p.isDir=true→q.isDir=true→n≠m→D n≠D m
 own:∀ n p,mget T n=some p→p.isDir=true→D n≠rb∧D n≠nm
 ne:rb≠nm
def RFoot (rb nm:Nat) (T:PT) (D:Int→Nat) (k:Nat):Prop:=k=rb∨k=nm∨∃ n p,mget T n=some p∧p.isDir=true∧k=D n
theorem rlist_get (D:Int→Nat):∀ (T:PT) (n:Int),mget (rlist D T) n=(mget T n).map fun p => (D n,p):=by
 intro T n
 unfold mget rlist
 induction T with
 | nil => rfl
 | cons t T ih =>
  rw [List.map_cons,List.find?_cons,List.find?_cons]
  by_cases e:t.1=n
  ·simp only [e,decide_true]; rfl
  ·simp only [e,decide_false]; exact ih
section
variable {w w':World} {rb nm:Nat} {T:PT} {D:Int→Nat} {p:PN} {n:Int}
theorem RTreeIn.turned {S:Nat→Prop} (h:RTreeIn w rb nm T D) (t:Turn S w w') (hn:∀ k,RFoot rb nm T D k→¬ S k):RTreeIn w' rb nm T D :=
  { h with
    hdr:=(t.cell (a:=⟨rb,0,none⟩) (lt_of_cell h.hdr) (hn rb (.inl rfl))).trans h.hdr
    mp:=h.mp.turned t (hn nm (.inr (.inl rfl)))
    dir:=fun n p hp hd => (h.dir n p hp hd).turned t (hn _ (.inr (.inr ⟨n,p,hp,hd,rfl⟩))) }
theorem zeroRNode (w:World):(zeroValue 77).run Tryz.prog w=.ok (.agg #[.map none,.bool false,.string ⟨#[]⟩,.int .i64 0]) w:=by kernel_rfl
theorem RTreeIn.look (h:RTreeIn w rb nm T D) (hn:mget T n=some p):(Instr.lookup 63 (.map (some nm)) (.int .i64 n) false).run Tryz.prog w=.ok (.agg #[.map (if p.isDir then some (D n) else none),.bool p.isDir,.string p.data,.int .i64 (p.held:Int)]) w:=by
 have h1:=h.mp.run_lookup keyI Tryz.underlying63 Tryz.underlying3 (zeroRNode w) n false
 refine h1.trans ?_
 rw [rlist_get,hn]
 rfl
theorem rfld0 (a:Option Nat) (b:Bool) (c:ByteArray) (d:Int) (w:World):(Instr.field 77 (.agg #[.map a,.bool b,.string c,.int .i64 d]) 0).run Tryz.prog w=.ok (.map a) w:=by kernel_rfl
theorem rfld1 (a:Option Nat) (b:Bool) (c:ByteArray) (d:Int) (w:World):(Instr.field 77 (.agg #[.map a,.bool b,.string c,.int .i64 d]) 1).run Tryz.prog w=.ok (.bool b) w:=by kernel_rfl
theorem lead_is (h:RTreeIn w rb nm T D) (hok:TOk T) {a:Option Addr} {l:List ByteArray} (cap:Nat) (hl:StrsIn w a l) (hn:l.length≤4294967281) :
  Calls Tryz.prog 76 #[.pointer (some ⟨rb,0,none⟩),.slice a l.length cap] w fun e w' => e=.returned (.tuple #[.int .i64 (walkT T 0 l).2,.int .i64 (walkT T 0 l).1])∧w'=w:=by
 have H:=hid h
 have HOk:=hid hok
 have HL:=hid hl
 have hh:=h.hdr
 obtain ⟨p0,hp0,_⟩:=hok.root
 have HP0:=hid hp0
 obtain ⟨R,hR⟩:∃ R,walkT T 0 l=R:=⟨_,rfl⟩
 rw [hR]
 have HR:=hid hR
 have f0:=@rfld0
 have f1:=@rfld1
 clear h hok hl hp0 hR
 go_enter Tryz.func76,Tryz.ntmps76
 go_wp2_with fail
 go_loopg [6,13] l.length (fun gl at_ i wr => ∃ (k:Nat) (m:Int) (p:PN),k+gl=l.length∧i=.int .i64 k∧at_=.int .i64 m∧Hid (mget T m=some p)∧Hid (walkT T m (l.drop k)=R)∧wr=w)
 case atStart => exact ⟨0,0,p0,by omega,rfl,rfl,HP0,hid (by rw [List.drop_zero]; exact HR.out),rfl⟩
 case round =>
  obtain ⟨k,m,p,hk,rfl,rfl,hm,hw,hwr⟩:=hrel
  subst wr
  by_cases hkl:k < l.length
  ·have hkl':(k:Int) < l.length:=by omega
   obtain ⟨s,hs⟩:∃ s,l[k]?=some s:=⟨_,List.getElem?_eq_getElem hkl⟩
   have hdr:l.drop k=s :: l.drop (k+1):=by
    rw [List.drop_eq_getElem_cons hkl]
    congr 1
    rw [List.getElem?_eq_getElem hkl] at hs
    exact Option.some.inj hs
   obtain ⟨g,off,rfl,_,hc0⟩:=HL.out.resolve_left (by rintro rfl; simp at hkl)
   have hc:=hc0 k s hs
   have lk:=H.out.look hm.out
   cases hd:p.isDir with
   | false =>
    have hf:R=(6,0):=by
     have h1:=hw.out
     rw [hdr,walkT_file hm.out hd] at h1
     exact h1.symm
    rw [hd] at lk
    simp only [Bool.false_eq_true,if_false] at lk
    subst hf
    clear hc0 hs hdr hd
    go_wp2_with fail
    go_ret2
    exact ⟨rfl,rfl⟩
   | true =>
    rw [hd] at lk
    simp only [if_true] at lk
    have ln:=look_name (H.out.dir m p hm.out hd) s
    cases hms:mget p.ds s with
    | none =>
     have hf:R=(7,0):=by
      have h1:=hw.out
      rw [hdr,walkT_miss hm.out hd hms] at h1
      exact h1.symm
     rw [hms] at ln
     simp only [Option.getD_none,Option.isSome_none] at ln
     subst hf
     clear hc0 hs hdr hd hms
     go_wp2_with fail
     go_ret2
     exact ⟨rfl,rfl⟩
    | some m2 =>
     have hf:=hw.out
     rw [hdr,walkT_hit hm.out hd hms] at hf
     rw [hms] at ln
     simp only [Option.getD_some,Option.isSome_some] at ln
     obtain ⟨q,hq⟩:=HOk.out.link m p hm.out s m2 hms
     have HF:=hid hf
     have HQ:=hid hq
     clear hc0 hs hdr hd hms hf hq
     go_wp2_with fail
     go_roundg (gk - 1)
     case measure => omega
     case rel => exact ⟨k+1,m2,q,by omega,by go_num,rfl,HQ,HF,rfl⟩
  ·have hkl':¬ (k:Int) < l.length:=by omega
   obtain rfl:k=l.length:=by omega
   have hf:R=(0,m):=by
    have h1:=hw.out
    rw [List.drop_length] at h1
    exact h1.symm
   subst hf
   go_wp2_with fail
   go_ret2
   exact ⟨rfl,rfl⟩
theorem names_len {path:ByteArray} {l:List ByteArray} (h:namesOf path=some l) (hs:path.size < 4294967281):l.length≤4294967281:=by
 have:=namesOf_length h
 omega
theorem rfind_is (h:RTreeIn w rb nm T D) (hok:TOk T) (path:ByteArray) (hs:path.size < 4294967281) :
  Calls Tryz.prog 57 #[.pointer (some ⟨rb,0,none⟩),.string path] w fun e w' => e=.returned (.tuple #[.int .i64 (findT T path).2,.int .i64 (findT T path).1])∧Turn (fun _ => False) w w':=by
 have HN:=hid (names_is path hs w)
 have H:=hid h
 have HOk:=hid hok
 clear h hok
 go_enter Tryz.func57,Tryz.ntmps57
 go_wp2_with fail
 refine HN.out.mono ?_
 rintro e w1 ⟨⟨hno,rfl⟩ | ⟨l,a,cap,hl,rfl,hin,hcap⟩,t1⟩
 ·have HE:Hid (findT T path=(1,0)):=hid (by unfold findT; rw [hno]; rfl)
  have HT1:=hid t1
  clear t1 hno
  go_wp2_with fail
  go_ret2
  rw [HE.out]
  exact ⟨rfl,HT1.out⟩
 ·have HLd:=hid (lead_is (H.out.turned t1 (fun _ _ => id)) HOk.out cap hin (names_len hl hs))
  have HE:Hid (findT T path=walkT T 0 l):=hid (by unfold findT; rw [hl]; rfl)
  have HT1:=hid t1
  clear t1 hin hl
  go_wp2_with fail
  refine HLd.out.mono ?_
  rintro e w2 ⟨rfl,rfl⟩
  go_wp2_with fail
  go_ret2
  rw [HE.out]
  exact ⟨rfl,HT1.out⟩
end
section
variable {w w':World} {rb nm:Nat} {T:PT} {D:Int→Nat} {p:PN} {n:Int}
def RPlaceIs (T:PT) (D:Int→Nat) (path:ByteArray) (w:World) (e:Ending) (w':World):Prop :=
 (((placeT T path).1≠0∧e=.returned (.tuple #[.map none,.string ByteArray.empty,.int .i64 (placeT T path).1])) ∨
  ∃ d p s,placeT T path=(0,d,s)∧mget T d=some p∧p.isDir=true∧e=.returned (.tuple #[.map (some (D d)),.string s,.int .i64 0]))∧Turn (fun _ => False) w w'
theorem rplace_is (h:RTreeIn w rb nm T D) (hok:TOk T) (path:ByteArray) (hs:path.size < 4294967281) :
  Calls Tryz.prog 47 #[.pointer (some ⟨rb,0,none⟩),.string path] w (RPlaceIs T D path w):=by
 have H:=hid h
 have HOk:=hid hok
 have HP:=hid (names_is path hs w)
 have f0:=@rfld0
 have f1:=@rfld1
 clear h hok
 go_enter Tryz.func47,Tryz.ntmps47
 go_wp2_with fail
 refine HP.out.mono ?_
 rintro e w1 ⟨⟨hn,rfl⟩ | ⟨l,a,cap,hn,rfl,hl,hcap⟩,t1⟩
 ·have hp:=placeT_none (T:=T) hn
  have HPl:=hid hp
  have HT:=hid t1
  clear t1 hn hp
  go_wp2_with fail
  go_returns
  unfold RPlaceIs
  rw [HPl.out]
  exact ⟨.inl ⟨by simp,rfl⟩,HT.out⟩
 ·have HT:=hid t1
  by_cases h0:l=[]
  ·subst h0
   have hp:=placeT_root (T:=T) hn
   have HPl:=hid hp
   clear t1 hn hl hp
   go_wp2_with fail
   go_returns
   unfold RPlaceIs
   rw [HPl.out]
   exact ⟨.inl ⟨by simp,rfl⟩,HT.out⟩
  ·have hlen:=namesOf_length hn
   have h1:1≤l.length:=List.length_pos_iff.2 h0
   have hcp:=hcap h0
   have hin:=H.out.turned t1 (fun _ _ => id)
   have HIn:=hid hin
   have htk:l.take (l.length - 1)=l.dropLast:=List.dropLast_eq_take.symm
   have hl2:=hl.take (l.length - 1)
   rw [htk] at hl2
   obtain ⟨R,hR⟩:∃ R,walkT T 0 l.dropLast=R:=⟨_,rfl⟩
   have HR:=hid hR
   have HW:Hid (∀ cap,Calls Tryz.prog 76 #[.pointer (some ⟨rb,0,none⟩),.slice a (l.length - 1:Nat) cap] w1 fun e w' => e=.returned (.tuple #[.int .i64 R.2,.int .i64 R.1])∧w'=w1):=hid (fun cap => by
    have h3:=lead_is hin HOk.out cap hl2 (by rw [List.length_dropLast]; omega)
    rw [hR,List.length_dropLast] at h3
    exact h3)
   obtain ⟨g,off,rfl,_,hc0⟩:=hl.resolve_left h0
   have hlast:∃ s,l[l.length - 1]?=some s∧l.getLastD ByteArray.empty=s:=⟨_,List.getElem?_eq_getElem (by omega),by rw [List.getLastD_eq_getLast?,List.getLast?_eq_getElem?,List.getElem?_eq_getElem (by omega)]; rfl⟩
   obtain ⟨s,hs1,hs2⟩:=hlast
   have hc:=hc0 _ s hs1
   have h0':((l.length:Int) == 0)=false:=beq_eq_false_iff_ne.2 (by omega)
   have HN:=hid hn
   have HS2:=hid hs2
   obtain ⟨k,hk⟩:∃ k,l.length - 1=k:=⟨_,rfl⟩
   have hk1:l.length=k+1:=by omega
   have hsub:wrap64 ((l.length:Int) - 1)=k:=by rw [IntWalk.wrap64_in _ (by omega)]; omega
   rw [hk] at HW hc
   have h00:=hid h0
   clear hl hl2 hc0 hs1 hs2 htk hR hin t1 hn h0 hk hcap
   go_wp2_with fail
   refine (HW.out cap).mono ?_
   rintro e w2 ⟨rfl,hw⟩; subst w2
   obtain ⟨z,m⟩:=R
   by_cases hz:z=0
   ·subst hz
    have hwk:=HR.out
    obtain ⟨p0,hp0,_⟩:=HOk.out.root
    obtain ⟨q,hq⟩:=walkT_there HOk.out _ 0 p0 hp0 (by rw [hwk])
    rw [hwk] at hq
    simp only at hq
    have hh:=HIn.out.hdr
    have lk:=HIn.out.look hq
    have HQ:=hid hq
    cases hd:q.isDir with
    | false =>
     rw [hd] at lk
     simp only [Bool.false_eq_true,if_false] at lk
     have hpl:=placeT_file HN.out h00.out hwk (by unfold isDirT; rw [hq]; exact hd)
     have HPl:=hid hpl
     clear hq hwk hp0 hpl hd
     go_wp2_with fail
     go_returns
     unfold RPlaceIs
     rw [HPl.out]
     exact ⟨.inl ⟨by simp,rfl⟩,HT.out⟩
    | true =>
     have lk2:=(HIn.out.turned (Turn.refl (fun _ => False) w1).drew (fun _ _ => id)).look hq
     rw [hd] at lk lk2
     simp only [if_true] at lk lk2
     have hpl:=placeT_dir HN.out h00.out hwk (by unfold isDirT; rw [hq]; exact hd)
     rw [HS2.out] at hpl
     have HPl:=hid hpl
     have HD:=hid hd
     clear hq hwk hp0 hpl hd
     go_wp2_with fail
     have hq1:(k:Int) < ((k+1:Nat):Int):=by omega
     have hq2:IntKind.i64.wrap (((k+1:Nat):Int) - 1)=(k:Int):=by rw [IntWalk.i64_in _ (by omega)]; omega
     generalize hkk:k+1=N at *
     have hkn:k < N:=by omega
     have hk0:¬ (k:Int) < 0:=by omega
     clear hsub h1 hcp hlen hkk
     go_region
     all_goals go_wp2_with fail
     all_goals go_returns
     all_goals exact ⟨.inr ⟨m,q,s,HPl.out,HQ.out,HD.out,rfl⟩,HT.out.drew⟩
   ·have hzb:(z == 0)=false:=by simpa using hz
    have hzn:(z != 0)=true:=by simpa using hz
    have hpl:=placeT_err HN.out h00.out HR.out hz
    have HPl:=hid hpl
    have HZ:=hid hz
    clear hpl hz
    go_wp2_with fail
    go_returns
    unfold RPlaceIs
    rw [HPl.out]
    exact ⟨.inl ⟨HZ.out,rfl⟩,HT.out⟩
end
def RTreeIs (w:World) (rb:Nat) (T:PT) (F:Nat→Prop):Prop:=∃ nm D,RTreeIn w rb nm T D∧F=RFoot rb nm T D
def RTreeTo (rb:Nat) (F:Nat→Prop) (w w':World) (T':PT):Prop:=∃ F',RTreeIs w' rb T' F'∧Turn F w w'∧(∀ k,F' k→F k∨w.heap.size≤k)∧∀ v,w.cell? ⟨rb,0,none⟩=some v→w'.cell? ⟨rb,0,none⟩=some v
section
variable {w w' w1 w2:World} {rb nm c dn:Nat} {T T1 T2:PT} {D:Int→Nat} {F:Nat→Prop} {p q q' nn:PN} {n k:Int}
theorem RTreeIn.foot_lt (h:RTreeIn w rb nm T D) (k:Nat) (hk:RFoot rb nm T D k):k < w.heap.size:=by
 rcases hk with rfl | rfl | ⟨n,p,hp,hd,rfl⟩
 ·exact lt_of_cell h.hdr
 ·exact h.mp.lt
 ·exact (h.dir n p hp hd).lt
theorem RTreeIs.foot_lt (h:RTreeIs w rb T F) (k:Nat) (hk:F k):k < w.heap.size:=by
 obtain ⟨nm,D,h1,rfl⟩:=h
 exact h1.foot_lt k hk
theorem RTreeIs.turned {S:Nat→Prop} (h:RTreeIs w rb T F) (t:Turn S w w') (hn:∀ k,F k→¬ S k):RTreeIs w' rb T F:=by
 obtain ⟨nm,D,h1,rfl⟩:=h
 exact ⟨nm,D,h1.turned t hn,rfl⟩
theorem RTreeTo.same (h:RTreeIs w rb T F) (t:Turn (fun _ => False) w w'):RTreeTo rb F w w' T:=⟨F,h.turned t (fun _ _ => id),t.mono (fun _ _ h => h.elim),fun _ h => .inl h,fun v hv => (t.cell (lt_of_cell hv) id).trans hv⟩
theorem MapIs.congr {κ β:Type} [DecidableEq κ] {b:Nat} {d:TypeDesc} {enc:κ→Value} {val:β→Value} {m m':List (κ×β)} (h:MapIs w b d enc val m) (e:m'.map (fun p => (enc p.1,val p.2))=m.map (fun p => (enc p.1,val p.2))) (hn:MNodup m'):MapIs w b d enc val m':=by
 obtain ⟨es,clock,hb,hs,hm⟩:=h.obj
 exact ⟨⟨es,clock,hb,hs,hm.trans e.symm⟩,hn⟩
theorem mupd_map {κ β γ:Type} [DecidableEq κ] (f:κ×β→γ) {m:List (κ×β)} {k:κ} {v v':β} (hn:MNodup m) (hk:mget m k=some v) (h:f (k,v')=f (k,v)):(mupd m k v').map f=m.map f:=by
 unfold mupd
 rw [List.map_map]
 refine List.map_congr_left fun t ht => ?_
 show f (if t.1=k then (t.1,v') else t)=f t
 by_cases e:t.1=k
 ·rw [if_pos e]
  have h1:mget m t.1=some t.2:=mget_mem hn ht
  rw [e,hk] at h1
  have h2:=Option.some.inj h1
  rw [e,h,h2,← e]
 ·rw [if_neg e]
theorem rlist_put (D:Int→Nat) (hn:mget T n=some q):rlist D (mput T n q')=mput (rlist D T) n (D n,q'):=by
 have h1:mput T n q'=mupd T n q':=by unfold mput; rw [hn]; rfl
 have h2:mput (rlist D T) n (D n,q')=mupd (rlist D T) n (D n,q'):=by unfold mput; rw [rlist_get,hn]; rfl
 rw [h1,h2]
 unfold rlist mupd
 rw [List.map_map,List.map_map]
 refine List.map_congr_left fun t _ => ?_
 show ((if t.1=n then (t.1,q') else t).1,(D (if t.1=n then (t.1,q') else t).1,(if t.1=n then (t.1,q') else t).2))=(if t.1=n then (t.1,(D n,q')) else (t.1,(D t.1,t.2)))
 by_cases e:t.1=n
 ·rw [if_pos e,if_pos e]; show (t.1,(D t.1,q'))=_; rw [e]
 ·rw [if_neg e,if_neg e]
theorem rlist_del (D:Int→Nat) (T:PT) (n:Int):rlist D (mdel T n)=mdel (rlist D T) n:=by
 unfold rlist mdel
 rw [List.filter_map]
 rfl
theorem rlist_nodup (D:Int→Nat) (h:MNodup T):MNodup (rlist D T):=by
 unfold MNodup rlist
 rw [List.map_map]
 exact h
theorem put_get (hn:mget T n=some q):∀ m r,mget (mput T n q') m=some r→(m=n∧r=q')∨(m≠n∧mget T m=some r):=fun m r hr => by
 rw [mget_mput] at hr
 by_cases e:m=n
 ·rw [if_pos e] at hr; cases hr; exact .inl ⟨e,rfl⟩
 ·rw [if_neg e] at hr; exact .inr ⟨e,hr⟩
theorem RTreeIn.put (h:RTreeIn w rb nm T D) (hn:mget T n=some q) (hd:q'.isDir=q.isDir) (hm:MapIs w' nm (.int .i64) encI rnodeV (rlist D (mput T n q'))) (hdm:q.isDir=true→MapIs w' (D n) .string encS encI q'.ds) (t:Turn (fun k => k=nm∨(q.isDir=true∧k=D n)) w w'):RTreeIn w' rb nm (mput T n q') D:=by
 have hget:=put_get (q':=q') hn
 have hold:∀ m r,mget (mput T n q') m=some r→∃ r0,mget T m=some r0∧r.isDir=r0.isDir:=fun m r hr => by
  rcases hget m r hr with ⟨rfl,rfl⟩ | ⟨_,h2⟩
  ·exact ⟨q,hn,hd⟩
  ·exact ⟨r,h2,rfl⟩
 refine ⟨(t.cell (a:=⟨rb,0,none⟩) (lt_of_cell h.hdr) (fun e => ?_)).trans h.hdr,hm,fun m r hr hrd => ?_,fun m k r s hr hs h1 h2 hne => ?_,fun m r hr hrd => ?_,h.ne⟩
 ·rcases e with e | ⟨e1,e2⟩
  ·exact h.ne e
  ·exact (h.own n q hn e1).1 e2.symm
 ·rcases hget m r hr with ⟨rfl,rfl⟩ | ⟨e,h2⟩
  ·exact hdm (by rw [← hd]; exact hrd)
  ·refine (h.dir m r h2 hrd).turned t (fun e2 => ?_)
   rcases e2 with e2 | ⟨e1,e2⟩
   ·exact (h.own m r h2 hrd).2 e2
   ·exact h.dd m n r q h2 hn hrd e1 e e2
 ·obtain ⟨r0,a,e1⟩:=hold m r hr
  obtain ⟨s0,b,e2⟩:=hold k s hs
  exact h.dd m k r0 s0 a b (e1 ▸ h1) (e2 ▸ h2) hne
 ·obtain ⟨r0,a,e1⟩:=hold m r hr
  exact h.own m r0 a (e1 ▸ hrd)
theorem RTreeIn.name (h:RTreeIn w rb nm T D) (hok:MNodup T) (hn:mget T n=some p) (hd:p.isDir=true) {ds:List (ByteArray×Int)} (hm:MapIs w' (D n) .string encS encI ds) (t:Turn (fun k => k=D n) w w'):RTreeIn w' rb nm (mput T n { p with ds:=ds }) D:=by
 refine h.put hn rfl ?_ (fun _ => hm) (t.mono (fun k _ e => .inr ⟨hd,e⟩))
 have h1:=h.mp.turned t (fun e => (h.own n p hn hd).2 e.symm)
 refine h1.congr ?_ (rlist_nodup D (mput_nodup hok n _))
 rw [rlist_put D hn]
 have h2:mput (rlist D T) n (D n,{ p with ds:=ds })=mupd (rlist D T) n (D n,{ p with ds:=ds }):=by unfold mput; rw [rlist_get,hn]; rfl
 rw [h2]
 exact mupd_map (fun p:Int×(Nat×PN) => (encI p.1,rnodeV p.2)) (v:=(D n,p)) (rlist_nodup D hok) (by rw [rlist_get,hn]; rfl) rfl
theorem RTreeIn.count (h:RTreeIn w rb nm T D) (hok:MNodup T) (hn:mget T n=some q) (c:Nat):RTreeIn w rb nm (mput T n { q with names:=c }) D:=by
 refine h.put hn rfl ?_ (fun hd => h.dir n q hn hd) (Turn.refl _ _)
 refine h.mp.congr ?_ (rlist_nodup D (mput_nodup hok n _))
 rw [rlist_put D hn]
 have h2:mput (rlist D T) n (D n,{ q with names:=c })=mupd (rlist D T) n (D n,{ q with names:=c }):=by unfold mput; rw [rlist_get,hn]; rfl
 rw [h2]
 exact mupd_map (fun p:Int×(Nat×PN) => (encI p.1,rnodeV p.2)) (v:=(D n,q)) (rlist_nodup D hok) (by rw [rlist_get,hn]; rfl) rfl
theorem RTreeIn.store (h:RTreeIn w rb nm T D) (hn:mget T n=some q) (hd:q'.isDir=q.isDir) (hds:q'.ds=q.ds) (hm:MapIs w' nm (.int .i64) encI rnodeV (mput (rlist D T) n (D n,q'))) (t:Turn (fun k => k=nm) w w'):RTreeIn w' rb nm (mput T n q') D :=
 h.put hn hd (by rw [rlist_put D hn]; exact hm) (fun e => by rw [hds]; exact (h.dir n q hn e).turned t (h.own n q hn e).2) (t.mono (fun _ _ e => .inl e))
theorem RTreeIn.del (h:RTreeIn w rb nm T D) (hm:MapIs w' nm (.int .i64) encI rnodeV (mdel (rlist D T) n)) (t:Turn (fun k => k=nm) w w'):RTreeIn w' rb nm (mdel T n) D:=by
 have hget:∀ m r,mget (mdel T n) m=some r→mget T m=some r:=fun m r hr => by
  rw [mget_mdel] at hr
  split at hr
  ·cases hr
  ·exact hr
 exact ⟨(t.cell (a:=⟨rb,0,none⟩) (lt_of_cell h.hdr) h.ne).trans h.hdr,by rw [rlist_del]; exact hm,fun m r hr hd => (h.dir m r (hget m r hr) hd).turned t (h.own m r (hget m r hr) hd).2,fun m k r s hr hs => h.dd m k r s (hget m r hr) (hget k s hs),fun m r hr => h.own m r (hget m r hr),h.ne⟩
theorem rfoot_put (hn:mget T n=some q) (hd:q'.isDir=q.isDir) (k:Nat) (hk:RFoot rb nm (mput T n q') D k):RFoot rb nm T D k:=by
 rcases hk with h | h | ⟨m,r,hr,hrd,h⟩
 ·exact .inl h
 ·exact .inr (.inl h)
 ·rcases put_get (q':=q') hn m r hr with ⟨rfl,rfl⟩ | ⟨_,h2⟩
  ·exact .inr (.inr ⟨m,q,hn,by rw [← hd]; exact hrd,h⟩)
  ·exact .inr (.inr ⟨m,r,h2,hrd,h⟩)
theorem RTreeIn.add (h:RTreeIn w rb nm T D) (hk:mget T k=none) (hm:MapIs w' nm (.int .i64) encI rnodeV (mput (rlist D T) k (dn,nn))) (hdm:nn.isDir=true→MapIs w' dn .string encS encI nn.ds) (t:Turn (fun j => j=nm) w w') (hdn:nn.isDir=true→¬ RFoot rb nm T D dn):RTreeIn w' rb nm (mput T k nn) (updI D k dn):=by
 have hget:∀ m r,mget (mput T k nn) m=some r→(m=k∧r=nn)∨(m≠k∧mget T m=some r):=fun m r hr => by
  rw [mget_mput] at hr
  by_cases e:m=k
  ·rw [if_pos e] at hr; cases hr; exact .inl ⟨e,rfl⟩
  ·rw [if_neg e] at hr; exact .inr ⟨e,hr⟩
 have hl:rlist (updI D k dn) (mput T k nn)=mput (rlist D T) k (dn,nn):=by
  have h2:mput (rlist D T) k (dn,nn)=rlist D T ++ [(k,(dn,nn))]:=by unfold mput; rw [if_neg (by rw [rlist_get,hk]; simp)]
  rw [mput_newT hk,h2]
  unfold rlist
  rw [List.map_append]
  congr 1
  ·refine List.map_congr_left fun u hu => ?_
   have:u.1≠k:=mget_none_iff.1 hk u hu
   show (u.1,(updI D k dn u.1,u.2))=_
   unfold updI
   rw [if_neg this]
  ·show [(k,(updI D k dn k,nn))]=_
   unfold updI
   rw [if_pos rfl]
 have hu:∀ m,m≠k→updI D k dn m=D m:=fun m e => if_neg e
 have huk:updI D k dn k=dn:=if_pos rfl
 refine ⟨(t.cell (a:=⟨rb,0,none⟩) (lt_of_cell h.hdr) h.ne).trans h.hdr,by rw [hl]; exact hm,fun m r hr hd => ?_,fun m j r s hr hs h1 h2 hne => ?_,fun m r hr hd => ?_,h.ne⟩
 ·rcases hget m r hr with ⟨rfl,rfl⟩ | ⟨e,h2⟩
  ·rw [huk]; exact hdm hd
  ·rw [hu m e]; exact (h.dir m r h2 hd).turned t (h.own m r h2 hd).2
 ·rcases hget m r hr with ⟨rfl,rfl⟩ | ⟨e1,a1⟩
  ·rcases hget j s hs with ⟨rfl,rfl⟩ | ⟨e2,a2⟩
   ·exact absurd rfl hne
   ·rw [huk,hu j e2]
    exact fun e => hdn h1 (.inr (.inr ⟨j,s,a2,h2,e⟩))
  ·rcases hget j s hs with ⟨rfl,rfl⟩ | ⟨e2,a2⟩
   ·rw [huk,hu m e1]
    exact fun e => hdn h2 (.inr (.inr ⟨m,r,a1,h1,e.symm⟩))
   ·rw [hu m e1,hu j e2]
    exact h.dd m j r s a1 a2 h1 h2 hne
 ·rcases hget m r hr with ⟨rfl,rfl⟩ | ⟨e,h2⟩
  ·rw [huk]
   exact ⟨fun e => hdn hd (.inl e),fun e => hdn hd (.inr (.inl e))⟩
  ·rw [hu m e]; exact h.own m r h2 hd
end
section
variable {w w' w1 w2 w3:World} {rb nm b d c dn:Nat} {T T1 T2:PT} {B D:Int→Nat} {F:Nat→Prop} {p p' q nn:PN} {n k:Int} {s:ByteArray}
theorem rfile_is (h:RTreeIn w rb nm T D) (n:Int) :
  Calls Tryz.prog 82 #[.pointer (some ⟨rb,0,none⟩),.int .i64 n] w fun e w' => e=.returned (.int .i64 (fileE T n))∧Turn (fun _ => False) w w':=by
 have hh:=h.hdr
 have f1:=@rfld1
 have HE:Hid (∀ p,mget T n=some p→fileE T n=if p.isDir then 6 else 0):=hid (fun p hp => by unfold fileE; rw [hp]; rfl)
 have HE0:Hid (mget T n=none→fileE T n=7):=hid (fun hp => by unfold fileE; rw [hp]; rfl)
 have lk:=h.mp.run_lookup (P:=Tryz.prog) keyI Tryz.underlying63 Tryz.underlying3 (zeroRNode w) n true
 have hg:=rlist_get D T n
 cases hn:mget T n with
 | none =>
  rw [hg,hn] at lk
  replace lk:(Instr.lookup 63 (.map (some nm)) (.int .i64 n) true).run Tryz.prog w=.ok (.tuple #[.agg #[.map none,.bool false,.string ⟨#[]⟩,.int .i64 0],.bool false]) w:=lk
  have HN:=hid hn
  clear h hn hg
  go_enter Tryz.func82,Tryz.ntmps82
  go_wp2_with fail
  all_goals go_returns
  all_goals rw [HE0.out HN.out]
  all_goals exact ⟨rfl,(Turn.refl _ _).alloc _⟩
 | some p =>
  rw [hg,hn] at lk
  replace lk:(Instr.lookup 63 (.map (some nm)) (.int .i64 n) true).run Tryz.prog w=.ok (.tuple #[.agg #[.map (if p.isDir then some (D n) else none),.bool p.isDir,.string p.data,.int .i64 (p.held:Int)],.bool true]) w:=lk
  have HN:=hid hn
  clear h hn hg
  cases hd:p.isDir with
  | false =>
   rw [hd] at lk
   have HD:=hid hd
   clear hd
   go_enter Tryz.func82,Tryz.ntmps82
   go_wp2_with fail
   all_goals go_returns
   all_goals rw [HE.out p HN.out,HD.out]
   all_goals exact ⟨rfl,(Turn.refl _ _).alloc _⟩
  | true =>
   rw [hd] at lk
   have HD:=hid hd
   clear hd
   go_enter Tryz.func82,Tryz.ntmps82
   go_wp2_with fail
   all_goals go_returns
   all_goals rw [HE.out p HN.out,HD.out]
   all_goals exact ⟨rfl,(Turn.refl _ _).alloc _⟩
end
section
variable {w w' w1 w2 w3 wa:World} {rb nm b d c dn:Nat} {T T1 T2:PT} {B D:Int→Nat} {F:Nat→Prop} {p p' q nn:PN} {n k:Int} {s:ByteArray}
theorem fileE_zero (h:fileE T n=0):∃ p,mget T n=some p∧p.isDir=false:=by
 unfold fileE at h
 cases hn:mget T n with
 | none => rw [hn] at h; cases h
 | some p =>
  rw [hn] at h
  refine ⟨p,rfl,?_⟩
  cases hd:p.isDir with
  | false => rfl
  | true => simp [hd] at h
theorem rfld2 (a:Option Nat) (b:Bool) (c:ByteArray) (d:Int) (w:World):(Instr.field 77 (.agg #[.map a,.bool b,.string c,.int .i64 d]) 2).run Tryz.prog w=.ok (.string c) w:=by kernel_rfl
theorem ext_step (x:ByteArray) (a j:Nat) (h:a+j < x.size):x.extract a (a+j) ++ x.extract (a+j) (a+j+1)=x.extract a (a+(j+1)):=by
 rw [ByteArray.extract_append_extract]
 congr 1
 ·omega
 ·omega
theorem rread_is (h:RTreeIn w rb nm T D) (hok:TOk T) (n at' many:Int) :
  Calls Tryz.prog 68 #[.pointer (some ⟨rb,0,none⟩),.int .i64 n,.int .i64 at',.int .i64 many] w fun e w' => e=.returned (.tuple #[.string (readT T n at' many),.int .i64 (readE T n at' many)])∧Turn (fun _ => False) w w':=by
 have H:=hid h
 have HOk:=hid hok
 have HF:=hid (rfile_is h n)
 have f2:=@rfld2
 clear h hok
 go_enter Tryz.func68,Tryz.ntmps68
 go_wp2_with fail
 refine HF.out.mono ?_
 rintro e w1 ⟨rfl,t1⟩
 have HT1:=hid t1
 by_cases hz:fileE T n=0
 ·obtain ⟨p,hn,hd⟩:=fileE_zero hz
  have h1:=H.out.turned t1 (fun _ _ => id)
  have hh:=h1.hdr
  have lk:=h1.look hn
  rw [hd] at lk
  simp only [Bool.false_eq_true,if_false] at lk
  have hdt:dataT T n=p.data:=by unfold dataT; rw [hn]; rfl
  have hsz:=HOk.out.data n p hn
  have h00:¬ (fileE T n≠0):=fun e => e hz
  rw [hz]
  clear hn hd hz h1 t1
  by_cases ha:at' < 0
  ·have hr:readE T n at' many=2:=by unfold readE; rw [if_neg h00,if_pos (.inl ha)]
   have hr2:readT T n at' many=ByteArray.empty:=if_neg (by rw [hr]; decide)
   clear h00 hdt
   go_wp2_with fail
   go_returns
   rw [hr2,hr]
   exact ⟨rfl,HT1.out⟩
  ·by_cases hm:many < 0
   ·have hr:readE T n at' many=2:=by unfold readE; rw [if_neg h00,if_pos (.inr hm)]
    have hr2:readT T n at' many=ByteArray.empty:=if_neg (by rw [hr]; decide)
    clear h00 hdt
    go_wp2_with fail
    go_returns
    rw [hr2,hr]
    exact ⟨rfl,HT1.out⟩
   ·have hr:readE T n at' many=0:=by unfold readE; rw [if_neg h00,if_neg (by omega)]
    have hr2:readT T n at' many=readB p.data at'.toNat many.toNat:=by unfold readT; rw [if_pos hr,hdt]
    obtain ⟨x,hx⟩:∃ x,p.data=x:=⟨_,rfl⟩
    rw [hx] at lk hsz hr2
    obtain ⟨a0,ha0⟩:∃ a0,min at'.toNat x.size=a0:=⟨_,rfl⟩
    obtain ⟨L,hL⟩:∃ L,min many.toNat (x.size - a0)=L:=⟨_,rfl⟩
    have hr3:readT T n at' many=x.extract a0 (a0+L):=by rw [hr2]; unfold readB; rw [ha0,hL]
    have HR:=hid hr
    have HR3:=hid hr3
    clear h00 hdt hr hr2 hr3 hx
    go_wp2_with fail
    go_loopg [11,13] (L) (fun gl o i wr => ∃ j:Nat,j+gl=L∧o=.string (x.extract a0 (a0+j))∧i=.int .i64 (at'+j)∧wr=w1)
    case atStart => exact ⟨0,by omega,by rw [Nat.add_zero,ByteArray.extract_same]; rfl,by simp,rfl⟩
    case round =>
     obtain ⟨j,hj,rfl,rfl,hwr⟩:=hrel
     subst wr
     have hes:(x.extract a0 (a0+j)).size=j:=by rw [ByteArray.size_extract]; omega
     by_cases hjl:j < L
     ·have hst:=ext_step x a0 j (by omega)
      obtain rfl:at'=a0:=by omega
      have hc1:(a0:Int)+j < x.size:=by omega
      have hc2:((x.extract a0 (a0+j)).size:Int) < many:=by omega
      have hc3:IntKind.i64.wrap ((a0:Int)+j+1)=((a0+j+1:Nat):Int):=by rw [IntWalk.i64_in _ (by omega)]; omega
      go_wp2_with fail
      go_roundg (gk - 1)
      case measure => omega
      case rel => exact ⟨j+1,by omega,rfl,by congr 1,rfl⟩
     ·have hend:¬ (at'+j < x.size∧((x.extract a0 (a0+j)).size:Int) < many):=by omega
      obtain rfl:j=L:=by omega
      by_cases hc1:at'+j < x.size
      ·have hc2:¬ ((x.extract a0 (a0+j)).size:Int) < many:=fun e => hend ⟨hc1,e⟩
       clear hend
       go_wp2_with fail
       go_returns
       rw [HR3.out,HR.out]
       exact ⟨rfl,HT1.out⟩
      ·clear hend
       go_wp2_with fail
       go_returns
       rw [HR3.out,HR.out]
       exact ⟨rfl,HT1.out⟩
 ·have hr:readE T n at' many=fileE T n:=if_pos hz
  have hr2:readT T n at' many=ByteArray.empty:=if_neg (by rw [hr]; exact hz)
  have hzn:(fileE T n != 0)=true:=by simpa using hz
  have HR:=hid hr
  generalize fileE T n=z at *
  clear hz hr t1
  go_wp2_with fail
  go_returns
  rw [hr2,HR.out]
  exact ⟨rfl,HT1.out⟩
theorem rstore_fin (H:RTreeIn w rb nm T D) (hn:mget T n=some p) (hd:p.isDir=false) (q:PN) (hqd:q.isDir=false) (hds:q.ds=p.ds) (t:Turn (fun _ => False) w wa) :
  ∃ w3,(Instr.mapUpdate 63 (.map (some nm)) (.int .i64 n) (.agg #[.map none,.bool false,.string q.data,.int .i64 (q.held:Int)])).run Tryz.prog wa=.ok () w3∧RTreeIn w3 rb nm (mput T n q) D∧Turn (RFoot rb nm T D) w w3∧(∀ j,RFoot rb nm (mput T n q) D j→RFoot rb nm T D j):=by
 have h1:=H.turned t (fun _ _ => id)
 obtain ⟨w3,hrun3,hm3,t3⟩:=h1.mp.run_update (P:=Tryz.prog) keyI Tryz.underlying63 Tryz.underlying3 n (D n,q)
 have hv:rnodeV (D n,q)=.agg #[.map none,.bool false,.string q.data,.int .i64 (q.held:Int)]:=by unfold rnodeV; simp only [hqd]; rfl
 rw [hv] at hrun3
 exact ⟨w3,hrun3,h1.store hn (hqd.trans hd.symm) hds hm3 t3,(t.mono (fun _ _ h => h.elim)).trans (t3.mono (fun _ _ e => .inr (.inl e))),rfoot_put hn (hqd.trans hd.symm)⟩
end
section
open Go.RowKit Go.MapKept
open Go.ChangeMaps (setBlock)
set_option linter.unusedSectionVars false
section
variable {κ β:Type} [DecidableEq κ] {d:TypeDesc} {enc:κ→Value} {val:β→Value} {w:World} {mb r cnt:Nat} {m:List (κ×β)} {P:Program} {seenK:κ→Prop}
def RangeOf (w:World) (mb r:Nat) (enc:κ→Value) (val:β→Value) (m:List (κ×β)) (seenK:κ→Prop) (cnt:Nat):Prop :=
 ∃ es clock since seen c0,w.heap[mb]?=some (.map es clock)∧Stamped es clock∧es.toList.map (fun e => (e.key,e.val))=m.map (fun p => (enc p.1,val p.2))∧MNodup m ∧
  w.heap[r]?=some (.mapIter (some mb) since seen c0)∧(∀ x∈es.toList,x.born < since)∧(Go.leftOf es seen).size=cnt ∧
  (∀ (j:Nat) (x:MapEntry) (p:κ×β),es.toList[j]?=some x→m[j]?=some p→(seen.contains x.born=true ↔ seenK p.1))∧since≤c0∧since≤clock
theorem RangeOf.lt (h:RangeOf w mb r enc val m seenK cnt):mb < w.heap.size∧r < w.heap.size∧r≠mb:=by
 obtain ⟨es,clock,since,seen,c0,hb,_,_,_,hr,_⟩:=h
 refine ⟨(Array.getElem?_eq_some_iff.1 hb).1,(Array.getElem?_eq_some_iff.1 hr).1,fun e => ?_⟩
 rw [e,hb] at hr
 cases hr
theorem RangeOf.turned {S:Nat→Prop} {w':World} (h:RangeOf w mb r enc val m seenK cnt) (t:Turn S w w') (h1:¬ S mb) (h2:¬ S r):RangeOf w' mb r enc val m seenK cnt:=by
 obtain ⟨l1,l2,_⟩:=h.lt
 obtain ⟨es,clock,since,seen,c0,hb,a1,a2,a3,hr,rest⟩:=h
 exact ⟨es,clock,since,seen,c0,(t.block mb l1 h1).trans hb,a1,a2,a3,(t.block r l2 h2).trans hr,rest⟩
theorem MapIs.run_range (h:MapIs w mb d enc val m) {T kt et:TypeId} (hT:P.underlying T=some (.map kt et)) :
  ∃ w',(Instr.range T (.map (some mb))).run P w=.ok (.pointer (some ⟨w.heap.size,0,none⟩)) w'∧RangeOf w' mb w.heap.size enc val m (fun _ => False) m.length∧Turn (fun _ => False) w w'∧w'.heap.size=w.heap.size+1:=by
 have hlt:=h.lt
 obtain ⟨es,clock,hb,hs,hm⟩:=h.obj
 have hl:es.size=m.length:=by
  have:=congrArg List.length hm
  simpa using this
 refine ⟨_,run_range_map w T kt et mb es clock hT hb,⟨es,clock,clock,#[],clock,?_,hs,hm,h.nodup,(MapKept.heap_alloc w _).1,hs.1,?_,fun j x p _ _ => by simp,Nat.le_refl _,Nat.le_refl _⟩,(Turn.refl _ _).alloc _,by simp⟩
 ·exact ((MapKept.heap_alloc w _).2 mb hlt).trans hb
 ·rw [← hl]; simp [Go.leftOf]
theorem RangeOf.next (h:RangeOf w mb r enc val m seenK cnt) (ty:TypeId) :
  ((∀ p∈m,seenK p.1)∧(Instr.next (.pointer (some ⟨r,0,none⟩)) false ty).run P w=.ok (.tuple #[.bool false]) w) ∨
  ∃ p w' cnt',p∈m∧¬ seenK p.1∧(Instr.next (.pointer (some ⟨r,0,none⟩)) false ty).run P w=.ok (.tuple #[.bool true,enc p.1,val p.2]) w' ∧
   RangeOf w' mb r enc val m (fun k => seenK k∨k=p.1) cnt'∧cnt' < cnt∧Turn (fun j => j=r) w w'∧w'.heap.size=w.heap.size∧(Instr.entry (.pointer (some ⟨r,0,none⟩))).run P w'=.ok (.tuple #[enc p.1,val p.2]) w':=by
 have hne:=h.lt.2.2
 obtain ⟨es,clock,since,seen,c0,hb,hst,hm,hn,hr,hold,rfl,hsn,hsc,hsk⟩:=h
 have hlen:es.toList.length=m.length:=by
  have:=congrArg List.length hm
  simpa using this
 have pair:∀ (j:Nat) (x:MapEntry) (p:κ×β),es.toList[j]?=some x→m[j]?=some p→x.key=enc p.1∧x.val=val p.2:=fun j x p hx hp => by
  have h1:=congrArg (fun l => l[j]?) hm
  simp only [List.getElem?_map,hx,hp,Option.map_some,Option.some.injEq,Prod.mk.injEq] at h1
  exact h1
 rcases run_next_at (P:=P) w ty r mb since c0 seen es clock hr hb hold hsc with ⟨h0,hrun⟩ | ⟨e,he,w1,hal,hrun⟩
 ·refine Or.inl ⟨fun p hp => ?_,hrun⟩
  obtain ⟨j,hj⟩:=List.getElem?_of_mem hp
  obtain ⟨x,hx⟩:∃ x,es.toList[j]?=some x:=⟨_,List.getElem?_eq_getElem (by rw [hlen]; exact (List.getElem?_eq_some_iff.1 hj).1)⟩
  exact (hsn j x p hx hj).1 (all_seen es seen h0 x (List.mem_of_getElem? hx))
 ·obtain ⟨hem,hes⟩:=Go.mem_left he
  obtain ⟨j,hj⟩:=List.getElem?_of_mem hem
  obtain ⟨p,hp⟩:∃ p,m[j]?=some p:=⟨_,List.getElem?_eq_getElem (by rw [← hlen]; exact (List.getElem?_eq_some_iff.1 hj).1)⟩
  obtain ⟨k1,k2⟩:=pair j e p hj hp
  have hr1:w1.heap[r]?=some (.mapIter (some mb) since seen c0):=by rcases hal with rfl | rfl <;> exact hr
  have hb1:w1.heap[mb]?=some (.map es clock):=by rcases hal with rfl | rfl <;> exact hb
  have hset:=heap_set (o':=.mapIter (some mb) since (seen.push e.born) clock) hr1
  have hb':(setBlock w1 r (.mapIter (some mb) since (seen.push e.born) clock)).heap[mb]?=some (.map es clock):=(hset.2 mb (fun e1 => hne e1.symm)).trans hb1
  have hent:=run_entry_at (P:=P) _ r mb since seen es clock e hset.1 hb' hem hst.2.1
  rw [k1,k2] at hrun hent
  refine Or.inr ⟨p,_,_,List.mem_of_getElem? hp,fun hs => ?_,hrun,⟨es,clock,since,seen.push e.born,clock,hb',hst,hm,hn,hset.1,hold,rfl,fun i x q hx hq => ?_,hsk,hsk⟩,left_shrinks es seen e he,?_,?_,hent⟩
  ·have:=(hsn j e p hj hp).2 hs
   rw [hes] at this; cases this
  ·rw [contains_push,Bool.or_eq_true,hsn i x q hx hq,beq_iff_eq]
   constructor
   ·rintro (h1 | h1)
    ·exact .inl h1
    ·right
     have hij:i=j:=by
      have h2:(es.toList.map (·.born))[i]?=some x.born:=by rw [List.getElem?_map,hx]; rfl
      have h3:(es.toList.map (·.born))[j]?=some x.born:=by rw [List.getElem?_map,hj,h1]; rfl
      have hi:=(List.getElem?_eq_some_iff.1 h2).1
      exact (List.getElem?_inj hi hst.2.1).1 (h2.trans h3.symm)
     subst hij
     rw [hp] at hq
     cases hq; rfl
   ·rintro (h1 | h1)
    ·exact .inl h1
    ·right
     have hij:=nodup_idx hn hq hp h1
     subst hij
     rw [hj] at hx
     cases hx; rfl
  ·rcases hal with rfl | rfl <;> exact ⟨rfl,rfl,rfl,by simp [setBlock],fun i _ hi => hset.2 i (fun e1 => hi (by rw [e1]))⟩
  ·rcases hal with rfl | rfl <;> simp [setBlock]
section laws
variable {ops:Array Oper} {rest:List Oper} {o:Oper} {a:Act} {Q:Exit→Act→World→Prop}
theorem wpList_maprange (hg:o.guard=none) (mo:Operand) (T kt et:TypeId) (hop:o.op=Op.range T mo) (hT:P.underlying T=some (.map kt et)) (hm:a.eval mo=.map (some mb)) (h:MapIs w mb d enc val m)
  (hK:∀ w',RangeOf w' mb w.heap.size enc val m (fun _ => False) m.length→Turn (fun _ => False) w w'→w'.heap.size=w.heap.size+1→wpList P ops Q rest (a.put o.dst (.pointer (some ⟨w.heap.size,0,none⟩))) w'):wpList P ops Q (o :: rest) a w:=by
 refine wpList_plain hg fun K' hK' => ?_
 obtain ⟨w',hrun,r1,r2,r3⟩:=h.run_range (P:=P) hT
 unfold Oper.wp
 simp [execOp,hop,hm,hrun,Result.andThen]
 exact hK' _ _ (hK w' r1 r2 r3)
theorem wpList_mapnext (hg:o.guard=none) (it:Operand) (hop:o.op=Op.next it false) (hit:a.eval it=.pointer (some ⟨r,0,none⟩)) (h:RangeOf w mb r enc val m seenK cnt)
  (hDone:(∀ p∈m,seenK p.1)→wpList P ops Q rest (a.put o.dst (.tuple #[.bool false])) w)
  (hMore:∀ (p:κ×β) (w':World) (cnt':Nat),p∈m→¬ seenK p.1→RangeOf w' mb r enc val m (fun k => seenK k∨k=p.1) cnt'→cnt' < cnt→Turn (fun j => j=r) w w'→w'.heap.size=w.heap.size →
   (Instr.entry (.pointer (some ⟨r,0,none⟩))).run P w'=.ok (.tuple #[enc p.1,val p.2]) w'→wpList P ops Q rest (a.put o.dst (.tuple #[.bool true,enc p.1,val p.2])) w'):wpList P ops Q (o :: rest) a w:=by
 refine wpList_plain hg fun K' hK' => ?_
 unfold Oper.wp
 rcases h.next (P:=P) o.type with ⟨h0,hrun⟩ | ⟨p,w',cnt',h1,h2,hrun,h3,h4,h5,h6,h7⟩
 ·simp [execOp,hop,hit,hrun,Result.andThen]
  exact hK' _ _ (hDone h0)
 ·simp [execOp,hop,hit,hrun,Result.andThen]
  exact hK' _ _ (hMore p w' cnt' h1 h2 h3 h4 h5 h6 h7)
end laws
end
end
section
open Go.RowKit Go.MapKept
open Go.ChangeMaps (setBlock)
set_option linter.unusedSectionVars false
theorem leftOf_born (es:Array MapEntry) (seen:Array Nat):(Go.leftOf es seen).size=((es.toList.map (·.born)).filter fun b => !seen.contains b).length:=by
 unfold Go.leftOf
 rw [← Array.length_toList,Array.toList_filter,List.filter_map,List.length_map]
 rfl
end
section
open Go.RowKit Go.MapKept
set_option linter.unusedSectionVars false
theorem filter_erase {α:Type} (p:α→Bool):∀ (l:List α) (j:Nat) (b:α),l[j]?=some b→p b=false→(l.eraseIdx j).filter p=l.filter p
 | [],j,b,h,_ => by simp at h
 | a :: l,0,b,h,hp => by
  simp only [List.getElem?_cons_zero,Option.some.injEq] at h
  subst h
  rw [List.eraseIdx_cons_zero,List.filter_cons,hp]
  rfl
 | a :: l,j+1,b,h,hp => by
  rw [List.getElem?_cons_succ] at h
  rw [List.eraseIdx_cons_succ,List.filter_cons,List.filter_cons,filter_erase p l j b h hp]
section
variable {κ β:Type} [DecidableEq κ] {d:TypeDesc} {enc:κ→Value} {val:β→Value} {w:World} {mb r cnt:Nat} {m:List (κ×β)} {P:Program} {seenK:κ→Prop}
theorem RangeOf.run_delete (h:RangeOf w mb r enc val m seenK cnt) (K:KeyEnc d enc) {T kt et ty:TypeId} (hT:P.underlying T=some (.map kt et)) (hd:P.underlying kt=some d) (k:κ) (v0:β) (hk:mget m k=some v0) (hsk0:seenK k) :
  ∃ w',(Builtin.delete_ #[T,kt] ty #[.map (some mb),enc k]).run P w=.ok (.tuple #[]) w'∧RangeOf w' mb r enc val (mdel m k) seenK cnt∧MapIs w' mb d enc val (mdel m k)∧Turn (fun j => j=mb) w w':=by
 have hne:=h.lt.2.2
 obtain ⟨es,clock,since,seen,c0,hb,hst,hm,hn,hr,hold,hcnt,hsn,hsc,hsk⟩:=h
 have hMap:MapIs w mb d enc val m:=⟨⟨es,clock,hb,hst,hm⟩,hn⟩
 rcases find_cases K hm hn k with ⟨_,h2⟩ | ⟨j,e,v1,h1,he,h3,h4,h5,h6⟩
 ·rw [hk] at h2; cases h2
 ·obtain ⟨w1,hrun,hM1,ht1⟩:=hMap.run_delete (P:=P) (ty:=ty) K hT hd k
  have hrun2:(Builtin.delete_ #[T,kt] ty #[.map (some mb),enc k]).run P w=.ok (.tuple #[]) { w with heap:=w.heap.setIfInBounds mb (.map (es.eraseIdxIfInBounds j) clock) }:=by
   simp [Builtin.delete_,run_underlying hT,MapKept.run_getObj_map hb,MapKept.run_checkKey hd (K.key k),MapKept.run_findKey hd h1,MapKept.run_setObj_map _ hb,Result.andThen]
  have hw:w1={ w with heap:=w.heap.setIfInBounds mb (.map (es.eraseIdxIfInBounds j) clock) }:=by
   have:=hrun.symm.trans hrun2
   injection this
  have hj:j < es.size:=(Array.getElem?_eq_some_iff.1 he).1
  have e1:(es.eraseIdxIfInBounds j).toList=es.toList.eraseIdx j:=by
   unfold Array.eraseIdxIfInBounds
   rw [dif_pos hj]; simp
  have hel:es.toList[j]?=some e:=by rw [Array.getElem?_toList]; exact he
  have hseen:seen.contains e.born=true:=(hsn j e _ hel h4).2 hsk0
  have hb1:w1.heap[mb]?=some (.map (es.eraseIdxIfInBounds j) clock):=by rw [hw]; exact (heap_set hb).1
  refine ⟨w1,hrun,?_,hM1,ht1⟩
  obtain ⟨⟨es1,cl1,hbb,hst1,hm1⟩,hn1⟩:=hM1
  rw [hb1] at hbb
  simp only [Option.some.injEq,Obj.map.injEq] at hbb
  obtain ⟨rfl,rfl⟩:=hbb
  refine ⟨_,_,since,seen,c0,hb1,hst1,hm1,hn1,?_,fun x hx => ?_,?_,fun i x p hx hp => ?_,hsc,hsk⟩
  ·rw [hw]
   exact ((heap_set hb).2 r hne).trans hr
  ·rw [e1] at hx
   exact hold x (List.mem_of_mem_eraseIdx hx)
  ·rw [leftOf_born,e1,map_eraseIdx']
   rw [filter_erase _ _ j e.born (by rw [List.getElem?_map,hel]; rfl) (by rw [hseen]; rfl),← leftOf_born]
   exact hcnt
  ·rw [e1,List.getElem?_eraseIdx] at hx
   rw [mdel_eraseIdx hn h4,List.getElem?_eraseIdx] at hp
   by_cases hij:i < j
   ·rw [if_pos hij] at hx hp
    exact hsn i x p hx hp
   ·rw [if_neg hij] at hx hp
    exact hsn (i+1) x p hx hp
end
end
section
open Go.RowKit Go.MapKept
set_option linter.unusedSectionVars false
section
variable {κ β:Type} [DecidableEq κ] {d:TypeDesc} {enc:κ→Value} {val:β→Value} {w:World} {mb:Option Nat} {r cnt:Nat} {m:List (κ×β)} {P:Program} {seenK:κ→Prop}
def OMapIs (w:World) (mb:Option Nat) (d:TypeDesc) (enc:κ→Value) (val:β→Value) (m:List (κ×β)):Prop:=(∃ b,mb=some b∧MapIs w b d enc val m)∨(mb=none∧m=[])
def ORangeOf (w:World) (mb:Option Nat) (r:Nat) (enc:κ→Value) (val:β→Value) (m:List (κ×β)) (seenK:κ→Prop) (cnt:Nat):Prop :=
 (∃ b,mb=some b∧RangeOf w b r enc val m seenK cnt)∨(mb=none∧m=[]∧∃ x y z,w.heap[r]?=some (.mapIter none x y z))
theorem ORangeOf.turned {S:Nat→Prop} {w':World} (h:ORangeOf w mb r enc val m seenK cnt) (t:Turn S w w') (h1:∀ b,mb=some b→¬ S b) (h2:¬ S r):ORangeOf w' mb r enc val m seenK cnt:=by
 rcases h with ⟨b,rfl,h⟩ | ⟨rfl,h0,x,y,z,hr⟩
 ·exact .inl ⟨b,rfl,h.turned t (h1 b rfl) h2⟩
 ·exact .inr ⟨rfl,h0,x,y,z,(t.block r (Array.getElem?_eq_some_iff.1 hr).1 h2).trans hr⟩
section laws
variable {ops:Array Oper} {rest:List Oper} {o:Oper} {a:Act} {Q:Exit→Act→World→Prop}
theorem wpList_orange (hg:o.guard=none) (mo:Operand) (T kt et:TypeId) (hop:o.op=Op.range T mo) (hT:P.underlying T=some (.map kt et)) (hm:a.eval mo=.map mb) (h:OMapIs w mb d enc val m)
  (hK:∀ w',ORangeOf w' mb w.heap.size enc val m (fun _ => False) m.length→Turn (fun _ => False) w w'→w'.heap.size=w.heap.size+1→wpList P ops Q rest (a.put o.dst (.pointer (some ⟨w.heap.size,0,none⟩))) w'):wpList P ops Q (o :: rest) a w:=by
 rcases h with ⟨b,rfl,h⟩ | ⟨rfl,h0⟩
 ·exact wpList_maprange hg mo T kt et hop hT hm h fun w' h1 h2 h3 => hK w' (.inl ⟨b,rfl,h1⟩) h2 h3
 ·refine wpList_plain hg fun K' hK' => ?_
  have hrun:=run_range_nilMap w T kt et hT
  unfold Oper.wp
  simp [execOp,hop,hm,hrun,Result.andThen]
  exact hK' _ _ (hK _ (.inr ⟨rfl,h0,_,_,_,(MapKept.heap_alloc w _).1⟩) ((Turn.refl _ _).alloc _) (by simp))
theorem wpList_onext (hg:o.guard=none) (it:Operand) (hop:o.op=Op.next it false) (hit:a.eval it=.pointer (some ⟨r,0,none⟩)) (h:ORangeOf w mb r enc val m seenK cnt)
  (hDone:(∀ p∈m,seenK p.1)→wpList P ops Q rest (a.put o.dst (.tuple #[.bool false])) w)
  (hMore:∀ (p:κ×β) (w':World) (cnt':Nat),p∈m→¬ seenK p.1→ORangeOf w' mb r enc val m (fun k => seenK k∨k=p.1) cnt'→cnt' < cnt→Turn (fun j => j=r) w w'→w'.heap.size=w.heap.size →
   (Instr.entry (.pointer (some ⟨r,0,none⟩))).run P w'=.ok (.tuple #[enc p.1,val p.2]) w'→wpList P ops Q rest (a.put o.dst (.tuple #[.bool true,enc p.1,val p.2])) w'):wpList P ops Q (o :: rest) a w:=by
 rcases h with ⟨b,rfl,h⟩ | ⟨rfl,h0,x,y,z,hr⟩
 ·exact wpList_mapnext hg it hop hit h hDone fun p w' cnt' h1 h2 h3 h4 h5 h6 h7 => hMore p w' cnt' h1 h2 (.inl ⟨b,rfl,h3⟩) h4 h5 h6 h7
 ·refine wpList_plain hg fun K' hK' => ?_
  have hrun:(Instr.next (.pointer (some ⟨r,0,none⟩)) false o.type).run P w=.ok (.tuple #[.bool false]) w:=by
   simp only [Instr.next,getObj,Sem.run_bind,Sem.run,hr,Result.andThen]
   rfl
  unfold Oper.wp
  simp [execOp,hop,hit,hrun,Result.andThen]
  exact hK' _ _ (hDone (fun p hp => by rw [h0] at hp; cases hp))
end laws
end
end
section
open Go.RowKit Go.MapKept
section
variable {w w' w1 w2 w3 wr:World} {rb nm lb b d c dn:Nat} {T T1 T2:PT} {D:Int→Nat} {p p' q nn:PN} {n k:Int} {s:ByteArray}
structure LedIs (w:World) (lb:Nat) (S:List Int):Prop where
 ex:∃ L:List (Int×Int),MapIs w lb (.int .i64) encI encI L∧(∀ n,(mget L n).isSome=true ↔ n=0∨n∈S)∧∀ n v,mget L n=some v→1≤v∧v≤1+S.length
theorem LedIs.turned {X:Nat→Prop} {S:List Int} (h:LedIs w lb S) (t:Turn X w w') (hn:¬ X lb):LedIs w' lb S:=by
 obtain ⟨L,h1,h2⟩:=h.ex
 exact ⟨L,h1.turned t hn,h2⟩
theorem LedIs.lt {S:List Int} (h:LedIs w lb S):lb < w.heap.size:=by
 obtain ⟨L,h1,h2⟩:=h.ex
 exact h1.lt
theorem zeroI (w:World):(zeroValue 3).run Tryz.prog w=.ok (encI 0) w:=by kernel_rfl
theorem LedIs.more {S:List Int} (h:LedIs w lb S) (n:Int) (hS:S.length≤1000000000):∃ v w1,(Instr.lookup 59 (.map (some lb)) (.int .i64 n) false).run Tryz.prog w=.ok (.int .i64 v) w∧IntKind.i64.wrap (v+1)=v+1 ∧
  (Instr.mapUpdate 59 (.map (some lb)) (.int .i64 n) (.int .i64 (v+1))).run Tryz.prog w=.ok () w1∧LedIs w1 lb (n :: S)∧Turn (fun j => j=lb) w w1:=by
 obtain ⟨L,h1,h2,h3⟩:=h.ex
 have lk:=h1.run_lookup (P:=Tryz.prog) keyI Tryz.underlying59 Tryz.underlying3 (zeroI w) n false
 obtain ⟨v,hv,hb⟩:∃ v,(Instr.lookup 59 (.map (some lb)) (.int .i64 n) false).run Tryz.prog w=.ok (.int .i64 v) w∧0≤v∧v≤1+S.length:=by
  cases hg:mget L n with
  | none => rw [hg] at lk; exact ⟨0,lk,by omega,by omega⟩
  | some v => rw [hg] at lk; have:=h3 n v hg; exact ⟨v,lk,by omega,by omega⟩
 obtain ⟨w1,hrun,hm,t⟩:=h1.run_update (P:=Tryz.prog) keyI Tryz.underlying59 Tryz.underlying3 n (v+1)
 refine ⟨v,w1,hv,IntWalk.i64_in _ (by omega),hrun,⟨mput L n (v+1),hm,fun m => ?_,fun m u hu => ?_⟩,t⟩
 ·rw [mget_mput,List.mem_cons]
  by_cases e:m=n
  ·rw [if_pos e]; simp [e]
  ·rw [if_neg e,h2]; simp [e]
 ·rw [mget_mput] at hu
  rw [List.length_cons]
  by_cases e:m=n
  ·rw [if_pos e] at hu; cases hu; exact ⟨by omega,by omega⟩
  ·rw [if_neg e] at hu; have:=h3 m u hu; exact ⟨this.1,by omega⟩
theorem LedIs.look {S:List Int} (h:LedIs w lb S) (n:Int):∃ v,(Instr.lookup 59 (.map (some lb)) (.int .i64 n) false).run Tryz.prog w=.ok (.int .i64 v) w∧(v == 0)=!(decide (n=0∨n∈S)):=by
 obtain ⟨L,h1,h2,h3⟩:=h.ex
 have lk:=h1.run_lookup (P:=Tryz.prog) keyI Tryz.underlying59 Tryz.underlying3 (zeroI w) n false
 cases hg:mget L n with
 | none =>
  rw [hg] at lk
  refine ⟨0,lk,?_⟩
  have:¬ (n=0∨n∈S):=fun e => by have:=(h2 n).2 e; rw [hg] at this; cases this
  rw [decide_eq_false this]; rfl
 | some v =>
  rw [hg] at lk
  refine ⟨v,lk,?_⟩
  have:n=0∨n∈S:=(h2 n).1 (by rw [hg]; rfl)
  have hv:=h3 n v hg
  rw [decide_eq_true this]
  simp; omega
theorem RTreeIn.omap (h:RTreeIn w rb nm T D) (hok:TOk T) (hn:mget T n=some q):OMapIs w (if q.isDir then some (D n) else none) .string encS encI q.ds:=by
 cases hd:q.isDir with
 | true => exact .inl ⟨D n,by simp,h.dir n q hn hd⟩
 | false => exact .inr ⟨by simp,hok.file n q hn hd⟩
def ledL (T:PT):List Int:=T.flatMap fun t => t.2.ds.map (·.2)
def keepB (T:PT) (t:Int×PN):Bool:=decide (t.1=0∨t.1∈ledL T) || decide (t.2.held≠0)
def sweptT (T:PT):PT:=T.filter (keepB T)
theorem ledL_mem (hok:TOk T) (t:Int):t∈ledL T ↔ ∃ n q s,mget T n=some q∧(s,t)∈q.ds:=by
 unfold ledL
 rw [List.mem_flatMap]
 constructor
 ·rintro ⟨⟨n,q⟩,hm,h⟩
  obtain ⟨⟨s,u⟩,h1,h2⟩:=List.mem_map.1 h
  simp only at h2
  subst h2
  exact ⟨n,q,s,mget_mem hok.nd hm,h1⟩
 ·rintro ⟨n,q,s,h1,h2⟩
  exact ⟨(n,q),mem_of_mget h1,List.mem_map.2 ⟨(s,t),h2,rfl⟩⟩
def midT (T:PT) (sk:List Int):PT:=T.filter fun t => decide (t.1 ∉ sk) || keepB T t
theorem midT_nil:midT T []=T:=by
 unfold midT
 simp
theorem midT_keep (hnd:MNodup T) (hn:mget T n=some q) (hk:keepB T (n,q)=true) (sk:List Int):midT T (n :: sk)=midT T sk:=by
 unfold midT
 refine List.filter_congr fun t ht => ?_
 by_cases e:t.1=n
 ·have h1:=mget_mem hnd ht
  rw [e,hn] at h1
  have:t=(n,q):=by rw [← e]; exact Prod.ext rfl (Option.some.inj h1).symm
  rw [this,hk]; simp
 ·simp [e]
theorem midT_drop (hnd:MNodup T) (hn:mget T n=some q) (hk:keepB T (n,q)=false) (sk:List Int):midT T (n :: sk)=mdel (midT T sk) n:=by
 unfold midT mdel
 rw [List.filter_filter]
 refine List.filter_congr fun t ht => ?_
 by_cases e:t.1=n
 ·have h1:=mget_mem hnd ht
  rw [e,hn] at h1
  have:t=(n,q):=by rw [← e]; exact Prod.ext rfl (Option.some.inj h1).symm
  rw [this,hk]; simp
 ·simp [e]
theorem midT_end {sk:List Int} (h:∀ t∈midT T sk,t.1∈sk):midT T sk=sweptT T:=by
 unfold sweptT
 refine List.filter_congr fun t ht => ?_
 cases hk:keepB T t with
 | true => simp
 | false =>
  by_cases e:t.1∈sk
  ·simp [e]
  ·exact absurd (h t (List.mem_filter.2 ⟨ht,by simp [e]⟩)) e
section
variable {κ β:Type} [DecidableEq κ] {d:TypeDesc} {enc:κ→Value} {val:β→Value} {w:World} {mb r cnt:Nat} {m:List (κ×β)} {P:Program} {seenK:κ→Prop} {ops:Array Oper} {rest:List Oper} {o:Oper} {a:Act} {Q:Exit→Act→World→Prop}
theorem wpList_rangedelT (hg:o.guard=none) (mo x:Operand) (T kt et:TypeId) (hop:o.op=Op.call { callee:=Callee.builtin Builtin.delete,args:=#[mo,x],argTypes:=#[T,kt] }) (hT:P.underlying T=some (.map kt et)) (hd:P.underlying kt=some d) (K:KeyEnc d enc)
  (hm:a.eval mo=.map (some mb)) (h:RangeOf w mb r enc val m seenK cnt) (k:κ) (hx:a.eval x=enc k) (v0:β) (hk:mget m k=some v0) (hs:seenK k)
  (hK:∀ w',RangeOf w' mb r enc val (mdel m k) seenK cnt→MapIs w' mb d enc val (mdel m k)→Turn (fun j => j=mb) w w'→wpList P ops Q rest (a.put o.dst (.tuple #[])) w'):wpList P ops Q (o :: rest) a w:=by
 refine wpList_plain hg fun K' hK' => ?_
 obtain ⟨w',hrun,r1,r2,r3⟩:=h.run_delete (ty:=o.type) K hT hd k v0 hk hs
 unfold Oper.wp
 simp [execOp,hop,resolve,invoke,builtin,hm,hx,hrun,Result.andThen]
 exact hK' _ _ (hK w' r1 r2 r3)
end
theorem rsweep_is (h:RTreeIn w rb nm T D) (hok:TOk T) (hb:∀ n p,mget T n=some p→p.ds.length≤1000000) :
  Calls Tryz.prog 48 #[.pointer (some ⟨rb,0,none⟩)] w fun e w' => e=.returned (.tuple #[])∧RTreeIn w' rb nm (sweptT T) D∧Turn (fun k => k=nm) w w':=by
 have H:=hid h
 have HOk:=hid hok
 have HB:=hid hb
 have f1:=@rfld1
 have hmm:=@run_makeMap Tryz.prog
 obtain ⟨w1,hrun1,hm1,t1⟩:=(MapIs.made (d:=.int .i64) (enc:=encI) (val:=encI) w).run_update (P:=Tryz.prog) keyI Tryz.underlying59 Tryz.underlying3 0 1
 replace hrun1:(Instr.mapUpdate 59 (.map (some w.heap.size)) (.int .i64 0) (.int .i64 1)).run Tryz.prog (w.alloc (.map #[] 0))=.ok () w1:=hrun1
 have HL1:Hid (LedIs w1 w.heap.size []):=hid ⟨_,hm1,fun n => by rw [mget_mput]; by_cases e:n=0 <;> simp [e,mget],fun n v hv => by
  rw [mget_mput] at hv
  by_cases e:n=0
  ·rw [if_pos e] at hv; cases hv; exact ⟨by omega,by simp⟩
  ·rw [if_neg e] at hv; simp [mget] at hv⟩
 have tw1:Turn (fun _ => False) w w1:=((Turn.refl (fun _ => False) w).alloc _).trans' t1 (fun k hk e => by omega)
 have hin1:=h.turned tw1 (fun _ _ => id)
 have hh:=hin1.hdr
 have HM1:=hid hin1.mp
 have HW1:=hid tw1
 obtain ⟨lb,hlb⟩:∃ lb,w.heap.size=lb:=⟨_,rfl⟩
 have HLb:=hid hlb
 have HLb1:=hid HL1.out.lt
 rw [hlb] at hrun1 HL1 HLb1
 have hmm0:∀ t,(Instr.makeMap t none).run Tryz.prog w=.ok (.map (some lb)) (w.alloc (.map #[] 0)):=fun t => by rw [← hlb]; exact hmm t w
 have HLn:Hid ((rlist D T).length=T.length):=hid (by unfold rlist; rw [List.length_map])
 clear h hok hb hm1 t1 tw1 hin1 hlb hmm
 go_enter Tryz.func48,Tryz.ntmps48
 go_wp2_with (at_range; refine wpList_maprange rfl _ _ 3 77 rfl Tryz.underlying63 rfl HM1.out ?_; intro w2 hR2 t2 hs2; have HR2:=hid hR2; have HT2:=hid t2; clear hR2 t2 hs2)
 obtain ⟨r,hrr⟩:∃ r,w1.heap.size=r:=⟨_,rfl⟩
 rw [hrr] at HR2
 rw [hrr]
 have HWr:=hid hrr
 clear hrr hh
 go_frame
 go_loopg [] ((rlist D T).length) (fun g wr => ∃ (seenK:Int→Prop) (S:List Int),Hid (RangeOf wr nm r encI rnodeV (rlist D T) seenK g)∧Hid (LedIs wr lb S)∧Hid (∀ t,t∈S ↔ ∃ n q s,mget T n=some q∧seenK n∧(s,t)∈q.ds)∧S.length+g * 1000000≤60000000∧Hid (Turn (fun _ => False) w wr))
 case atStart => exact ⟨_,[],HR2,hid (HL1.out.turned HT2.out id),hid (fun t => by simp),by have:=HLn.out; have:=HOk.out.size; simp only [List.length_nil]; omega,hid (HW1.out.trans HT2.out)⟩
 case round =>
  clear HR2 HT2
  obtain ⟨seenK,S,hR,hL,hS,hlen,hT⟩:=hrel
  have hh:=(H.out.turned hT.out (fun _ _ => id)).hdr
  go_wp2_with (at_next; refine wpList_mapnext rfl _ rfl rfl hR.out ?_ ?_)
  ·intro hall
   have hSL:∀ t,t∈S ↔ t∈ledL T:=fun t => by
    rw [hS.out t,ledL_mem HOk.out]
    constructor
    ·rintro ⟨n,q,s,h1,_,h2⟩; exact ⟨n,q,s,h1,h2⟩
    ·rintro ⟨n,q,s,h1,h2⟩
     exact ⟨n,q,s,h1,hall n (D n) q (mem_of_mget (by rw [rlist_get,h1]; rfl)),h2⟩
   have HSL:=hid hSL
   have HinR:=hid (H.out.turned hT.out (fun _ _ => id))
   have HM2:=hid HinR.out.mp
   clear hall hSL hR hS hlen
   go_wp2_with (at_range; refine wpList_maprange rfl _ _ 3 77 rfl Tryz.underlying63 rfl HM2.out ?_; intro w3 hR3 t3 hs3; have HR3:=hid hR3; have HT3:=hid t3; clear hR3 t3 hs3)
   obtain ⟨r3,hr3⟩:∃ r3,wr.heap.size=r3:=⟨_,rfl⟩
   rw [hr3] at HR3
   rw [hr3]
   have HL3:=hid (hL.out.turned HT3.out id)
   have HIn3:=hid (HinR.out.turned HT3.out (fun _ _ => id))
   have HT33:=hid ((hT.out.trans HT3.out).mono (fun k (_:k < w.heap.size) (h:False) => (h.elim:k=nm)))
   have HNe:Hid (r3≠lb∧r3≠nm∧r3≠rb∧w.heap.size≤r3∧nm≠lb∧(∀ j,RFoot rb nm T D j→j≠r3)):=hid (by
    have h1:=hL.out.lt
    have h3:=hT.out.size
    have h5:=HLb.out
    have h6:=H.out.mp.lt
    refine ⟨by omega,by omega,?_,by omega,by omega,fun j hj => ?_⟩
    ·have:=H.out.foot_lt rb (.inl rfl); omega
    ·have:=H.out.foot_lt j hj; omega)
   clear hr3 hh HM2 HinR hL hT HT3
   go_frame
   go_loopg [] ((rlist D T).length) (fun g wr => ∃ (seenK:Int→Prop) (sk:List Int),Hid (RangeOf wr nm r3 encI rnodeV (rlist D (midT T sk)) seenK g)∧Hid (∀ k,seenK k ↔ k∈sk)∧Hid (LedIs wr lb S)∧Hid (RTreeIn wr rb nm (midT T sk) D)∧Hid (Turn (fun k => k=nm) w wr))
   case atStart => exact ⟨_,[],by rw [midT_nil]; exact HR3,hid (fun k => by simp),HL3,by rw [midT_nil]; exact HIn3,HT33⟩
   case round =>
    clear HR3 HL3 HIn3 HT33
    obtain ⟨seenK,sk,hR,hK,hL,hI,hT⟩:=hrel
    have hndM:MNodup (midT T sk):=List.Nodup.sublist (List.Sublist.map _ List.filter_sublist) HOk.out.nd
    have HNdM:=hid hndM
    have hh:=hI.out.hdr
    clear hndM
    go_wp2_with (at_next; refine wpList_mapnext rfl _ rfl rfl hR.out ?_ ?_)
    ·intro hall
     have hend:midT T sk=sweptT T:=midT_end (fun t ht => (hK.out t.1).1 (hall t.1 (D t.1) t.2 (by unfold rlist; exact List.mem_map.2 ⟨t,ht,rfl⟩)))
     have HFin:Hid (RTreeIn wr rb nm (sweptT T) D):=hid (hend ▸ hI.out)
     clear hall hend hh
     go_wp2_with fail
     go_end0
     exact ⟨rfl,HFin.out,hT.out⟩
    ·intro n dn q w5 cnt' hpm hns hR5 hlt5 t5 hsz5 hen
     (try simp only at hns hen)
     obtain ⟨hdn,hqM⟩:D n=dn∧mget (midT T sk) n=some q:=by
      have h1:=mget_mem (rlist_nodup D HNdM.out) hpm
      rw [rlist_get] at h1
      cases hg:mget (midT T sk) n with
      | none => rw [hg] at h1; cases h1
      | some q' => rw [hg] at h1; cases h1; exact ⟨rfl,rfl⟩
     subst hdn
     have hq:mget T n=some q:=mget_mem HOk.out.nd (List.mem_filter.1 (mem_of_mget hqM)).1
     unfold rnodeV encI at hen
     simp only at hen
     obtain ⟨om,hom⟩:∃ om,(if q.isDir=true then some (D n) else none)=om:=⟨_,rfl⟩
     obtain ⟨bq,hbq⟩:∃ bq,q.isDir=bq:=⟨_,rfl⟩
     rw [hom,hbq] at hen
     obtain ⟨W,hW⟩:∃ W,w5.alloc (.cells #[.map om,.bool bq,.string q.data,.int .i64 (q.held:Int)] 77)=W:=⟨_,rfl⟩
     have t6:Turn (fun _ => False) w5 W:=by rw [← hW]; exact (Turn.refl _ _).alloc _
     have HR6:=hid (hR5.turned t6 id id)
     have HL6:=hid ((hL.out.turned t5 (fun e => HNe.out.1 e.symm)).turned t6 id)
     have hfm:∀ j,RFoot rb nm (midT T sk) D j→RFoot rb nm T D j:=fun j hj => by
      rcases hj with h | h | ⟨m,q',h1,h2,h3⟩
      ·exact .inl h
      ·exact .inr (.inl h)
      ·exact .inr (.inr ⟨m,q',mget_mem HOk.out.nd (List.mem_filter.1 (mem_of_mget h1)).1,h2,h3⟩)
     have HI6:=hid ((hI.out.turned t5 (fun j hj => HNe.out.2.2.2.2.2 j (hfm j hj))).turned t6 (fun _ _ => id))
     have HT6:=hid ((hT.out.trans' t5 (fun k hk e => absurd e (by have:=HNe.out.2.2.2.1; omega))).trans (t6.mono (fun _ _ h => h.elim)))
     obtain ⟨v,lk,hv⟩:=HL6.out.look n
     have hh6:=HI6.out.hdr
     rw [← hW] at lk hh6
     have HQ:=hid hq
     have HQM:=hid hqM
     have HK2:Hid (∀ k,(seenK k∨k=n) ↔ k∈n :: sk):=hid (fun k => by rw [List.mem_cons,hK.out k]; exact or_comm)
     have HWq:=hid hW
     clear hpm hns hR5 t5 t6 hfm hq hqM hom hbq hW hR hL hI hT hh hK
     by_cases hled:n=0∨n∈S
     ·have hvb:(v == 0)=false:=by rw [hv,decide_eq_true hled]; rfl
      have hkeep:keepB T (n,q)=true:=by
       unfold keepB
       rw [decide_eq_true (show n=0∨n∈ledL T from hled.imp id (HSL.out n).1)]; rfl
      have HKeep:=hid hkeep
      clear hv hled hkeep
      go_wp2_with fail
      go_roundg cnt'
      case measure => omega
      case rel =>
       rw [HWq.out]
       exact ⟨_,n :: sk,by rw [midT_keep HOk.out.nd HQ.out HKeep.out]; exact HR6,HK2,HL6,by rw [midT_keep HOk.out.nd HQ.out HKeep.out]; exact HI6,HT6⟩
     ·have hvb:(v == 0)=true:=by rw [hv,decide_eq_false hled]; rfl
      by_cases hheld:q.held=0
      ·have hkeep:keepB T (n,q)=false:=by
        unfold keepB
        rw [decide_eq_false (fun e => hled (e.imp id (HSL.out n).2))]
        simp [hheld]
       have HKeep:=hid hkeep
       have hhb:((q.held:Int) == 0)=true:=by simp [hheld]
       have HVn:Hid (mget (rlist D (midT T sk)) n=some (D n,q)):=hid (by rw [rlist_get,HQM.out]; rfl)
       rw [← HWq.out] at HR6
       clear hv hled hkeep hheld
       go_wp2_with (at_delete; refine wpList_rangedelT rfl _ _ 63 3 77 rfl Tryz.underlying63 Tryz.underlying3 keyI rfl HR6.out n rfl (D n,q) HVn.out (.inr rfl) ?_; intro w8 hr8 hm8 t8; have HR8:=hid hr8; have HM8:=hid hm8; have HT8:=hid t8; clear hr8 hm8 t8)
       go_roundg cnt'
       case measure => omega
       case rel =>
        have t8:=HT8.out
        rw [HWq.out] at t8
        refine ⟨_,n :: sk,?_,HK2,hid (HL6.out.turned t8 (fun e => HNe.out.2.2.2.2.1 e.symm)),?_,hid (HT6.out.trans t8)⟩
        ·rw [midT_drop HOk.out.nd HQ.out HKeep.out,rlist_del]; exact HR8
        ·rw [midT_drop HOk.out.nd HQ.out HKeep.out]; exact hid (HI6.out.del HM8.out t8)
      ·have hkeep:keepB T (n,q)=true:=by
        unfold keepB
        simp [hheld]
       have HKeep:=hid hkeep
       have hhb:((q.held:Int) == 0)=false:=by simp [hheld]
       clear hv hled hkeep hheld
       go_wp2_with fail
       go_roundg cnt'
       case measure => omega
       case rel =>
        rw [HWq.out]
        exact ⟨_,n :: sk,by rw [midT_keep HOk.out.nd HQ.out HKeep.out]; exact HR6,HK2,HL6,by rw [midT_keep HOk.out.nd HQ.out HKeep.out]; exact HI6,HT6⟩
  ·intro n dn q w5 cnt' hpm hns hR5 hlt5 t5 hsz5 hen
   (try simp only at hns hen)
   obtain ⟨hdn,hq⟩:D n=dn∧mget T n=some q:=by
    have h1:=mget_mem (rlist_nodup D HOk.out.nd) hpm
    rw [rlist_get] at h1
    cases hg:mget T n with
    | none => rw [hg] at h1; cases h1
    | some q' => rw [hg] at h1; cases h1; exact ⟨rfl,rfl⟩
   subst hdn
   have tw5:Turn (fun _ => False) w w5:=hT.out.trans' t5 (fun k hk e => absurd e (by have:=HWr.out; have:=HW1.out.size; omega))
   unfold rnodeV at hen
   simp only at hen
   obtain ⟨om,hom⟩:∃ om,(if q.isDir=true then some (D n) else none)=om:=⟨_,rfl⟩
   obtain ⟨bq,hbq⟩:∃ bq,q.isDir=bq:=⟨_,rfl⟩
   rw [hom,hbq] at hen
   have hrn:r≠lb:=fun e => by have:=HWr.out; have:=HLb1.out; omega
   obtain ⟨W,hW⟩:∃ W,w5.alloc (.cells #[.map om,.bool bq,.string q.data,.int .i64 (q.held:Int)] 77)=W:=⟨_,rfl⟩
   have t6:Turn (fun _ => False) w5 W:=by rw [← hW]; exact (Turn.refl _ _).alloc _
   have HO:Hid (OMapIs W om .string encS encI q.ds):=hid (by
    rw [← hom]
    exact (H.out.turned (tw5.trans t6) (fun _ _ => id)).omap HOk.out hq)
   have HR6:=hid (hR5.turned t6 id id)
   have HL6:=hid ((hL.out.turned t5 (fun e => hrn e.symm)).turned t6 id)
   have HT6:=hid (tw5.trans t6)
   have HQ:=hid hq
   have HOm:=hid hom
   have HNs:=hid hns
   have HDl:=hid (HB.out n q hq)
   rw [← hW] at HO HR6 HL6 HT6
   clear hpm hns hR5 t5 hR hL hT tw5 t6 hW hrn hq hom hbq hh
   go_wp2_with (at_range; refine wpList_orange rfl _ 70 9 3 rfl Tryz.underlying70 rfl HO.out ?_; intro w7 hR7 t7 hs7; have HR7:=hid hR7; have HT7:=hid t7; clear hR7 t7 hs7)
   obtain ⟨W,hW⟩:∃ W,w5.alloc (.cells #[.map om,.bool bq,.string q.data,.int .i64 (q.held:Int)] 77)=W:=⟨_,rfl⟩
   rw [hW] at HR7 HT7 HR6 HL6 HT6 HO
   rw [hW]
   obtain ⟨r2,hr2⟩:∃ r2,W.heap.size=r2:=⟨_,rfl⟩
   rw [hr2] at HR7
   rw [hr2]
   have HR27:=hid (HR6.out.turned HT7.out id id)
   have HL7:=hid (HL6.out.turned HT7.out id)
   have HT77:=hid (HT6.out.trans HT7.out)
   have HNe:Hid (r2≠lb∧r2≠nm∧r2≠r∧w.heap.size≤r2∧(∀ b,om=some b→b≠r2∧b≠lb)∧nm≠lb∧r≠lb):=hid (by
    have h1:=HL6.out.lt
    have h2:=HR6.out.lt
    have h3:=HT6.out.size
    have h5:=HLb.out
    have h6:=H.out.mp.lt
    have h8:=HWr.out
    have h9:=HLb1.out
    refine ⟨by omega,by omega,by omega,by omega,fun b hb => ?_,by omega,by omega⟩
    have h4:=HOm.out
    rw [hb] at h4
    cases hq:q.isDir with
    | false => rw [hq] at h4; cases h4
    | true =>
     rw [hq] at h4
     cases h4
     have h7:=(H.out.dir n q HQ.out hq).lt
     exact ⟨by omega,by omega⟩)
   clear hW hr2 HR6 HL6 HT6 HT7 HO
   go_frame
   go_loopg [] (q.ds.length) (fun g wr => ∃ (seenS:ByteArray→Prop) (S2:List Int),Hid (ORangeOf wr om r2 encS encI q.ds seenS g)∧Hid (LedIs wr lb S2)∧Hid (∀ t,t∈S2 ↔ t∈S∨∃ s,seenS s∧(s,t)∈q.ds)∧S2.length+g≤S.length+q.ds.length∧Hid (RangeOf wr nm r encI rnodeV (rlist D T) (fun k => seenK k∨k=n) cnt')∧Hid (Turn (fun _ => False) w wr))
   case atStart => exact ⟨_,S,HR7,HL7,hid (fun t => by simp),Nat.le_refl _,HR27,HT77⟩
   case round =>
    clear HR7 HL7 HR27 HT77
    obtain ⟨seenS,S2,hR,hL,hS2,hlen2,hRn,hT⟩:=hrel
    go_wp2_with (at_next; refine wpList_onext rfl _ rfl rfl hR.out ?_ ?_)
    ·intro hall
     go_wp2_with fail
     go_roundg cnt'
     case measure => omega
     case rel =>
      refine ⟨_,S2,hRn,hL,hid (fun t => ?_),by have:=HDl.out; omega,hT⟩
      rw [hS2.out t,hS.out t]
      constructor
      ·rintro (⟨m,q',s,h1,h2,h3⟩ | ⟨s,h1,h2⟩)
       ·exact ⟨m,q',s,h1,.inl h2,h3⟩
       ·exact ⟨n,q,s,HQ.out,.inr rfl,h2⟩
      ·rintro ⟨m,q',s,h1,h2 | h2,h3⟩
       ·exact .inl ⟨m,q',s,h1,h2,h3⟩
       ·subst h2
        have h4:=HQ.out
        rw [h1] at h4
        cases h4
        exact .inr ⟨s,hall s t h3,h3⟩
    ·intro s u w8 cnt8 hpm hns hR8 hlt8 t8 hsz8 hen
     (try simp only at hns hen)
     unfold encI encS at hen
     have hL8:=hL.out.turned t8 (fun e => HNe.out.1 e.symm)
     obtain ⟨v,w9,lk9,hwr9,hrun9,hL9,t9⟩:=hL8.more u (by have:=HDl.out; omega)
     have HL9:=hid hL9
     have HR9:=hid (hR8.turned t9 (fun b hb => (HNe.out.2.2.2.2.1 b hb).2) HNe.out.1)
     have HRn9:=hid ((hRn.out.turned t8 (fun e => HNe.out.2.1 e.symm) (fun e => HNe.out.2.2.1 e.symm)).turned t9 HNe.out.2.2.2.2.2.1 HNe.out.2.2.2.2.2.2)
     have HT9:=hid ((hT.out.trans' t8 (fun k hk e => absurd e (by have:=HNe.out.2.2.2.1; omega))).trans' t9 (fun k hk e => absurd e (by have:=HLb.out; omega)))
     have HIn:Hid ((s,u)∈q.ds):=hid hpm
     clear hpm hns hR8 t8 hL8 hL9 t9 hR hL hRn hT
     go_wp2_with fail
     go_roundg cnt8
     case measure => omega
     case rel =>
      refine ⟨_,u :: S2,HR9,HL9,hid (fun t => ?_),by rw [List.length_cons]; omega,HRn9,HT9⟩
      rw [List.mem_cons,hS2.out t]
      constructor
      ·rintro (rfl | h | ⟨s',h1,h2⟩)
       ·exact .inr ⟨s,.inr rfl,HIn.out⟩
       ·exact .inl h
       ·exact .inr ⟨s',.inl h1,h2⟩
      ·rintro (h | ⟨s',h1 | h1,h2⟩)
       ·exact .inr (.inl h)
       ·exact .inr (.inr ⟨s',h1,h2⟩)
       ·subst h1
        have hnd:=HOk.out.dnd n q HQ.out
        have h3:=mget_mem hnd h2
        have h4:=mget_mem hnd HIn.out
        rw [h3] at h4
        cases h4
        exact .inl rfl
end
end
section
variable {w w' w1 w2 w3 wa:World} {rb nm b d c dn:Nat} {T T1 T2:PT} {B D:Int→Nat} {F:Nat→Prop} {p p' q nn:PN} {n k:Int} {s:ByteArray}
def heldOf (T:PT) (n:Int):Int:=(mget T n).elim 0 fun p => (p.held:Int)
def rholdE (T:PT) (n z:Int):Int:=if fileE T n≠0 then fileE T n else if heldOf T n+z < 0 then 10 else 0
def rholdT (T:PT) (n z:Int):PT:=if rholdE T n z=0 then sweptT (updN T n fun p => { p with held:=(p.held+z).toNat }) else T
theorem rfoot_swept (hok:TOk T) (k:Nat) (hk:RFoot rb nm (sweptT T) D k):RFoot rb nm T D k:=by
 rcases hk with h | h | ⟨m,r,hr,hrd,h⟩
 ·exact .inl h
 ·exact .inr (.inl h)
 ·exact .inr (.inr ⟨m,r,mget_mem hok.nd (List.mem_filter.1 (mem_of_mget hr)).1,hrd,h⟩)
theorem rhold_is (h:RTreeIn w rb nm T D) (hok:TOk T) (n z:Int) (hz1:-1≤z∧z≤1) (hb:∀ n p,mget T n=some p→p.ds.length≤1000000∧p.held≤1000000000) :
  Calls Tryz.prog 59 #[.pointer (some ⟨rb,0,none⟩),.int .i64 n,.int .i64 z] w fun e w' => e=.returned (.int .i64 (rholdE T n z))∧RTreeTo rb (RFoot rb nm T D) w w' (rholdT T n z):=by
 have H:=hid h
 have HOk:=hid hok
 have HB:=hid hb
 have HF:=hid (rfile_is h n)
 have HSame:Hid (rholdE T n z≠0→∀ w',Turn (fun _ => False) w w'→RTreeTo rb (RFoot rb nm T D) w w' (rholdT T n z)):=hid (fun hz w' tt => by
  have:rholdT T n z=T:=if_neg hz
  rw [this]
  exact RTreeTo.same ⟨nm,D,H.out,rfl⟩ tt)
 clear h hok hb
 go_enter Tryz.func59,Tryz.ntmps59
 go_wp2_with fail
 refine HF.out.mono ?_
 rintro e w1 ⟨rfl,t1⟩
 have HT1:=hid t1
 by_cases hz:fileE T n=0
 ·obtain ⟨p,hn,hd⟩:=fileE_zero hz
  have h1:=H.out.turned t1 (fun _ _ => id)
  have hh:=h1.hdr
  have lk:=h1.look hn
  rw [hd] at lk
  simp only [Bool.false_eq_true,if_false] at lk
  have hho:heldOf T n=p.held:=by unfold heldOf; rw [hn]; rfl
  have hbd:=(HB.out n p hn).2
  have h00:¬ (fileE T n≠0):=fun e => e hz
  have HN:=hid hn
  have HD:=hid hd
  have hwr:IntKind.i64.wrap ((p.held:Int)+z)=p.held+z:=IntWalk.i64_in _ (by omega)
  rw [hz]
  by_cases hs:(p.held:Int)+z < 0
  ·have hE:rholdE T n z=10:=by unfold rholdE; rw [if_neg h00,hho,if_pos hs]
   have HR:=hid (fun w' (tt:Turn (fun _ => False) w1 w') => HSame.out (by rw [hE]; decide) w' (HT1.out.trans tt))
   have HE:=hid hE
   clear hn hd hz h1 t1 h00 hho hE
   go_wp2_with fail
   go_returns
   rw [HE.out]
   exact ⟨rfl,HR.out _ ((Turn.refl _ _).alloc _)⟩
  ·have hE:rholdE T n z=0:=by unfold rholdE; rw [if_neg h00,hho,if_neg hs]
   obtain ⟨hn2,hh2⟩:∃ m:Nat,(p.held:Int)+z=m:=⟨((p.held:Int)+z).toNat,by omega⟩
   have hT:rholdT T n z=sweptT (mput T n { p with held:=hn2 }):=by
    unfold rholdT
    rw [if_pos hE,updN_is hn,show ((p.held:Int)+z).toNat=hn2 by omega]
   obtain ⟨W,hW⟩:∃ W,w1.alloc (.cells #[.map none,.bool false,.string p.data,.int .i64 ((p.held:Int)+z)] 77)=W:=⟨_,rfl⟩
   have tW:Turn (fun _ => False) w1 W:=by rw [← hW]; exact (Turn.refl _ _).alloc _
   have hhW:=(h1.turned tW (fun _ _ => id)).hdr
   obtain ⟨w3,hrun,hin3,t3,hf3⟩:=rstore_fin h1 hn hd { p with held:=hn2 } hd rfl tW.drew
   have hok3:TOk (mput T n { p with held:=hn2 }):=HOk.out.upd hn rfl rfl rfl (HOk.out.data n p hn)
   have hb3:∀ m q,mget (mput T n { p with held:=hn2 }) m=some q→q.ds.length≤1000000:=fun m q hq => by
    rcases put_get (q':={ p with held:=hn2 }) hn m q hq with ⟨_,rfl⟩ | ⟨_,h2⟩
    ·exact (HB.out n p hn).1
    ·exact (HB.out m q h2).1
   have HSw:=hid (rsweep_is hin3 hok3 hb3)
   have HTo:Hid (∀ w4,RTreeIn w4 rb nm (sweptT (mput T n { p with held:=hn2 })) D→Turn (fun k => k=nm) w3 w4→RTreeTo rb (RFoot rb nm T D) w w4 (rholdT T n z)):=hid (fun w4 h4 t4 => by
    rw [hT]
    exact ⟨_,⟨nm,D,h4,rfl⟩,((HT1.out.mono (fun _ _ h => h.elim)).trans t3).trans (t4.mono (fun j _ e => .inr (.inl e))),fun j hj => .inl (hf3 j (rfoot_swept hok3 j hj)),fun v hv => h4.hdr.trans (H.out.hdr.symm.trans hv)⟩)
   have HE:=hid hE
   simp only at hrun
   rw [← hh2] at hrun
   rw [← hW] at hhW hrun
   clear hn hd hz h1 t1 h00 hho hE hT hin3 t3 hf3 tW hW hok3 hb3 hh2
   go_wp2_with fail
   go_region
   all_goals go_wp2_with fail
   all_goals refine HSw.out.mono ?_
   all_goals rintro e w4 ⟨rfl,h4,t4⟩
   all_goals have HFin:=hid (HTo.out w4 h4 t4)
   all_goals clear h4 t4
   all_goals go_wp2_with fail
   all_goals go_returns
   all_goals rw [HE.out]
   all_goals exact ⟨rfl,HFin.out⟩
 ·have hE:rholdE T n z=fileE T n:=if_pos hz
  have HR:=hid (HSame.out (by rw [hE]; exact hz) w1 t1)
  have hzn:(fileE T n != 0)=true:=by simpa using hz
  have HE:=hid hE
  generalize fileE T n=zz at *
  clear hz hE t1
  go_wp2_with fail
  go_returns
  rw [HE.out]
  exact ⟨rfl,HR.out⟩
end
section
variable {w w' w1 w2 w3 wa:World} {rb nm b d c dn:Nat} {T T1 T2:PT} {B D:Int→Nat} {F:Nat→Prop} {p p' q nn:PN} {n k:Int} {s:ByteArray}
def runlinkT (T:PT) (path:ByteArray):PT :=
 if unlinkE T path=0 then (mget (dsT T (placeT T path).2.1) (placeT T path).2.2).elim T fun n =>
  sweptT (updN (updN T (placeT T path).2.1 fun p => { p with ds:=mdel p.ds (placeT T path).2.2 }) n fun q => { q with names:=q.names - 1 })
 else T
theorem runlink_is (h:RTreeIn w rb nm T D) (hok:TOk T) (path:ByteArray) (hs:path.size < 4294967281) (hb:∀ n p,mget T n=some p→p.ds.length≤1000000) :
  Calls Tryz.prog 19 #[.pointer (some ⟨rb,0,none⟩),.string path] w fun e w' => e=.returned (.int .i64 (unlinkE T path))∧RTreeTo rb (RFoot rb nm T D) w w' (runlinkT T path):=by
 have H:=hid h
 have HOk:=hid hok
 have HB:=hid hb
 have f0:=@rfld0
 have HP:=hid (rplace_is h hok path hs)
 have HSame:Hid (unlinkE T path≠0→∀ w',Turn (fun _ => False) w w'→RTreeTo rb (RFoot rb nm T D) w w' (runlinkT T path)):=hid (fun hz w' tt => by
  have:runlinkT T path=T:=if_neg hz
  rw [this]
  exact RTreeTo.same ⟨nm,D,H.out,rfl⟩ tt)
 clear h hok hb
 go_enter Tryz.func19,Tryz.ntmps19
 go_wp2_with fail
 refine HP.out.mono ?_
 rintro e w1 ⟨⟨hz,rfl⟩ | ⟨d,p,s,hpl,hd,hdir,rfl⟩,t1⟩
 ·have hE:unlinkE T path=(placeT T path).1:=if_pos hz
  have HR:=hid (HSame.out (by rw [hE]; exact hz) w1 t1)
  have hzn:((placeT T path).1 != 0)=true:=by simpa using hz
  have HE:=hid hE
  generalize (placeT T path).1=zz at *
  clear hz hE t1
  go_wp2_with fail
  go_returns
  rw [HE.out]
  exact ⟨rfl,HR.out⟩
 ·have h1:=H.out.turned t1 (fun _ _ => id)
  have H1:=hid h1
  have HT1:=hid t1
  have hds:dsT T d=p.ds:=by unfold dsT; rw [hd]; rfl
  have hdm:=h1.dir d p hd hdir
  have ln:=look_name hdm s
  have hh:=h1.hdr
  have HD:=hid hd
  have HDr:=hid hdir
  have HPl:=hid hpl
  have HDs:=hid hds
  cases hms:mget p.ds s with
  | none =>
   rw [hms] at ln
   simp only [Option.getD_none,Option.isSome_none] at ln
   have hE:unlinkE T path=7:=by
    unfold unlinkE
    rw [hpl,if_neg (by simp)]
    simp only
    rw [hds,hms]; rfl
   have HR:=hid (HSame.out (by rw [hE]; decide) w1 t1)
   have HE:=hid hE
   clear h1 hds hdm hms t1 hpl hd hdir hE
   go_wp2_with fail
   go_returns
   rw [HE.out]
   exact ⟨rfl,HR.out⟩
  | some n =>
   rw [hms] at ln
   simp only [Option.getD_some,Option.isSome_some] at ln
   obtain ⟨q,hq⟩:=HOk.out.link d p hd s n hms
   have lk:=h1.look hq
   have hdq:dsT T n=q.ds:=by unfold dsT; rw [hq]; rfl
   have hbq:=HB.out n q hq
   obtain ⟨m,hm⟩:∃ m,(if q.isDir=true then some (D n) else none)=m:=⟨_,rfl⟩
   obtain ⟨bq,hbq2⟩:∃ bq,q.isDir=bq:=⟨_,rfl⟩
   have hl:∀ ty,(Builtin.len_ #[70] ty #[.map m]).run Tryz.prog w1=.ok (.int .i64 (q.ds.length:Int)) w1:=by
    rw [← hm]
    cases hqd:q.isDir with
    | true => exact fun ty => (h1.dir n q hq hqd).run_len Tryz.underlying70 ty
    | false => exact fun ty => by rw [HOk.out.file n q hq hqd]; exact len_nil_map w1 ty
   rw [hm,hbq2] at lk
   have HQ:=hid hq
   have HMs:=hid hms
   have hE0:unlinkE T path=if dsT T n≠[] then 6 else 0:=by
    unfold unlinkE
    rw [hpl,if_neg (by simp)]
    simp only
    rw [hds,hms]; rfl
   by_cases h0:q.ds.length=0
   ·have hnil:q.ds=[]:=List.length_eq_zero_iff.1 h0
    have hE:unlinkE T path=0:=by rw [hE0,if_neg (by rw [hdq]; exact fun e => e hnil)]
    have hne:n≠d:=fun e => by
     rw [e,hd] at hq
     cases hq
     rw [hnil] at hms
     cases hms
    have hT:runlinkT T path=sweptT (mput (mput T d { p with ds:=mdel p.ds s }) n { q with names:=q.names - 1 }):=by
     unfold runlinkT
     rw [if_pos hE,hpl]
     simp only
     rw [hds,hms,updN_is hd]
     show sweptT (updN (mput T d { p with ds:=mdel p.ds s }) n _)=_
     rw [updN_is (p:=q) (by rw [mget_mput,if_neg hne]; exact hq)]
    have hl0:∀ ty,(Builtin.len_ #[70] ty #[.map m]).run Tryz.prog w1=.ok (.int .i64 0) w1:=fun ty => by rw [hl ty,h0]; rfl
    obtain ⟨w3,hrun,hm3,t3⟩:=hdm.run_delete (P:=Tryz.prog) (ty:=0) keyS Tryz.underlying70 Tryz.underlying9 s
    replace hrun:(Builtin.delete_ #[70,9] 0 #[.map (some (D d)),.string s]).run Tryz.prog w1=.ok (.tuple #[]) w3:=hrun
    have hin3:=h1.name HOk.out.nd hd hdir hm3 t3
    have hq3:mget (mput T d { p with ds:=mdel p.ds s }) n=some q:=by rw [mget_mput,if_neg hne]; exact hq
    have hin4:=hin3.count (mput_nodup HOk.out.nd d _) hq3 (q.names - 1)
    have hok4:=HOk.out.unlink_ hd hdir hq hne hms
    have hb4:∀ m r,mget (mput (mput T d { p with ds:=mdel p.ds s }) n { q with names:=q.names - 1 }) m=some r→r.ds.length≤1000000:=fun m r hr => by
     rcases put_get (q':={ q with names:=q.names - 1 }) hq3 m r hr with ⟨_,rfl⟩ | ⟨_,h2⟩
     ·exact hbq
     ·rcases put_get (q':={ p with ds:=mdel p.ds s }) hd m r h2 with ⟨_,rfl⟩ | ⟨_,h3⟩
      ·have h5:=HB.out d p hd
       have h6:(mdel p.ds s).length≤p.ds.length:=List.length_filter_le _ _
       show (mdel p.ds s).length≤1000000
       omega
      ·exact HB.out m r h3
    have HSw:=hid (rsweep_is hin4 hok4 hb4)
    have HTo:Hid (∀ w4,RTreeIn w4 rb nm (sweptT (mput (mput T d { p with ds:=mdel p.ds s }) n { q with names:=q.names - 1 })) D→Turn (fun k => k=nm) w3 w4→RTreeTo rb (RFoot rb nm T D) w w4 (runlinkT T path)):=hid (fun w4 h4 t4 => by
     rw [hT]
     exact ⟨_,⟨nm,D,h4,rfl⟩,((HT1.out.mono (fun _ _ h => h.elim)).trans (t3.mono (fun j _ e => .inr (.inr ⟨d,p,HD.out,HDr.out,e⟩)))).trans (t4.mono (fun j _ e => .inr (.inl e))),fun j hj => .inl (rfoot_put (q':={ p with ds:=mdel p.ds s }) HD.out rfl j (rfoot_put (q':={ q with names:=q.names - 1 }) hq3 rfl j (rfoot_swept hok4 j hj))),fun v hv => h4.hdr.trans (H.out.hdr.symm.trans hv)⟩)
    have HE:=hid hE
    clear h1 hds hdm hms t1 hpl hd hdir hE hE0 hne hT hm3 t3 hin3 hq3 hin4 hok4 hdq hl h0 hnil hq hbq hb4 hm hbq2
    go_wp2_with fail
    refine HSw.out.mono ?_
    rintro e w4 ⟨rfl,h4,t4⟩
    have HFin:=hid (HTo.out w4 h4 t4)
    clear h4 t4
    go_wp2_with fail
    go_returns
    rw [HE.out]
    exact ⟨rfl,HFin.out⟩
   ·have hE:unlinkE T path=6:=by rw [hE0,if_pos (by rw [hdq]; exact fun e => h0 (by rw [e]; rfl))]
    have HR:=hid (HSame.out (by rw [hE]; decide) w1 t1)
    have HE:=hid hE
    have hpos:(0:Int) < q.ds.length:=by omega
    clear h1 hds hdm hms t1 hpl hd hdir hE hE0 hdq h0 hq hm hbq2
    go_wp2_with fail
    go_returns
    rw [HE.out]
    exact ⟨rfl,HR.out⟩
end
section
variable {T:PT} {p q:PN} {n d:Int} {s:ByteArray}
def Alive (T:PT):Prop:=∀ n p,mget T n=some p→p.names≠0∨p.held≠0
theorem links_ledL (n:Int):0 < linksT n T ↔ n∈ledL T:=by
 unfold ledL
 rw [List.mem_flatMap]
 constructor
 ·intro h
  obtain ⟨t,ht,h1⟩:=linksT_some h
  obtain ⟨s,hs⟩:=linksIn_some h1
  exact ⟨t,ht,List.mem_map.2 ⟨(s,n),hs,rfl⟩⟩
 ·rintro ⟨t,ht,h⟩
  obtain ⟨⟨s,u⟩,h1,h2⟩:=List.mem_map.1 h
  simp only at h2
  subst h2
  have h3:=linksT_ge (n:=u) ht
  have h4:0 < linksIn u t.2.ds:=List.length_pos_of_mem (List.mem_filter.2 ⟨h1,by simp⟩)
  omega
theorem keepB_eq (hok:TOk T) (hn:mget T n=some p):keepB T (n,p)=(decide (p.names≠0) || decide (p.held≠0)):=by
 unfold keepB
 have h1:=hok.cnt n p hn
 have h2:=links_ledL (T:=T) n
 congr 1
 refine decide_eq_decide.2 ?_
 show (n=0∨n∈ledL T) ↔ p.names≠0
 rw [← h2]
 by_cases e:n=0
 ·rw [if_pos e] at h1
  exact ⟨fun _ => by omega,fun _ => .inl e⟩
 ·rw [if_neg e] at h1
  exact ⟨fun h => by rcases h with h | h <;> omega,fun h => .inr (by omega)⟩
theorem swept_gone (hok:TOk T) (hn:mget T n=some p) (ha:∀ m q,m≠n→mget T m=some q→q.names≠0∨q.held≠0):sweptT T=goneT T n p:=by
 have hkp:∀ t∈T,t.1≠n→keepB T t=true:=fun t ht e => by
  have h1:=mget_mem hok.nd ht
  have h2:=keepB_eq hok h1
  have h3:keepB T t=_:=h2
  rw [h3]
  rcases ha t.1 t.2 e h1 with h | h <;> simp [h]
 have hkn:∀ t∈T,t.1=n→keepB T t=(decide (p.names≠0) || decide (p.held≠0)):=fun t ht e => by
  have h1:=mget_mem hok.nd ht
  rw [e,hn] at h1
  have:t=(n,p):=by rw [← e]; exact Prod.ext rfl (Option.some.inj h1).symm
  rw [this]
  exact keepB_eq hok hn
 unfold goneT sweptT
 by_cases h:p.names=0∧p.held=0
 ·rw [if_pos h]
  unfold mdel
  refine List.filter_congr fun t ht => ?_
  by_cases e:t.1=n
  ·rw [hkn t ht e]; simp [e,h.1,h.2]
  ·rw [hkp t ht e]; simp [e]
 ·rw [if_neg h]
  refine List.filter_eq_self.2 fun t ht => ?_
  by_cases e:t.1=n
  ·rw [hkn t ht e]
   by_cases h1:p.names=0
   ·have h2:p.held≠0:=fun e2 => h ⟨h1,e2⟩
    simp [h2]
   ·simp [h1]
  ·exact hkp t ht e
theorem rhold_one (hok:TOk T) (ha:Alive T) (n:Int):rholdE T n 1=fileE T n∧rholdT T n 1=holdT T n:=by
 have hE:rholdE T n 1=fileE T n:=by
  unfold rholdE
  by_cases h:fileE T n=0
  ·rw [if_neg (fun e => e h),if_neg (by unfold heldOf; cases mget T n <;> simp only [Option.elim] <;> omega),h]
  ·rw [if_pos h]
 refine ⟨hE,?_⟩
 unfold rholdT
 rw [hE]
 by_cases h:fileE T n=0
 ·obtain ⟨p,hn,hd⟩:=fileE_zero h
  rw [if_pos h,updN_is hn]
  unfold holdT
  rw [hn]
  simp only [Option.elim]
  rw [if_neg (show ¬ p.isDir=true by rw [hd]; decide)]
  rw [show ((p.held:Int)+1).toNat=p.held+1 by omega]
  have hok2:TOk (mput T n { p with held:=p.held+1 }):=hok.upd hn rfl rfl rfl (hok.data n p hn)
  rw [swept_gone hok2 (n:=n) (p:={ p with held:=p.held+1 }) (by rw [mget_mput,if_pos rfl]) (fun m q hm hq => by rw [mget_mput,if_neg hm] at hq; exact ha m q hq)]
  unfold goneT
  rw [if_neg (fun e => by have:=e.2; simp at this)]
 ·rw [if_neg h]
  unfold holdT
  unfold fileE at h
  cases hn:mget T n with
  | none => rfl
  | some p =>
   rw [hn] at h
   simp only [Option.elim] at h ⊢
   cases hd:p.isDir with
   | true => rfl
   | false => rw [hd] at h; simp at h
theorem rhold_drop (hok:TOk T) (ha:Alive T) (n:Int):rholdE T n (-1)=dropE T n∧rholdT T n (-1)=dropT T n:=by
 cases hn:mget T n with
 | none =>
  have hf:fileE T n=7:=by unfold fileE; rw [hn]; rfl
  have hE:rholdE T n (-1)=7:=by unfold rholdE; rw [hf,if_pos (by decide)]
  have hT:rholdT T n (-1)=T:=if_neg (by rw [hE]; decide)
  rw [hE,hT]
  unfold dropE dropT
  rw [hn]
  exact ⟨rfl,rfl⟩
 | some p =>
  have hf:fileE T n=if p.isDir then 6 else 0:=by unfold fileE; rw [hn]; rfl
  have hh:heldOf T n=p.held:=by unfold heldOf; rw [hn]; rfl
  have hdE:dropE T n=if p.isDir then 6 else if p.held=0 then 10 else 0:=by unfold dropE; rw [hn]; rfl
  have hdT:dropT T n=if p.isDir then T else if p.held=0 then T else goneT (mput T n { p with held:=p.held - 1 }) n { p with held:=p.held - 1 }:=by unfold dropT; rw [hn]; rfl
  by_cases hd:p.isDir=true
  ·rw [if_pos hd] at hf hdE hdT
   have hE:rholdE T n (-1)=6:=by unfold rholdE; rw [hf,if_pos (by decide)]
   have hT:rholdT T n (-1)=T:=if_neg (by rw [hE]; decide)
   exact ⟨hE.trans hdE.symm,hT.trans hdT.symm⟩
  ·rw [if_neg hd] at hf hdE hdT
   by_cases h0:p.held=0
   ·rw [if_pos h0] at hdE hdT
    have hE:rholdE T n (-1)=10:=by unfold rholdE; rw [hf,hh,if_neg (by decide),if_pos (by omega)]
    have hT:rholdT T n (-1)=T:=if_neg (by rw [hE]; decide)
    exact ⟨hE.trans hdE.symm,hT.trans hdT.symm⟩
   ·rw [if_neg h0] at hdE hdT
    have hE:rholdE T n (-1)=0:=by unfold rholdE; rw [hf,hh,if_neg (by decide),if_neg (by omega)]
    refine ⟨hE.trans hdE.symm,?_⟩
    rw [hdT]
    unfold rholdT
    rw [if_pos hE,updN_is hn,show ((p.held:Int)+-1).toNat=p.held - 1 by omega]
    have hok2:TOk (mput T n { p with held:=p.held - 1 }):=hok.upd hn rfl rfl rfl (hok.data n p hn)
    exact swept_gone hok2 (by rw [mget_mput,if_pos rfl]) (fun m q hm hq => by rw [mget_mput,if_neg hm] at hq; exact ha m q hq)
theorem runlink_same (hok:TOk T) (ha:Alive T) (path:ByteArray):runlinkT T path=unlinkT T path:=by
 unfold runlinkT unlinkT
 by_cases hE:unlinkE T path=0
 ·rw [if_pos hE,if_pos hE]
  obtain ⟨d,hd⟩:∃ d,(placeT T path).2.1=d:=⟨_,rfl⟩
  obtain ⟨s,hs⟩:∃ s,(placeT T path).2.2=s:=⟨_,rfl⟩
  rw [hd,hs]
  cases hms:mget (dsT T d) s with
  | none => rfl
  | some n =>
   simp only [Option.elim]
   cases hp:mget T d with
   | none => unfold dsT at hms; rw [hp] at hms; simp [mget] at hms
   | some p =>
    have hms2:mget p.ds s=some n:=by unfold dsT at hms; rw [hp] at hms; exact hms
    have hdir:p.isDir=true:=by
     cases hpd:p.isDir with
     | true => rfl
     | false => rw [hok.file d p hp hpd] at hms2; cases hms2
    obtain ⟨q,hq⟩:=hok.link d p hp s n hms2
    have hqn:dsT T n=[]:=by
     by_cases e:dsT T n=[]
     ·exact e
     ·exfalso
      unfold unlinkE at hE
      by_cases e2:(placeT T path).1≠0
      ·rw [if_pos e2] at hE; exact e2 hE
      ·rw [if_neg e2,hd,hs,hms] at hE
       simp only [Option.elim] at hE
       rw [if_pos e] at hE
       cases hE
    have hne:n≠d:=fun e => by
     rw [e] at hqn
     rw [hqn] at hms
     cases hms
    rw [hq,updN_is hp,updN_is (p:=q) (by rw [mget_mput,if_neg hne]; exact hq)]
    have hok4:=hok.unlink_ hp hdir hq hne hms2
    refine swept_gone hok4 (by rw [mget_mput,if_pos rfl]) (fun m r hm hr => ?_)
    rw [mget_mput,if_neg hm,mget_mput] at hr
    by_cases e:m=d
    ·rw [if_pos e] at hr
     cases hr
     exact ha d p hp
    ·rw [if_neg e] at hr
     exact ha m r hr
 ·rw [if_neg hE,if_neg hE]
end
section
variable {w w' w1 w2 w3 wa:World} {rb nm b d c dn:Nat} {T T1 T2:PT} {B D:Int→Nat} {F:Nat→Prop} {p p' q nn:PN} {n k:Int} {s:ByteArray}
theorem rmake_fin (H:RTreeIn w rb nm T D) (hok:TOk T) (path:ByteArray) {d:Int} (hd:mget T d=some p) (hdir:p.isDir=true) {K:Nat} (hK1:1≤K) (hK:K < 60) (hfn:mget T (K:Int)=none) (hlen:T.length < 60) (hms:mget p.ds s=none)
  (b:Bool) (hT:makeT T path b=nameT (mput T (K:Int) (newN b)) d (mput p.ds s (K:Int))) (t:Turn (fun _ => False) w wa) (hdn:b=true→w.heap.size≤dn∧MapIs wa dn .string encS encI ([]:List (ByteArray×Int))) :
  ∃ w3 w4,(Instr.mapUpdate 63 (.map (some nm)) (.int .i64 K) (.agg #[.map (if b then some dn else none),.bool b,.string ⟨#[]⟩,.int .i64 0])).run Tryz.prog wa=.ok () w3∧(Instr.mapUpdate 70 (.map (some (D d))) (.string s) (.int .i64 K)).run Tryz.prog w3=.ok () w4∧RTreeTo rb (RFoot rb nm T D) w w4 (makeT T path b):=by
 have h1:=H.turned t (fun _ _ => id)
 obtain ⟨w3,hrun3,hm3,t3⟩:=h1.mp.run_update (P:=Tryz.prog) keyI Tryz.underlying63 Tryz.underlying3 (K:Int) (dn,newN b)
 have ho:=h1.own d p hd hdir
 have hndn:∀ j,RFoot rb nm T D j→b=true→j≠dn:=fun j hj e e2 => by
  have h3:=H.foot_lt j hj
  have h4:=(hdn e).1
  omega
 have hin3:RTreeIn w3 rb nm (mput T (K:Int) (newN b)) (updI D K dn):=h1.add hfn hm3 (fun e => ((hdn e).2.turned t3 (fun e2 => hndn nm (.inr (.inl rfl)) e e2.symm))) t3 (fun e hf => hndn dn hf e rfl)
 have hdk:d≠(K:Int):=fun e => by rw [e,hfn] at hd; cases hd
 have hd3:mget (mput T (K:Int) (newN b)) d=some p:=by rw [mget_mput,if_neg hdk]; exact hd
 have hDd:updI D K dn d=D d:=if_neg hdk
 have hdm:=hin3.dir d p hd3 hdir
 rw [hDd] at hdm
 obtain ⟨w4,hrun4,hm4,t4⟩:=hdm.run_update (P:=Tryz.prog) keyS Tryz.underlying70 Tryz.underlying9 s (K:Int)
 have hnd3:MNodup (mput T (K:Int) (newN b)):=mput_nodup hok.nd _ _
 have hin4:RTreeIn w4 rb nm (mput (mput T (K:Int) (newN b)) d { p with ds:=mput p.ds s (K:Int) }) (updI D K dn):=hin3.name hnd3 hd3 hdir (by rw [hDd]; exact hm4) (by rw [hDd]; exact t4)
 have hTT:makeT T path b=mput (mput T (K:Int) (newN b)) d { p with ds:=mput p.ds s (K:Int) }:=by
  rw [hT]
  unfold nameT
  rw [hd3]; rfl
 refine ⟨w3,w4,hrun3,hrun4,?_⟩
 rw [hTT]
 refine ⟨_,⟨nm,_,hin4,rfl⟩,(t.mono (fun _ _ h => h.elim)).trans ((t3.mono (fun _ _ h => by rw [h]; exact .inr (.inl rfl))).trans (t4.mono (fun _ _ h => by rw [h]; exact .inr (.inr ⟨d,p,hd,hdir,rfl⟩)))),fun j hj => ?_,fun v hv => hin4.hdr.trans (H.hdr.symm.trans hv)⟩
 have hj:=rfoot_put (q':={ p with ds:=mput p.ds s (K:Int) }) hd3 rfl j hj
 rcases hj with h | h | ⟨m,q,hq,hqd,h⟩
 ·exact .inl (.inl h)
 ·exact .inl (.inr (.inl h))
 ·rw [mget_mput] at hq
  by_cases e:m=K
  ·rw [if_pos e] at hq
   cases hq
   unfold updI at h
   rw [if_pos e] at h
   exact .inr (by rw [h]; exact (hdn hqd).1)
  ·rw [if_neg e] at hq
   unfold updI at h
   rw [if_neg e] at h
   exact .inl (.inr (.inr ⟨m,q,hq,hqd,h⟩))
theorem RTreeTo.after (t:Turn (fun _ => False) w w1) (h:RTreeTo rb F w1 w2 T2):RTreeTo rb F w w2 T2:=by
 obtain ⟨F',a,t2,hF,hh⟩:=h
 refine ⟨F',a,(t.mono (fun _ _ h => h.elim)).trans t2,fun k hk => (hF k hk).elim .inl (fun e => .inr (Nat.le_trans t.size e)),fun v hv => hh v ((t.cell (lt_of_cell hv) id).trans hv)⟩
theorem rmake_is (h:RTreeIn w rb nm T D) (hok:TOk T) (path:ByteArray) (hs:path.size < 4294967281) (b:Bool) :
  Calls Tryz.prog 58 #[.pointer (some ⟨rb,0,none⟩),.string path,.bool b] w fun e w' => e=.returned (.tuple #[.int .i64 (makeK T path),.int .i64 (makeE T path)])∧RTreeTo rb (RFoot rb nm T D) w w' (makeT T path b):=by
 have H:=hid h
 have HOk:=hid hok
 have HP:=hid (rplace_is h hok path hs)
 have f1:=@rfld1
 have hmm:=@run_makeMap Tryz.prog
 have HSame:Hid (makeE T path≠0→∀ w',Turn (fun _ => False) w w'→RTreeTo rb (RFoot rb nm T D) w w' (makeT T path b)):=hid (fun hz w' tt => by
  have:makeT T path b=T:=if_neg hz
  rw [this]
  exact RTreeTo.same ⟨nm,D,H.out,rfl⟩ tt)
 clear h hok
 go_enter Tryz.func58,Tryz.ntmps58
 go_wp2_with fail
 refine HP.out.mono ?_
 rintro e w1 ⟨⟨hz,rfl⟩ | ⟨d,p,s,hpl,hd,hdir,rfl⟩,t1⟩
 ·have hE:makeE T path=(placeT T path).1:=if_pos hz
  have HR:=hid (HSame.out (by rw [hE]; exact hz) w1 t1)
  have HK:=hid (makeK_err hE hz)
  have HE:=hid hE
  have hzn:((placeT T path).1 != 0)=true:=by simpa using hz
  generalize (placeT T path).1=z at *
  clear hz t1 hE
  go_wp2_with fail
  go_returns
  rw [HK.out,HE.out]
  exact ⟨rfl,HR.out⟩
 ·have h1:=H.out.turned t1 (fun _ _ => id)
  have H1:=hid h1
  have ln:=look_name (h1.dir d p hd hdir) s
  have hh:=h1.hdr
  have hds:dsT T d=p.ds:=by unfold dsT; rw [hd]; rfl
  have HT1:=hid t1
  have HDr:=hid hdir
  have HD:=hid hd
  have HSn:=hid (placeT_name hpl)
  cases hms:mget p.ds s with
  | some m =>
   have hE:makeE T path=9:=by
    unfold makeE
    rw [hpl,if_neg (by simp)]
    simp only
    rw [hds,hms]; rfl
   have HR:=hid (HSame.out (by rw [hE]; decide) w1 t1)
   rw [hms] at ln
   simp only [Option.getD_some,Option.isSome_some] at ln
   have HE:=hid hE
   clear h1 hds hms t1 hpl hd hdir hE
   go_wp2_with fail
   go_returns
   rw [makeK_err HE.out (by decide),HE.out]
   exact ⟨rfl,HR.out⟩
  | none =>
   rw [hms] at ln
   simp only [Option.getD_none,Option.isSome_none] at ln
   have hl:∀ ty,(Builtin.len_ #[63] ty #[.map (some nm)]).run Tryz.prog w1=.ok (.int .i64 T.length) w1:=fun ty => by
    have h2:=h1.mp.run_len Tryz.underlying63 ty
    unfold rlist at h2
    rw [List.length_map] at h2
    exact h2
   have hsz:=HOk.out.size
   by_cases hfull:60≤T.length
   ·have hfull':(60:Int)≤T.length:=by omega
    have hE:makeE T path=12:=by
     unfold makeE
     rw [hpl,if_neg (by simp)]
     simp only
     rw [hds,hms,if_neg (by simp),if_pos hfull]
    have HR:=hid (HSame.out (by rw [hE]; decide) w1 t1)
    have HE:=hid hE
    clear h1 hds hms t1 hpl hd hdir hfull hE
    go_wp2_with fail
    go_returns
    rw [makeK_err HE.out (by decide),HE.out]
    exact ⟨rfl,HR.out⟩
   ·have hfull':¬ (60:Int)≤T.length:=by omega
    have hE:makeE T path=0:=by
     unfold makeE
     rw [hpl,if_neg (by simp)]
     simp only
     rw [hds,hms,if_neg (by simp),if_neg hfull]
    have hT:makeT T path b=nameT (mput T (freeT T) (newN b)) d (mput p.ds s (freeT T)):=by
     unfold makeT
     rw [if_pos hE,hpl]
     simp only
     rw [hds]
    obtain ⟨f1',f60,fnone,fall⟩:=freeT_spec HOk.out (by omega)
    obtain ⟨K,hK⟩:∃ K,freeT T=K:=⟨_,rfl⟩
    rw [hK] at f1' f60 fnone fall hT
    have HK:=hid hK
    have HF1:=hid f1'
    have HF60:=hid f60
    have HT:=hid hT
    have HMs:=hid hms
    have HFn:=hid fnone
    have HLk:Hid (∀ wr,Turn (fun _ => False) w1 wr→∀ k:Nat,k < K→∃ v,(Instr.lookup 63 (.map (some nm)) (.int .i64 k) true).run Tryz.prog wr=.ok (.tuple #[rnodeV v,.bool true]) wr):=hid (fun wr tr k h3 => by
     have hsome:(mget T (k:Int)).isSome=true:=by
      by_cases e:k=0
      ·obtain ⟨p0,hp0,_⟩:=HOk.out.root
       rw [e]
       rw [show ((0:Nat):Int)=0 from rfl,hp0]; rfl
      ·exact fall k (by omega) h3
     obtain ⟨q,hq⟩:=Option.isSome_iff_exists.1 hsome
     have hrun:=(H1.out.turned tr (fun _ _ => id)).mp.run_lookup (P:=Tryz.prog) keyI Tryz.underlying63 Tryz.underlying3 (zeroRNode wr) (k:Int) true
     rw [rlist_get,hq] at hrun
     exact ⟨(D k,q),hrun⟩)
    have HLN:Hid (∀ wr,Turn (fun _ => False) w1 wr→(Instr.lookup 63 (.map (some nm)) (.int .i64 K) true).run Tryz.prog wr=.ok (.tuple #[.agg #[.map none,.bool false,.string ⟨#[]⟩,.int .i64 0],.bool false]) wr):=hid (fun wr tr => by
     have hrun:=(H1.out.turned tr (fun _ _ => id)).mp.run_lookup (P:=Tryz.prog) keyI Tryz.underlying63 Tryz.underlying3 (zeroRNode wr) (K:Int) true
     rw [rlist_get,fnone] at hrun
     exact hrun)
    have HLen:Hid (T.length < 60):=hid (by omega)
    have HE:=hid hE
    have HH:Hid (∀ wr,Turn (fun _ => False) w1 wr→wr.cell? ⟨rb,0,none⟩=some (.map (some nm))):=hid (fun wr tr => (H1.out.turned tr (fun _ _ => id)).hdr)
    clear h1 hds hms t1 hpl hd hdir hfull hK hT fnone fall hE
    go_wp2_with fail
    go_loopg [13] K (fun gl i wr => ∃ k:Nat,k+gl=K∧i=.int .i64 k∧Turn (fun _ => False) w1 wr)
    case atStart => exact ⟨0,by omega,rfl,Turn.refl _ _⟩
    case round =>
     obtain ⟨k,hk,rfl,tr⟩:=hrel
     have HTr:=hid tr
     have hhr:=HH.out _ tr
     clear hh hl
     by_cases hkl:k < K
     ·obtain ⟨⟨v,q⟩,lk⟩:=HLk.out _ tr k hkl
      unfold rnodeV at lk
      generalize (if (v,q).2.isDir=true then some (v,q).1 else none)=o at lk
      generalize (v,q).2.isDir=bq at lk
      clear tr
      go_wp2_with fail
      go_roundg (gk - 1)
      case measure => omega
      case rel => exact ⟨k+1,by omega,by go_num,HTr.out.alloc _⟩
     ·obtain rfl:k=K:=by omega
      have lk:=HLN.out _ tr
      clear hkl hk HLk tr HLN
      have hsA:(wr.alloc (.cells #[.map none,.bool false,.string ⟨#[]⟩,.int .i64 0] 77)).heap.size=wr.heap.size+1:=World.size_alloc _ _
      cases b with
      | false =>
       obtain ⟨W,hW⟩:∃ W,((wr.alloc (.cells #[.map none,.bool false,.string ⟨#[]⟩,.int .i64 0] 77)).alloc (.cells #[.map none,.bool false,.string ⟨#[]⟩,.int .i64 0] 77))=W:=⟨_,rfl⟩
       have tW:Turn (fun _ => False) w1 W:=by rw [← hW]; exact (HTr.out.alloc _).alloc _
       have hhW:=HH.out W tW
       have c0:W.cell? ⟨wr.heap.size+1,0,none⟩=some (.map none):=by rw [← hW,← hsA]; exact World.cell?_alloc_new _ _ _ _
       have c1:W.cell? ⟨wr.heap.size+1,1,none⟩=some (.bool false):=by rw [← hW,← hsA]; exact World.cell?_alloc_new _ _ _ _
       have c2:W.cell? ⟨wr.heap.size+1,2,none⟩=some (.string ⟨#[]⟩):=by rw [← hW,← hsA]; exact World.cell?_alloc_new _ _ _ _
       have c3:W.cell? ⟨wr.heap.size+1,3,none⟩=some (.int .i64 0):=by rw [← hW,← hsA]; exact World.cell?_alloc_new _ _ _ _
       obtain ⟨w3,w4,hrun3,hrun4,hto⟩:=rmake_fin (dn:=0) H1.out HOk.out path HD.out HDr.out HF1.out HF60.out HFn.out HLen.out HMs.out false HT.out tW.drew (fun e => by cases e)
       replace hrun3:(Instr.mapUpdate 63 (.map (some nm)) (.int .i64 k) (.agg #[.map none,.bool false,.string ⟨#[]⟩,.int .i64 0])).run Tryz.prog W.drew=.ok () w3:=hrun3
       have HTo:=hid hto
       have HTW:=hid tW
       rw [← hW] at hhW c0 c1 c2 c3 hrun3
       clear hto tW hW hsA
       go_wp2_with fail
       go_region
       all_goals go_wp2_with fail
       all_goals go_returns
       all_goals rw [makeK_ok HE.out,HE.out,HK.out]
       all_goals exact ⟨rfl,(RTreeTo.after HT1.out HTo.out)⟩
      | true =>
       obtain ⟨W,hW⟩:∃ W,(((wr.alloc (.cells #[.map none,.bool false,.string ⟨#[]⟩,.int .i64 0] 77)).alloc (.cells #[.map (some (wr.heap.size+1+1)),.bool true,.string ⟨#[]⟩,.int .i64 0] 77)).alloc (.map #[] 0))=W:=⟨_,rfl⟩
       have tW:Turn (fun _ => False) w1 W:=by rw [← hW]; exact ((HTr.out.alloc _).alloc _).alloc _
       have hhW:=HH.out W tW
       obtain ⟨A,hA⟩:∃ A,(wr.alloc (.cells #[.map none,.bool false,.string ⟨#[]⟩,.int .i64 0] 77))=A:=⟨_,rfl⟩
       have hsA2:A.heap.size=wr.heap.size+1:=by rw [← hA]; exact hsA
       obtain ⟨C,hC⟩:∃ C,A.alloc (.cells #[.map (some (wr.heap.size+1+1)),.bool true,.string ⟨#[]⟩,.int .i64 0] 77)=C:=⟨_,rfl⟩
       have hsC:C.heap.size=wr.heap.size+1+1:=by rw [← hC,World.size_alloc,hsA2]
       have hWC:W=C.alloc (.map #[] 0):=by rw [← hW,hA,hC]
       have tC:Turn (fun _ => False) C W:=by rw [hWC]; exact (Turn.refl _ _).alloc _
       have hlt:wr.heap.size+1 < C.heap.size:=by omega
       have c0:W.cell? ⟨wr.heap.size+1,0,none⟩=some (.map (some (wr.heap.size+1+1))):=(tC.cell (a:=⟨wr.heap.size+1,0,none⟩) hlt id).trans (by rw [← hC,← hsA2]; exact World.cell?_alloc_new _ _ _ _)
       have c1:W.cell? ⟨wr.heap.size+1,1,none⟩=some (.bool true):=(tC.cell (a:=⟨wr.heap.size+1,1,none⟩) hlt id).trans (by rw [← hC,← hsA2]; exact World.cell?_alloc_new _ _ _ _)
       have c2:W.cell? ⟨wr.heap.size+1,2,none⟩=some (.string ⟨#[]⟩):=(tC.cell (a:=⟨wr.heap.size+1,2,none⟩) hlt id).trans (by rw [← hC,← hsA2]; exact World.cell?_alloc_new _ _ _ _)
       have c3:W.cell? ⟨wr.heap.size+1,3,none⟩=some (.int .i64 0):=(tC.cell (a:=⟨wr.heap.size+1,3,none⟩) hlt id).trans (by rw [← hC,← hsA2]; exact World.cell?_alloc_new _ _ _ _)
       have hmW:MapIs W (wr.heap.size+1+1) .string encS encI ([]:List (ByteArray×Int)):=by rw [hWC,← hsC]; exact MapIs.made _
       have hsz1:=HTr.out.size
       obtain ⟨w3,w4,hrun3,hrun4,hto⟩:=rmake_fin (dn:=wr.heap.size+1+1) H1.out HOk.out path HD.out HDr.out HF1.out HF60.out HFn.out HLen.out HMs.out true HT.out tW.drew (fun _ => ⟨by omega,hmW.turned ((Turn.refl (fun _ => False) W).drew) id⟩)
       replace hrun3:(Instr.mapUpdate 63 (.map (some nm)) (.int .i64 k) (.agg #[.map (some (wr.heap.size+1+1)),.bool true,.string ⟨#[]⟩,.int .i64 0])).run Tryz.prog W.drew=.ok () w3:=hrun3
       have HTo:=hid hto
       have HTW:=hid tW
       rw [← hW] at hhW c0 c1 c2 c3 hrun3
       clear hto tW hWC tC hC hA hsA2 hsC hlt hmW hsz1 hsA hW
       go_wp2_with fail
       go_region
       all_goals go_wp2_with fail
       all_goals go_returns
       all_goals rw [makeK_ok HE.out,HE.out,HK.out]
       all_goals exact ⟨rfl,(RTreeTo.after HT1.out HTo.out)⟩
end
def RTreeNewIs (w:World) (e:Ending) (w':World):Prop:=∃ rb F,e=.returned (.pointer (some ⟨rb,0,none⟩))∧RTreeIs w' rb rootT F∧Turn (fun _ => False) w w'∧∀ k,F k→w.heap.size≤k
theorem rtreeNew_is (w:World):Calls Tryz.prog 6 #[] w (RTreeNewIs w):=by
 have hmm:=@run_makeMap Tryz.prog
 obtain ⟨W2,hW2⟩:∃ W2,(w.alloc (.map #[] 0)).alloc (.map #[] 0)=W2:=⟨_,rfl⟩
 have hs0:(w.alloc (.map #[] 0)).heap.size=w.heap.size+1:=World.size_alloc _ _
 have hs2:W2.heap.size=w.heap.size+2:=by rw [← hW2,World.size_alloc,hs0]
 have t0:Turn (fun _ => False) w (w.alloc (.map #[] 0)):=(Turn.refl _ _).alloc _
 have t1:Turn (fun _ => False) (w.alloc (.map #[] 0)) W2:=by rw [← hW2]; exact (Turn.refl _ _).alloc _
 have HM:Hid (MapIs W2 w.heap.size (.int .i64) encI rnodeV ([]:List (Int×(Nat×PN)))):=hid ((MapIs.made w).turned t1 id)
 have hmd:MapIs W2 (w.heap.size+1) .string encS encI ([]:List (ByteArray×Int)):=by
  rw [← hW2,← hs0]; exact MapIs.made _
 have HT0:=hid (t0.trans t1)
 have HS:=hid hs2
 have HW2:=hid hW2
 obtain ⟨w5,hrun,hm5,t5⟩:=HM.out.run_update (P:=Tryz.prog) keyI Tryz.underlying63 Tryz.underlying3 (0:Int) (w.heap.size+1,⟨true,[],ByteArray.empty,1,0⟩)
 replace hrun:(Instr.mapUpdate 63 (.map (some w.heap.size)) (.int .i64 0) (.agg #[.map (some (w.heap.size+1)),.bool true,.string ⟨#[]⟩,.int .i64 0])).run Tryz.prog ((w.alloc (.map #[] 0)).alloc (.map #[] 0))=.ok () w5:=by rw [hW2]; exact hrun
 have hs5:w.heap.size+2≤w5.heap.size:=by
  have h1:=t5.size
  omega
 have t6:Turn (fun _ => False) w5 (w5.alloc (.cells #[.map (some w.heap.size)] 65)):=(Turn.refl _ _).alloc _
 have hin:RTreeIn (w5.alloc (.cells #[.map (some w.heap.size)] 65)) w5.heap.size w.heap.size rootT (fun _ => w.heap.size+1):=by
  have hget:∀ n p,mget rootT n=some p→n=0∧p=⟨true,[],ByteArray.empty,1,0⟩:=fun n p hp => by
   have h:=mem_of_mget hp
   unfold rootT at h
   have h:=List.mem_singleton.1 h
   cases h
   exact ⟨rfl,rfl⟩
  refine ⟨World.cell?_alloc_new _ _ _ _,hm5.turned t6 id,fun n p hp _ => ?_,fun n m p q hp hq _ _ hne => ?_,fun n p hp _ => ⟨by omega,by omega⟩,by omega⟩
  ·obtain ⟨_,rfl⟩:=hget n p hp
   exact (hmd.turned t5 (fun e => by omega)).turned t6 id
  ·exact absurd ((hget n p hp).1.trans (hget m q hq).1.symm) hne
 have HIn:=hid hin
 have HT6:Hid (Turn (fun _ => False) w (w5.alloc (.cells #[.map (some w.heap.size)] 65))):=hid ((HT0.out.trans' (t5.trans (t6.mono (fun _ _ h => h.elim))) (fun k hk e => by omega)))
 have HS5:=hid hs5
 clear t0 t1 hmd hs0 hs2 hW2 hm5 t5 t6 hin hs5
 go_enter Tryz.func6,Tryz.ntmps6
 go_wp2_with fail
 go_returns
 refine ⟨_,_,rfl,⟨_,_,HIn.out,rfl⟩,HT6.out,fun k hk => ?_⟩
 have h5:=HS5.out
 rcases hk with rfl | rfl | ⟨n,p,_,_,e⟩
 ·omega
 ·omega
 ·have e:k=w.heap.size+1:=e
  omega
section
variable {T:PT} {p q q':PN} {n d z:Int} {s path old:ByteArray}
theorem Alive.put (h:Alive T) (hq:q.names≠0∨q.held≠0):Alive (mput T n q):=fun m r hr => by
 rw [mget_mput] at hr
 by_cases e:m=n
 ·rw [if_pos e] at hr; cases hr; exact hq
 ·rw [if_neg e] at hr; exact h m r hr
theorem Alive.updN_ (h:Alive T) {f:PN→PN} (hf:∀ p:PN,p.names≠0∨p.held≠0→(f p).names≠0∨(f p).held≠0) (n:Int):Alive (updN T n f):=by
 unfold updN
 cases hn:mget T n with
 | none => exact h
 | some p => exact h.put (hf p (h n p hn))
theorem alive_gone (ha:∀ m r,m≠n→mget T m=some r→r.names≠0∨r.held≠0) (hn:mget T n=some p):Alive (goneT T n p):=by
 unfold goneT
 by_cases h:p.names=0∧p.held=0
 ·rw [if_pos h]
  intro m r hr
  rw [mget_mdel] at hr
  by_cases e:m=n
  ·rw [if_pos e] at hr; cases hr
  ·rw [if_neg e] at hr; exact ha m r e hr
 ·rw [if_neg h]
  intro m r hr
  by_cases e:m=n
  ·rw [e,hn] at hr
   cases hr
   by_cases h1:p.names=0
   ·exact .inr (fun h2 => h ⟨h1,h2⟩)
   ·exact .inl h1
  ·exact ha m r e hr
theorem alive_root:Alive rootT:=fun n p hp => by
 have h:=mem_of_mget hp
 unfold rootT at h
 have h:=List.mem_singleton.1 h
 cases h
 exact .inl (by decide)
theorem Alive.make (h:Alive T) (path:ByteArray) (b:Bool):Alive (makeT T path b):=by
 unfold makeT
 split
 ·have h1:Alive (mput T (freeT T) (newN b)):=h.put (.inl (show (1:Nat)≠0 by omega))
  unfold nameT
  cases hn:mget (mput T (freeT T) (newN b)) (placeT T path).2.1 with
  | none => exact h1
  | some p => exact h1.put (h1 _ p hn)
 ·exact h
theorem Alive.setData (h:Alive T) (n:Int) (x:ByteArray):Alive (setDataT T n x):=by
 unfold setDataT
 cases hn:mget T n with
 | none => exact h
 | some p => exact h.put (h n p hn)
theorem Alive.write (h:Alive T) (n z:Int) (s:ByteArray):Alive (writeT T n z s):=by
 unfold writeT
 split
 ·exact h.setData n _
 ·exact h
theorem Alive.hold (h:Alive T) (n:Int):Alive (holdT T n):=by
 unfold holdT
 cases hn:mget T n with
 | none => exact h
 | some p =>
  simp only [Option.elim]
  split
  ·exact h
  ·exact h.put (.inr (Nat.succ_ne_zero _))
theorem Alive.drop (h:Alive T) (n:Int):Alive (dropT T n):=by
 unfold dropT
 cases hn:mget T n with
 | none => exact h
 | some p =>
  simp only [Option.elim]
  split
  ·exact h
  ·split
   ·exact h
   ·exact alive_gone (fun m r e hr => by rw [mget_mput,if_neg e] at hr; exact h m r hr) (by rw [mget_mput,if_pos rfl])
theorem Alive.unlink (h:Alive T) (path:ByteArray):Alive (unlinkT T path):=by
 unfold unlinkT
 split
 ·cases mget (dsT T (placeT T path).2.1) (placeT T path).2.2 with
  | none => exact h
  | some n =>
   simp only [Option.elim]
   cases hq:mget T n with
   | none => exact h
   | some q =>
    exact alive_gone (fun m r e hr => by
     rw [mget_mput,if_neg e] at hr
     exact Alive.updN_ (f:=fun p => { p with ds:=mdel p.ds (placeT T path).2.2 }) h (fun p hp => hp) _ m r hr) (by rw [mget_mput,if_pos rfl])
 ·exact h
end
set_option linter.unusedSectionVars false
section
variable {κ α β:Type} [DecidableEq κ] {κ':Type} [DecidableEq κ'] {φ:κ→κ'} {f:α→β} {es:List (κ×α)} {k:κ} {e e':α} {x:κ'}
def relab (φ:κ→κ') (f:α→β) (es:List (κ×α)):List (κ'×β):=es.map fun t => (φ t.1,f t.2)
def Alone (φ:κ→κ') (es:List (κ×α)) (k:κ):Prop:=∀ t∈es,φ t.1=φ k→t.1=k
theorem relab_get (hi:Alone φ es k):mget (relab φ f es) (φ k)=(mget es k).map f:=by
 unfold mget relab
 induction es with
 | nil => rfl
 | cons t es ih =>
  rw [List.map_cons,List.find?_cons,List.find?_cons]
  by_cases c:t.1=k
  ·rw [decide_eq_true c,decide_eq_true (congrArg φ c)]; rfl
  ·rw [decide_eq_false c,decide_eq_false (fun h => c (hi t List.mem_cons_self h))]
   exact ih (fun u hu => hi u (List.mem_cons_of_mem _ hu))
theorem relab_upd (hi:Alone φ es k):mupd (relab φ f es) (φ k) (f e')=relab φ f (mupd es k e'):=by
 unfold mupd relab
 rw [List.map_map,List.map_map]
 refine List.map_congr_left fun t ht => ?_
 show (if φ t.1=φ k then (φ t.1,f e') else (φ t.1,f t.2))=(φ (if t.1=k then (t.1,e') else t).1,f (if t.1=k then (t.1,e') else t).2)
 by_cases c:t.1=k
 ·rw [if_pos c,if_pos (congrArg φ c)]
 ·rw [if_neg c,if_neg (fun h => c (hi t ht h))]
theorem relab_put (hi:Alone φ es k) (h:mget es k=some e):mput (relab φ f es) (φ k) (f e')=relab φ f (mput es k e'):=by
 unfold mput
 rw [relab_get hi,h]
 exact relab_upd hi
theorem relab_same (hn:MNodup es) (h:mget es k=some e) (hf:f e'=f e):relab φ f (mput es k e')=relab φ f es:=by
 unfold mput
 rw [h]
 show relab φ f (mupd es k e')=_
 unfold relab mupd
 rw [List.map_map]
 refine List.map_congr_left fun t ht => ?_
 show (φ (if t.1=k then (t.1,e') else t).1,f (if t.1=k then (t.1,e') else t).2)=(φ t.1,f t.2)
 by_cases c:t.1=k
 ·have h1:mget es t.1=some t.2:=mget_mem hn ht
  rw [c,h] at h1
  rw [if_pos c]
  show (φ t.1,f e')=_
  rw [hf,Option.some.inj h1]
 ·rw [if_neg c]
theorem relab_del (hi:Alone φ es k):mdel (relab φ f es) (φ k)=relab φ f (mdel es k):=by
 unfold mdel relab
 rw [List.filter_map]
 congr 1
 refine List.filter_congr fun t ht => ?_
 show decide (φ t.1≠φ k)=decide (t.1≠k)
 by_cases c:t.1=k
 ·exact decide_eq_decide.2 ⟨fun h => absurd (congrArg φ c) h,fun h => absurd c h⟩
 ·exact decide_eq_decide.2 ⟨fun _ => c,fun _ h => c (hi t ht h)⟩
theorem relab_congr {φ2:κ→κ'} {f2:α→β} (h:∀ t∈es,φ2 t.1=φ t.1∧f2 t.2=f t.2):relab φ2 f2 es=relab φ f es:=by
 unfold relab
 refine List.map_congr_left fun t ht => ?_
 rw [(h t ht).1,(h t ht).2]
def updK (φ:κ→κ') (k:κ) (x:κ'):κ→κ':=fun j => if j=k then x else φ j
theorem updK_at:updK φ k x k=x:=if_pos rfl
theorem updK_ne {j:κ} (h:j≠k):updK φ k x j=φ j:=if_neg h
theorem relab_new (hk:mget es k=none) (hx:∀ t∈es,φ t.1≠x):mput (relab φ f es) x (f e)=relab (updK φ k x) f (mput es k e):=by
 have h1:mget (relab φ f es) x=none:=mget_none (fun p hp => by
  obtain ⟨t,ht,rfl⟩:=List.mem_map.1 hp
  exact hx t ht)
 unfold mput
 rw [h1,hk]
 show relab φ f es ++ [(x,f e)]=relab (updK φ k x) f (es ++ [(k,e)])
 unfold relab
 rw [List.map_append]
 congr 1
 ·refine List.map_congr_left fun t ht => ?_
  show (φ t.1,f t.2)=(updK φ k x t.1,f t.2)
  rw [updK_ne (fun c => mget_none_iff.1 hk t ht c)]
 ·show [(x,f e)]=[(updK φ k x k,f e)]
  rw [updK_at]
theorem relab_len:(relab φ f es).length=es.length:=List.length_map _
end
structure RTabIs (w:World) (b:Nat) (L:PTab):Prop where
 ent:∀ i,i < 8→w.cell? ⟨b,i * 2,none⟩=some (.int .i64 (L i).1)
 mark:∀ i,i < 8→w.cell? ⟨b,i * 2+1,none⟩=some (.bool (L i).2)
 fz:∀ i,w.frozen? ⟨b,i,none⟩=false
 pos:∀ i,i < 8→0≤(L i).1∧(L i).1≤1000000
section
variable {w w':World} {b:Nat} {L:PTab} {n:Int}
theorem RTabIs.lt (h:RTabIs w b L):b < w.heap.size:=lt_of_cell (h.ent 0 (by omega))
theorem RTabIs.turned {S:Nat→Prop} (h:RTabIs w b L) (t:Turn S w w') (hb:¬ S b):RTabIs w' b L :=
 ⟨fun i hi => (t.cell (a:=⟨b,i * 2,none⟩) h.lt hb).trans (h.ent i hi),fun i hi => (t.cell (a:=⟨b,i * 2+1,none⟩) h.lt hb).trans (h.mark i hi),fun i => (t.frozen (a:=⟨b,i,none⟩) h.lt hb).trans (h.fz i),h.pos⟩
theorem rused_is (h:RTabIs w b L):Calls Tryz.prog 13 #[.pointer (some ⟨b,0,none⟩)] w fun e w' => e=.returned (.int .i64 (usedL L))∧Turn (fun _ => False) w w':=by
 have H:=hid h
 clear h
 go_enter Tryz.func13,Tryz.ntmps13
 obtain ⟨R,hR⟩:∃ R,usedL L=R:=⟨_,rfl⟩
 rw [hR]
 have HR:=hid hR
 have c0:=H.out.ent 0 (by omega)
 clear hR
 go_wp2_with fail
 clear c0
 go_loopg [3,8] 8 (fun gl n i wr => ∃ k m:Nat,k+gl=8∧i=.int .i64 k∧n=.int .i64 m∧Hid (m+usedFrom L gl k=R)∧m≤k∧Hid (Turn (fun _ => False) w wr))
 case atStart => exact ⟨0,0,by omega,rfl,rfl,hid ((Nat.zero_add _).trans HR.out),by omega,hid (Turn.refl _ _)⟩
 case round =>
  obtain ⟨k,m,hk,rfl,rfl,hf,hm,ht⟩:=hrel
  by_cases hlt:k < 8
  ·have hlt':(k:Int) < 8:=by omega
   have hk0:(0:Int)≤(k:Int):=by omega
   have h2:=H.out.turned ht.out id
   have c0:=h2.ent k hlt
   have c1:=h2.mark k hlt
   have f0:=h2.fz
   obtain ⟨E,hE⟩:∃ E,(L k).1=E:=⟨_,rfl⟩
   obtain ⟨M,hM⟩:∃ M,(L k).2=M:=⟨_,rfl⟩
   have HT:=hid (ht.out.alloc (.cells #[.int .i64 E,.bool M] 45))
   rw [hE] at c0
   rw [hM] at c1
   have hgk:gk=gk - 1+1:=by omega
   have hf2:=hf.out
   rw [hgk] at hf2
   have hf3:m+((if 0 < (L k).1 then 1 else 0)+usedFrom L (gk - 1) (k+1))=R:=hf2
   rw [hE] at hf3
   clear h2 hf2 hE hM hf hgk
   by_cases hz:0 < E
   ·rw [if_pos hz] at hf3
    have HF:Hid ((m+1)+usedFrom L (gk - 1) (k+1)=R):=hid (by omega)
    clear hf3
    go_wp2_with fail
    go_roundg (gk - 1)
    case measure => omega
    case rel => exact ⟨k+1,m+1,by omega,by go_num,by go_num,HF,by omega,HT⟩
   ·rw [if_neg hz] at hf3
    have HF:Hid (m+usedFrom L (gk - 1) (k+1)=R):=hid (by omega)
    clear hf3
    go_wp2_with fail
    go_roundg (gk - 1)
    case measure => omega
    case rel => exact ⟨k+1,m,by omega,by go_num,rfl,HF,by omega,HT⟩
  ·have hke:k=8:=by omega
   subst hke
   have hg0:gk=0:=by omega
   subst hg0
   have HF:Hid ((m:Int)=R):=hid (by rw [← hf.out]; exact congrArg Nat.cast (Nat.add_zero m).symm)
   go_wp2_with fail
   go_ret
   exact ⟨ret_int HF.out,ht.out⟩
theorem rleast_is (h:RTabIs w b L):Calls Tryz.prog 56 #[.pointer (some ⟨b,0,none⟩)] w fun e w' => e=.returned (.int .i64 (leastL L))∧Turn (fun _ => False) w w':=by
 have H:=hid h
 clear h
 go_enter Tryz.func56,Tryz.ntmps56
 obtain ⟨R,hR⟩:∃ R,leastL L=R:=⟨_,rfl⟩
 rw [hR]
 have HR:=hid hR
 have c0:=H.out.ent 0 (by omega)
 clear hR
 go_wp2_with fail
 clear c0
 go_loopg [7] 8 (fun gl i wr => ∃ k:Nat,k+gl=8∧i=.int .i64 k∧Hid (leastFrom L gl k=R)∧Hid (Turn (fun _ => False) w wr))
 case atStart => exact ⟨0,by omega,rfl,HR,hid (Turn.refl _ _)⟩
 case round =>
  obtain ⟨k,hk,rfl,hf,ht⟩:=hrel
  by_cases hlt:k < 8
  ·have hlt':(k:Int) < 8:=by omega
   have hk0:(0:Int)≤(k:Int):=by omega
   have h2:=H.out.turned ht.out id
   have c0:=h2.ent k hlt
   have c1:=h2.mark k hlt
   obtain ⟨E,hE⟩:∃ E,(L k).1=E:=⟨_,rfl⟩
   obtain ⟨M,hM⟩:∃ M,(L k).2=M:=⟨_,rfl⟩
   rw [hE] at c0
   rw [hM] at c1
   have td:Turn (fun _ => False) wr wr.drew:=(Turn.refl _ _).drew
   have k0:=(td.cell (a:=⟨b,k * 2,none⟩) (lt_of_cell c0) id).trans c0
   have k1:=(td.cell (a:=⟨b,k * 2+1,none⟩) (lt_of_cell c1) id).trans c1
   have ta:Turn (fun _ => False) wr (wr.alloc (.cells #[.int .i64 0,.bool false] 45)):=(Turn.refl _ _).alloc _
   have a0:=(ta.cell (a:=⟨b,k * 2,none⟩) (lt_of_cell c0) id).trans c0
   have a1:=(ta.cell (a:=⟨b,k * 2+1,none⟩) (lt_of_cell c1) id).trans c1
   have hgk:gk=gk - 1+1:=by omega
   have hf2:=hf.out
   rw [hgk] at hf2
   by_cases hz:E=0
   ·have HF:Hid ((k:Int)=R):=hid (by rw [← hf2]; exact (leastFrom_zero _ _ (hE.trans hz)).symm)
    subst hz
    clear h2 hf2 hE hM hf hgk td ta
    have HT:=hid (ht.out.alloc (.cells #[.int .i64 0,.bool M] 45)).drew
    go_wp2_with fail
    go_region
    go_wp2_with fail
    go_returns
    exact ⟨ret_int HF.out,HT.out⟩
   ·have HF:Hid (leastFrom L (gk - 1) (k+1)=R):=hid (by rw [← hf2]; exact (leastFrom_next _ _ (fun e => hz (hE.symm.trans e))).symm)
    have HT:=hid (ht.out.alloc (.cells #[.int .i64 E,.bool M] 45)).drew
    have hzb:(E == 0)=false:=by simpa using hz
    clear h2 hf2 hE hM hf hgk td ta hz
    go_wp2_with fail
    go_region
    go_wp2_with fail
    go_roundg (gk - 1)
    case measure => omega
    case rel => exact ⟨k+1,by omega,by go_num,HF,HT⟩
  ·have hke:k=8:=by omega
   subst hke
   have hg0:gk=0:=by omega
   subst hg0
   have HF:Hid ((-1:Int)=R):=hf
   go_wp2_with fail
   go_ret
   exact ⟨ret_int HF.out,ht.out⟩
end
section
variable {w w':World} {b:Nat} {L:PTab} {n:Int}
theorem rhas_is (h:RTabIs w b L) (n:Int):Calls Tryz.prog 15 #[.pointer (some ⟨b,0,none⟩),.int .i64 n] w fun e w' => e=.returned (.bool (slotL L n).isSome)∧w'=w:=by
 by_cases hn:0≤n∧n≤7
 ·obtain ⟨k,rfl⟩:∃ k:Nat,n=k:=⟨n.toNat,by omega⟩
  have hk:k < 8:=by omega
  have c0:=h.ent k hk
  have hp:=h.pos k hk
  obtain ⟨E,hE⟩:∃ E,(L k).1=E:=⟨_,rfl⟩
  have hk8:(k:Int) < 8:=by omega
  have hk0:(0:Int)≤(k:Int):=by omega
  have hr:(slotL L (k:Int)).isSome=decide (0 < E):=by
   unfold slotL
   rw [Int.toNat_natCast,hE]
   by_cases hz:E=0
   ·rw [if_neg (by omega),hz]; rfl
   ·rw [if_pos (by omega),decide_eq_true (by omega)]; rfl
  rw [hr]
  rw [hE] at c0 hp
  clear hE hr h hn
  go_enter Tryz.func15,Tryz.ntmps15
  go_wp2_with fail
  refine (inR_yes k 0 7 hk0 (by omega) w).mono ?_
  rintro e w1 ⟨rfl,hw⟩; subst w1
  go_wp2_with fail
  go_returns
  exact ⟨rfl,rfl⟩
 ·have hr:(slotL L n).isSome=false:=by
   unfold slotL
   rw [if_neg (by omega)]; rfl
  rw [hr]
  have HI:=hid (inR_no n 0 7 hn w)
  clear hr h hn
  go_enter Tryz.func15,Tryz.ntmps15
  go_wp2_with fail
  refine HI.out.mono ?_
  rintro e w1 ⟨rfl,hw⟩; subst w1
  go_wp2_with fail
  go_returns
  exact ⟨rfl,rfl⟩
end
set_option linter.unusedSectionVars false
abbrev RE:=Int×Int×Int×Int×Int
def fE (π:Nat→Int) (e:PE):RE:=(e.kind,e.prot,(if e.kind=1 then e.node else 0),(if e.kind=1 then 0 else π e.pid),e.at')
def reV (x:RE):Value:=.agg #[.int .i64 x.1,.int .i64 x.2.1,.int .i64 x.2.2.1,.int .i64 x.2.2.2.1,.int .i64 x.2.2.2.2]
def rpV (q:PP):Value:=.agg #[.string q.b,.int .i64 q.e0,.int .i64 q.e1]
def encNt (n:Nat):Value:=.int .i64 (n:Int)
def nums (ps:List PP):List (Nat×PP):=ps.zipIdx.map fun t => (t.2,t.1)
theorem nums_snoc (ps:List PP) (q:PP):nums (ps ++ [q])=nums ps ++ [(ps.length,q)]:=by
 unfold nums
 rw [List.zipIdx_append,List.map_append]
 simp
theorem nums_key {ps:List PP} {t:Nat×PP} (h:t∈nums ps):ps[t.1]?=some t.2:=by
 obtain ⟨u,hu,rfl⟩:=List.mem_map.1 h
 have:=List.mem_zipIdx_iff_getElem?.1 hu
 simpa using this
theorem nums_nodup (ps:List PP):MNodup (nums ps):=by
 unfold MNodup nums
 rw [List.map_map]
 show (ps.zipIdx.map fun t => t.2).Nodup
 have h:(ps.zipIdx.map fun t => t.2)=List.range ps.length:=by
  rw [show (fun t:PP×Nat => t.2)=Prod.snd from rfl,List.zipIdx_map_snd,List.range_eq_range']
 rw [h]
 exact List.nodup_range
theorem nums_get (ps:List PP) (i:Nat):mget (nums ps) i=ps[i]?:=by
 cases h:ps[i]? with
 | some q =>
  refine mget_mem (nums_nodup ps) ?_
  refine List.mem_map.2 ⟨(q,i),?_,rfl⟩
  exact List.mem_zipIdx_iff_getElem?.2 (by simpa using h)
 | none =>
  refine mget_none fun p hp e => ?_
  have h1:=nums_key hp
  rw [e,h] at h1
  cases h1
theorem nums_set {ps:List PP} {i:Nat} {q q':PP} (h:ps[i]?=some q):mput (nums ps) i q'=nums (ps.set i q'):=by
 unfold mput
 rw [nums_get,h]
 show mupd (nums ps) i q'=_
 refine List.ext_getElem? fun j => ?_
 unfold mupd nums
 simp only [List.getElem?_map,List.getElem?_zipIdx,List.getElem?_set,Nat.zero_add,Option.map_map]
 by_cases c:i=j
 ·subst c
  have hl:=(List.getElem?_eq_some_iff.1 h).1
  rw [if_pos rfl,if_pos hl,h]
  simp
 ·rw [if_neg c]
  cases hj:ps[j]? with
  | none => simp
  | some u =>
   simp
   exact fun e => absurd e.symm c
theorem nums_new (ps:List PP) (q:PP):mput (nums ps) ps.length q=nums (ps ++ [q]):=by
 unfold mput
 rw [nums_get,List.getElem?_eq_none (Nat.le_refl _),nums_snoc]
 rfl
structure RFilesIn (w:World) (fb rb eb rf pb:Nat) (S:PS) (φ:Int→Int) (π:Nat→Int) (nx:Int) (Ft:Nat→Prop):Prop where
 h0:w.cell? ⟨fb,0,none⟩=some (.pointer (some ⟨rb,0,none⟩))
 h1:w.cell? ⟨fb,1,none⟩=some (.map (some eb))
 h2:w.cell? ⟨fb,2,none⟩=some (.map (some rf))
 h3:w.cell? ⟨fb,3,none⟩=some (.map (some pb))
 h4:w.cell? ⟨fb,4,none⟩=some (.int .i64 nx)
 fz:∀ i,w.frozen? ⟨fb,i,none⟩=false
 tr:RTreeIs w rb S.T Ft
 mE:MapIs w eb (.int .i64) encI reV (relab φ (fE π) S.es)
 mR:MapIs w rf (.int .i64) encI encNt (relab φ (·.refs) S.es)
 mP:MapIs w pb (.int .i64) encI rpV (relab π id (nums S.ps))
 al:∀ k e,mget S.es k=some e→Alone φ S.es k∧1≤φ k∧φ k≤nx
 pal:∀ i q,S.ps[i]?=some q→Alone π (nums S.ps) i∧1≤π i∧π i≤nx
 nx0:0≤nx∧nx≤500000
 ap:fb≠eb∧fb≠rf∧fb≠pb∧eb≠rf∧eb≠pb∧rf≠pb
 out:¬ Ft fb∧¬ Ft eb∧¬ Ft rf∧¬ Ft pb
def RFoots (fb eb rf pb:Nat) (Ft:Nat→Prop) (k:Nat):Prop:=Ft k∨k=fb∨k=eb∨k=rf∨k=pb
def RFilesIs (w:World) (fb rb:Nat) (S:PS) (φ:Int→Int) (π:Nat→Int) (nx:Int) (F:Nat→Prop):Prop:=∃ eb rf pb Ft,RFilesIn w fb rb eb rf pb S φ π nx Ft∧F=RFoots fb eb rf pb Ft
def relL (φ:Int→Int) (L:PTab):PTab:=fun i => (if (L i).1=0 then 0 else φ ((L i).1 - 1),(L i).2)
def RFilesTo (fb rb tab:Nat) (F:Nat→Prop) (w w':World) (S S':PS) (φ:Int→Int) (nx:Int) (L':PTab):Prop :=
 ∃ F' φ' π' nx',RFilesIs w' fb rb S' φ' π' nx' F'∧RTabIs w' tab (relL φ' L')∧Turn (fun k => F k∨k=tab) w w'∧(∀ k,F' k→F k∨w.heap.size≤k)∧¬ F' tab∧(∀ k e,mget S.es k=some e→φ' k=φ k)∧nx'≤nx+3
section
variable {w w':World} {fb rb eb rf pb tab:Nat} {S S':PS} {φ:Int→Int} {π:Nat→Int} {nx n k:Int} {F Ft:Nat→Prop} {L L':PTab} {e:PE}
theorem RFilesIn.lows (h:RFilesIn w fb rb eb rf pb S φ π nx Ft) (k:Nat) (hk:RFoots fb eb rf pb Ft k):k < w.heap.size:=by
 rcases hk with hk | rfl | rfl | rfl | rfl
 ·exact h.tr.foot_lt k hk
 ·exact lt_of_cell h.h0
 ·exact h.mE.lt
 ·exact h.mR.lt
 ·exact h.mP.lt
theorem RFilesIn.turned {X:Nat→Prop} (h:RFilesIn w fb rb eb rf pb S φ π nx Ft) (t:Turn X w w') (hn:∀ k,RFoots fb eb rf pb Ft k→¬ X k):RFilesIn w' fb rb eb rf pb S φ π nx Ft:=by
 have hf:¬ X fb:=hn fb (.inr (.inl rfl))
 have hl:=lt_of_cell h.h0
 exact { h with
  h0:=(t.cell (a:=⟨fb,0,none⟩) hl hf).trans h.h0
  h1:=(t.cell (a:=⟨fb,1,none⟩) hl hf).trans h.h1
  h2:=(t.cell (a:=⟨fb,2,none⟩) hl hf).trans h.h2
  h3:=(t.cell (a:=⟨fb,3,none⟩) hl hf).trans h.h3
  h4:=(t.cell (a:=⟨fb,4,none⟩) hl hf).trans h.h4
  fz:=fun i => (t.frozen (a:=⟨fb,i,none⟩) hl hf).trans (h.fz i)
  tr:=h.tr.turned t (fun k hk => hn k (.inl hk))
  mE:=h.mE.turned t (hn eb (.inr (.inr (.inl rfl))))
  mR:=h.mR.turned t (hn rf (.inr (.inr (.inr (.inl rfl)))))
  mP:=h.mP.turned t (hn pb (.inr (.inr (.inr (.inr rfl))))) }
theorem RFilesIn.still (h:RFilesIn w fb rb eb rf pb S φ π nx Ft) (t:Turn (fun _ => False) w w'):RFilesIn w' fb rb eb rf pb S φ π nx Ft:=h.turned t (fun _ _ => id)
theorem RFilesIs.turned {X:Nat→Prop} (h:RFilesIs w fb rb S φ π nx F) (t:Turn X w w') (hn:∀ k,F k→¬ X k):RFilesIs w' fb rb S φ π nx F:=by
 obtain ⟨eb,rf,pb,Ft,h1,rfl⟩:=h
 exact ⟨eb,rf,pb,Ft,h1.turned t hn,rfl⟩
theorem RFilesIs.low (h:RFilesIs w fb rb S φ π nx F) (k:Nat) (hk:F k):k < w.heap.size:=by
 obtain ⟨eb,rf,pb,Ft,h1,rfl⟩:=h
 exact h1.lows k hk
theorem RFilesTo.same (h:RFilesIs w' fb rb S φ π nx F) (ht:RTabIs w' tab (relL φ L)) (t:Turn (fun _ => False) w w') (hn:¬ F tab):RFilesTo fb rb tab F w w' S S φ nx L :=
 ⟨F,φ,π,nx,h,ht,t.mono (fun _ _ h => h.elim),fun _ h => .inl h,hn,fun _ _ _ => rfl,by omega⟩
theorem rel_slot (hok:TabOk S L) (h:RFilesIn w fb rb eb rf pb S φ π nx Ft) (n:Int):slotL (relL φ L) n=(slotL L n).map fun k => φ k - 1:=by
 unfold slotL
 by_cases c:0≤n∧n < 8
 ·have hi:=hok n.toNat (by omega)
  by_cases hz:(L n.toNat).1=0
  ·have e1:(relL φ L n.toNat).1=0:=if_pos hz
   rw [if_neg (by omega),if_neg (by omega)]; rfl
  ·obtain ⟨e,he⟩:=hi.resolve_left hz
   have e1:(relL φ L n.toNat).1=φ ((L n.toNat).1 - 1):=if_neg hz
   have h2:=(h.al _ e he).2
   rw [if_pos ⟨c.1,c.2,by omega⟩,if_pos ⟨c.1,c.2,hz⟩,e1]; rfl
 ·rw [if_neg (fun x => c ⟨x.1,x.2.1⟩),if_neg (fun x => c ⟨x.1,x.2.1⟩)]; rfl
theorem rel_free (hok:TabOk S L) (h:RFilesIn w fb rb eb rf pb S φ π nx Ft) {i:Nat} (hi:i < 8):(relL φ L i).1=0 ↔ (L i).1=0:=by
 by_cases hz:(L i).1=0
 ·exact ⟨fun _ => hz,fun _ => if_pos hz⟩
 ·obtain ⟨e,he⟩:=(hok i hi).resolve_left hz
  have e1:(relL φ L i).1=φ ((L i).1 - 1):=if_neg hz
  have h2:=(h.al _ e he).2
  exact ⟨fun x => by omega,fun x => absurd x hz⟩
theorem rel_least_from (hok:TabOk S L) (h:RFilesIn w fb rb eb rf pb S φ π nx Ft):∀ (f i:Nat),i+f≤8→leastFrom (relL φ L) f i=leastFrom L f i
 | 0,_,_ => rfl
 | f+1,i,hi => by
  show (if (relL φ L i).1=0 then (i:Int) else leastFrom (relL φ L) f (i+1))=if (L i).1=0 then (i:Int) else leastFrom L f (i+1)
  rw [rel_least_from hok h f (i+1) (by omega)]
  by_cases c:(L i).1=0
  ·rw [if_pos c,if_pos ((rel_free hok h (by omega)).2 c)]
  ·rw [if_neg c,if_neg (fun x => c ((rel_free hok h (by omega)).1 x))]
theorem rel_least (hok:TabOk S L) (h:RFilesIn w fb rb eb rf pb S φ π nx Ft):leastL (relL φ L)=leastL L:=rel_least_from hok h 8 0 (by omega)
theorem rel_used_from (hok:TabOk S L) (hp:∀ i,i < 8→0≤(L i).1) (h:RFilesIn w fb rb eb rf pb S φ π nx Ft):∀ (f i:Nat),i+f≤8→usedFrom (relL φ L) f i=usedFrom L f i
 | 0,_,_ => rfl
 | f+1,i,hi => by
  show (if 0 < (relL φ L i).1 then 1 else 0)+usedFrom (relL φ L) f (i+1)=(if 0 < (L i).1 then 1 else 0)+usedFrom L f (i+1)
  rw [rel_used_from hok hp h f (i+1) (by omega)]
  have h0:=hp i (by omega)
  by_cases c:(L i).1=0
  ·have:=(rel_free hok h (show i < 8 by omega)).2 c
   rw [if_neg (by omega),if_neg (by omega)]
  ·obtain ⟨e,he⟩:=(hok i (by omega)).resolve_left c
   have e1:(relL φ L i).1=φ ((L i).1 - 1):=if_neg c
   have h2:=(h.al _ e he).2
   rw [if_pos (by omega),if_pos (by omega)]
theorem rel_used (hok:TabOk S L) (hp:∀ i,i < 8→0≤(L i).1) (h:RFilesIn w fb rb eb rf pb S φ π nx Ft):usedL (relL φ L)=usedL L:=rel_used_from hok hp h 8 0 (by omega)
theorem zeroRInt (w:World):(zeroValue 3).run Tryz.prog w=.ok (.int .i64 0) w:=Tryz.zeroValue3 w
theorem zeroREnt (w:World):(zeroValue 133).run Tryz.prog w=.ok (.agg #[.int .i64 0,.int .i64 0,.int .i64 0,.int .i64 0,.int .i64 0]) w:=by kernel_rfl
theorem zeroRPipe (w:World):(zeroValue 138).run Tryz.prog w=.ok (.agg #[.string ⟨#[]⟩,.int .i64 0,.int .i64 0]) w:=by kernel_rfl
theorem RFilesIn.lookE (h:RFilesIn w fb rb eb rf pb S φ π nx Ft) (he:mget S.es k=some e):(Instr.lookup 58 (.map (some eb)) (.int .i64 (φ k)) false).run Tryz.prog w=.ok (reV (fE π e)) w:=by
 have h1:=h.mE.run_lookup (P:=Tryz.prog) keyI Tryz.underlying58 Tryz.underlying3 (zeroREnt w) (φ k) false
 rw [relab_get (h.al k e he).1,he] at h1
 exact h1
theorem RFilesIn.lookR (h:RFilesIn w fb rb eb rf pb S φ π nx Ft) (he:mget S.es k=some e):(Instr.lookup 59 (.map (some rf)) (.int .i64 (φ k)) false).run Tryz.prog w=.ok (.int .i64 (e.refs:Int)) w:=by
 have h1:=h.mR.run_lookup (P:=Tryz.prog) keyI Tryz.underlying59 Tryz.underlying3 (zeroRInt w) (φ k) false
 rw [relab_get (h.al k e he).1,he] at h1
 exact h1
theorem RFilesIn.lookP (h:RFilesIn w fb rb eb rf pb S φ π nx Ft) {i:Nat} {q:PP} (hq:S.ps[i]?=some q):(Instr.lookup 60 (.map (some pb)) (.int .i64 (π i)) false).run Tryz.prog w=.ok (rpV q) w:=by
 have h1:=h.mP.run_lookup (P:=Tryz.prog) keyI Tryz.underlying60 Tryz.underlying3 (zeroRPipe w) (π i) false
 rw [relab_get (h.pal i q hq).1,nums_get,hq] at h1
 exact h1
end
section
variable {w w' w1:World} {fb rb eb rf pb tab:Nat} {S S':PS} {φ:Int→Int} {π:Nat→Int} {nx n k:Int} {F Ft:Nat→Prop} {L L':PTab} {e:PE}
theorem rel_tset (φ:Int→Int) (L:PTab) (i:Nat) (a:Int) (c:Bool):relL φ (tset L i (a,c))=tset (relL φ L) i (if a=0 then 0 else φ (a - 1),c):=by
 funext j
 show (if (if j=i then (a,c) else L j).1=0 then (0:Int) else φ ((if j=i then (a,c) else L j).1 - 1),(if j=i then (a,c) else L j).2)=if j=i then _ else (if (L j).1=0 then 0 else φ ((L j).1 - 1),(L j).2)
 by_cases e:j=i
 ·simp only [e,if_pos]
 ·simp only [e,if_false]
theorem RTabIs.setMark (h:RTabIs w tab L) {i:Nat} (hi:i < 8) (c:Bool):RTabIs (w.setCell ⟨tab,i * 2+1,none⟩ (.bool c)) tab (tset L i ((L i).1,c)):=by
 refine ⟨fun j hj => ?_,fun j hj => ?_,fun j => by rw [World.frozen?_setCell]; exact h.fz j,fun j hj => ?_⟩
 ·rw [World.cell?_setCell_other _ _ _ _ (fun e => by simp at e; try omega)]
  show _=some (Value.int IntKind.i64 (if j=i then ((L i).1,c) else L j).1)
  by_cases e:j=i
  ·rw [if_pos e,e]; exact h.ent i hi
  ·rw [if_neg e]; exact h.ent j hj
 ·show _=some (Value.bool (if j=i then ((L i).1,c) else L j).2)
  by_cases e:j=i
  ·subst e
   rw [World.cell?_setCell_same _ _ _ (h.mark j hj),if_pos rfl]
  ·rw [World.cell?_setCell_other _ _ _ _ (fun e2 => by simp at e2; try omega),if_neg e]; exact h.mark j hj
 ·show 0≤(if j=i then ((L i).1,c) else L j).1∧(if j=i then ((L i).1,c) else L j).1≤1000000
  by_cases e:j=i
  ·rw [if_pos e]; exact h.pos i hi
  ·rw [if_neg e]; exact h.pos j hj
theorem RTabIs.set (h:RTabIs w tab L) {i:Nat} (hi:i < 8) (a:Int) (c:Bool) (ha:0≤a∧a≤1000000):RTabIs ((w.setCell ⟨tab,i * 2,none⟩ (.int .i64 a)).setCell ⟨tab,i * 2+1,none⟩ (.bool c)) tab (tset L i (a,c)):=by
 refine ⟨fun j hj => ?_,fun j hj => ?_,fun j => by rw [World.frozen?_setCell,World.frozen?_setCell]; exact h.fz j,fun j hj => ?_⟩
 ·rw [World.cell?_setCell_other _ _ _ _ (fun e => by simp at e; try omega)]
  by_cases e:j=i
  ·subst e
   rw [World.cell?_setCell_same _ _ _ (h.ent j hj)]
   show _=some (Value.int IntKind.i64 (if j=j then (a,c) else L j).1); rw [if_pos rfl]
  ·rw [World.cell?_setCell_other _ _ _ _ (fun e2 => by simp at e2; try omega)]
   show _=some (Value.int IntKind.i64 (if j=i then (a,c) else L j).1); rw [if_neg e]; exact h.ent j hj
 ·by_cases e:j=i
  ·subst e
   rw [World.cell?_setCell_same _ _ _ ((World.cell?_setCell_other _ _ _ _ (fun e2 => by simp at e2)).trans (h.mark j hj))]
   show _=some (Value.bool (if j=j then (a,c) else L j).2); rw [if_pos rfl]
  ·rw [World.cell?_setCell_other _ _ _ _ (fun e2 => by simp at e2; try omega),World.cell?_setCell_other _ _ _ _ (fun e2 => by simp at e2; try omega)]
   show _=some (Value.bool (if j=i then (a,c) else L j).2); rw [if_neg e]; exact h.mark j hj
 ·show 0≤(if j=i then (a,c) else L j).1∧(if j=i then (a,c) else L j).1≤1000000
  by_cases e:j=i
  ·rw [if_pos e]; exact ha
  ·rw [if_neg e]; exact h.pos j hj
theorem rhas_rel (h:RFilesIs w fb rb S φ π nx F) (ht:RTabIs w tab (relL φ L)) (hok:TabOk S L) (n:Int) :
  Calls Tryz.prog 15 #[.pointer (some ⟨tab,0,none⟩),.int .i64 n] w fun e w' => e=.returned (.bool (slotL L n).isSome)∧w'=w:=by
 obtain ⟨eb,rf,pb,Ft,hin,rfl⟩:=h
 have h1:=rhas_is ht n
 rw [rel_slot hok hin n,Option.isSome_map] at h1
 exact h1
theorem rmark_is (h:RFilesIs w fb rb S φ π nx F) (ht:RTabIs w tab (relL φ L)) (hok:TabOk S L) (hn:¬ F tab) (n:Int) (c:Bool) :
  Calls Tryz.prog 31 #[.pointer (some ⟨fb,0,none⟩),.pointer (some ⟨tab,0,none⟩),.int .i64 n,.bool c] w fun e w' => e=.returned (.int .i64 (getE L n))∧RFilesTo fb rb tab F w w' S S φ nx (markL S L n c):=by
 have HH:=hid (rhas_rel h ht hok n)
 cases hx:entL S L n with
 | none =>
  have e1:getE L n=7:=by unfold getE; rw [entL_none hok hx]; rfl
  have e4:markL S L n c=L:=by unfold markL; rw [hx]; rfl
  have e5:(slotL L n).isSome=false:=by rw [entL_none hok hx]; rfl
  rw [e5] at HH
  rw [e1,e4]
  have HK:Hid (RFilesTo fb rb tab F w w S S φ nx L):=hid (.same h ht (Turn.refl _ _) hn)
  clear h ht hok hn hx e1 e4 e5
  go_enter Tryz.func31,Tryz.ntmps31
  go_wp2_with fail
  refine HH.out.mono ?_
  rintro e w1 ⟨rfl,hw⟩; subst w1
  go_wp2_with fail
  go_returns
  exact ⟨rfl,HK.out⟩
 | some x =>
  obtain ⟨k,e⟩:=x
  have hs:=(entL_some hx).1
  obtain ⟨hn0,hn8,hnz,hnk⟩:=slotL_some hs
  have e1:getE L n=0:=by unfold getE; rw [hs]; rfl
  have e4:markL S L n c=tset L n.toNat ((L n.toNat).1,c):=by unfold markL; rw [hx]; rfl
  have e5:(slotL L n).isSome=true:=by rw [hs]; rfl
  rw [e5] at HH
  rw [e1,e4]
  have hj:n.toNat < 8:=by omega
  have c1:=ht.mark n.toNat hj
  have z1:=ht.fz (n.toNat * 2+1)
  have HI:=hid h
  have HT:=hid ht
  have HN:=hid hn
  have hr:relL φ (tset L n.toNat ((L n.toNat).1,c))=tset (relL φ L) n.toNat ((relL φ L n.toNat).1,c):=rel_tset φ L n.toNat _ c
  have HR:=hid hr
  clear h ht hok hn hx e1 e4 e5 hs hnz hnk hr
  go_enter Tryz.func31,Tryz.ntmps31
  go_wp2_with fail
  refine HH.out.mono ?_
  rintro e w1 ⟨rfl,hw⟩; subst w1
  go_wp2_with fail
  go_returns
  refine ⟨rfl,F,φ,π,nx,HI.out.turned (X:=fun k => k=tab) ((Turn.refl _ _).setCell _ _ (fun _ => rfl)) (fun k hk e => HN.out (e ▸ hk)),?_,(Turn.refl _ _).setCell _ _ (fun _ => .inr rfl),fun _ h => .inl h,HN.out,fun _ _ _ => rfl,by omega⟩
  rw [HR.out]
  exact HT.out.setMark hj c
end
section
variable {w w' w1:World} {fb rb eb rf pb tab:Nat} {S S':PS} {φ:Int→Int} {π:Nat→Int} {nx n k j:Int} {F Ft:Nat→Prop} {L L':PTab} {e e':PE} {i:Nat} {q q':PP}
theorem put_keys {κ α:Type} [DecidableEq κ] {es:List (κ×α)} {k:κ} {e e':α} (he:mget es k=some e):(mput es k e').map Prod.fst=es.map Prod.fst:=by
 unfold mput
 rw [he]
 exact mupd_keys es k e'
theorem alone_keys {κ κ' α:Type} {φ:κ→κ'} {es es':List (κ×α)} {k:κ} (h:Alone φ es k) (hk:∀ x∈es'.map Prod.fst,x∈es.map Prod.fst):Alone φ es' k:=fun t ht e => by
 obtain ⟨u,hu,e1⟩:=List.mem_map.1 (hk t.1 (List.mem_map.2 ⟨t,ht,rfl⟩))
 rw [← e1] at e ⊢
 exact h u hu e
theorem RFilesIn.al_put (h:RFilesIn w fb rb eb rf pb S φ π nx Ft) (he:mget S.es k=some e):∀ j f,mget (mput S.es k e') j=some f→Alone φ (mput S.es k e') j∧1≤φ j∧φ j≤nx:=fun j f hj => by
 have h1:∃ f0,mget S.es j=some f0:=by
  rw [mget_mput] at hj
  by_cases c:j=k
  ·exact ⟨e,by rw [c]; exact he⟩
  ·rw [if_neg c] at hj; exact ⟨f,hj⟩
 obtain ⟨f0,h2⟩:=h1
 obtain ⟨a1,a2⟩:=h.al j f0 h2
 exact ⟨alone_keys a1 (fun x hx => by rw [put_keys he] at hx; exact hx),a2⟩
theorem RFilesIn.setRefs (h:RFilesIn w fb rb eb rf pb S φ π nx Ft) (hnd:MNodup S.es) (he:mget S.es k=some e) (hf:fE π e'=fE π e)
  (hm:MapIs w' rf (.int .i64) encI encNt (mput (relab φ (·.refs) S.es) (φ k) e'.refs)) (t:Turn (fun j => j=rf) w w'):RFilesIn w' fb rb eb rf pb (putS S k e') φ π nx Ft:=by
 obtain ⟨p1,p2,p3,p4,p5,p6⟩:=h.ap
 have hl:=lt_of_cell h.h0
 exact {
  h0:=(t.cell (a:=⟨fb,0,none⟩) hl p2).trans h.h0
  h1:=(t.cell (a:=⟨fb,1,none⟩) hl p2).trans h.h1
  h2:=(t.cell (a:=⟨fb,2,none⟩) hl p2).trans h.h2
  h3:=(t.cell (a:=⟨fb,3,none⟩) hl p2).trans h.h3
  h4:=(t.cell (a:=⟨fb,4,none⟩) hl p2).trans h.h4
  fz:=fun i => (t.frozen (a:=⟨fb,i,none⟩) hl p2).trans (h.fz i)
  tr:=h.tr.turned t (fun k hk e => h.out.2.2.1 (e ▸ hk))
  mE:=by
   show MapIs w' eb (.int .i64) encI reV (relab φ (fE π) (mput S.es k e'))
   rw [relab_same hnd he hf]
   exact h.mE.turned t p4
  mR:=by
   have e1:relab φ (·.refs) (mput S.es k e')=mput (relab φ (·.refs) S.es) (φ k) e'.refs:=(relab_put (f:=(·.refs)) (h.al k e he).1 he).symm
   show MapIs w' rf (.int .i64) encI encNt (relab φ (·.refs) (mput S.es k e'))
   rw [e1]; exact hm
  mP:=h.mP.turned t (fun e => p6 e.symm)
  al:=h.al_put he
  pal:=h.pal
  nx0:=h.nx0
  ap:=h.ap
  out:=h.out }
theorem RFilesIn.setEnt (h:RFilesIn w fb rb eb rf pb S φ π nx Ft) (hnd:MNodup S.es) (he:mget S.es k=some e) (hf:e'.refs=e.refs)
  (hm:MapIs w' eb (.int .i64) encI reV (mput (relab φ (fE π) S.es) (φ k) (fE π e'))) (t:Turn (fun j => j=eb) w w'):RFilesIn w' fb rb eb rf pb (putS S k e') φ π nx Ft:=by
 obtain ⟨p1,p2,p3,p4,p5,p6⟩:=h.ap
 have hl:=lt_of_cell h.h0
 exact {
  h0:=(t.cell (a:=⟨fb,0,none⟩) hl p1).trans h.h0
  h1:=(t.cell (a:=⟨fb,1,none⟩) hl p1).trans h.h1
  h2:=(t.cell (a:=⟨fb,2,none⟩) hl p1).trans h.h2
  h3:=(t.cell (a:=⟨fb,3,none⟩) hl p1).trans h.h3
  h4:=(t.cell (a:=⟨fb,4,none⟩) hl p1).trans h.h4
  fz:=fun i => (t.frozen (a:=⟨fb,i,none⟩) hl p1).trans (h.fz i)
  tr:=h.tr.turned t (fun k hk e => h.out.2.1 (e ▸ hk))
  mE:=by
   show MapIs w' eb (.int .i64) encI reV (relab φ (fE π) (mput S.es k e'))
   rw [← relab_put (f:=fE π) (h.al k e he).1 he]; exact hm
  mR:=by
   have e1:relab φ (·.refs) (mput S.es k e')=relab φ (·.refs) S.es:=relab_same (f:=(·.refs)) hnd he hf
   show MapIs w' rf (.int .i64) encI encNt (relab φ (·.refs) (mput S.es k e'))
   rw [e1]; exact h.mR.turned t (fun e => p4 e.symm)
  mP:=h.mP.turned t (fun e => p5 e.symm)
  al:=h.al_put he
  pal:=h.pal
  nx0:=h.nx0
  ap:=h.ap
  out:=h.out }
theorem RFilesIn.setPipe (h:RFilesIn w fb rb eb rf pb S φ π nx Ft) (hq:S.ps[i]?=some q)
  (hm:MapIs w' pb (.int .i64) encI rpV (mput (relab π id (nums S.ps)) (π i) q')) (t:Turn (fun j => j=pb) w w'):RFilesIn w' fb rb eb rf pb (pipeS S i q') φ π nx Ft:=by
 obtain ⟨p1,p2,p3,p4,p5,p6⟩:=h.ap
 have hl:=lt_of_cell h.h0
 have hg:mget (nums S.ps) i=some q:=by rw [nums_get]; exact hq
 exact {
  h0:=(t.cell (a:=⟨fb,0,none⟩) hl p3).trans h.h0
  h1:=(t.cell (a:=⟨fb,1,none⟩) hl p3).trans h.h1
  h2:=(t.cell (a:=⟨fb,2,none⟩) hl p3).trans h.h2
  h3:=(t.cell (a:=⟨fb,3,none⟩) hl p3).trans h.h3
  h4:=(t.cell (a:=⟨fb,4,none⟩) hl p3).trans h.h4
  fz:=fun i => (t.frozen (a:=⟨fb,i,none⟩) hl p3).trans (h.fz i)
  tr:=h.tr.turned t (fun k hk e => h.out.2.2.2 (e ▸ hk))
  mE:=h.mE.turned t p5
  mR:=h.mR.turned t p6
  mP:=by
   show MapIs w' pb (.int .i64) encI rpV (relab π id (nums (S.ps.set i q')))
   rw [← nums_set hq,← relab_put (f:=id) (h.pal i q hq).1 hg]; exact hm
  al:=h.al
  pal:=fun j r hj => by
   have hj:(S.ps.set i q')[j]?=some r:=hj
   have h1:∃ r0,S.ps[j]?=some r0:=by
    rw [List.getElem?_set] at hj
    by_cases c:i=j
    ·subst c; exact ⟨q,hq⟩
    ·rw [if_neg c] at hj; exact ⟨r,hj⟩
   obtain ⟨r0,h2⟩:=h1
   obtain ⟨a1,a2⟩:=h.pal j r0 h2
   refine ⟨alone_keys a1 (fun x hx => ?_),a2⟩
   have hx:x∈(nums (S.ps.set i q')).map Prod.fst:=hx
   rw [← nums_set hq,put_keys hg] at hx
   exact hx
  nx0:=h.nx0
  ap:=h.ap
  out:=h.out }
theorem RFilesIn.gone (h:RFilesIn w fb rb eb rf pb S φ π nx Ft) (he:mget S.es k=some e)
  (hm1:MapIs w' eb (.int .i64) encI reV (mdel (relab φ (fE π) S.es) (φ k))) (hm2:MapIs w' rf (.int .i64) encI encNt (mdel (relab φ (·.refs) S.es) (φ k))) (t:Turn (fun j => j=eb∨j=rf) w w'):RFilesIn w' fb rb eb rf pb (delS S k) φ π nx Ft:=by
 obtain ⟨p1,p2,p3,p4,p5,p6⟩:=h.ap
 have hl:=lt_of_cell h.h0
 have hf:¬ (fb=eb∨fb=rf):=fun e => e.elim p1 p2
 exact {
  h0:=(t.cell (a:=⟨fb,0,none⟩) hl hf).trans h.h0
  h1:=(t.cell (a:=⟨fb,1,none⟩) hl hf).trans h.h1
  h2:=(t.cell (a:=⟨fb,2,none⟩) hl hf).trans h.h2
  h3:=(t.cell (a:=⟨fb,3,none⟩) hl hf).trans h.h3
  h4:=(t.cell (a:=⟨fb,4,none⟩) hl hf).trans h.h4
  fz:=fun i => (t.frozen (a:=⟨fb,i,none⟩) hl hf).trans (h.fz i)
  tr:=h.tr.turned t (fun k hk e => e.elim (fun e => h.out.2.1 (e ▸ hk)) (fun e => h.out.2.2.1 (e ▸ hk)))
  mE:=by
   show MapIs w' eb (.int .i64) encI reV (relab φ (fE π) (mdel S.es k))
   rw [← relab_del (f:=fE π) (h.al k e he).1]; exact hm1
  mR:=by
   have e1:relab φ (·.refs) (mdel S.es k)=mdel (relab φ (·.refs) S.es) (φ k):=(relab_del (f:=(·.refs)) (h.al k e he).1).symm
   show MapIs w' rf (.int .i64) encI encNt (relab φ (·.refs) (mdel S.es k))
   rw [e1]; exact hm2
  mP:=h.mP.turned t (fun e => e.elim (fun e => p5 e.symm) (fun e => p6 e.symm))
  al:=fun j f hj => by
   have hj:mget (mdel S.es k) j=some f:=hj
   rw [mget_mdel] at hj
   by_cases c:j=k
   ·rw [if_pos c] at hj; cases hj
   ·rw [if_neg c] at hj
    obtain ⟨a1,a2⟩:=h.al j f hj
    refine ⟨fun t ht e => a1 t ?_ e,a2⟩
    exact (List.mem_filter.1 ht).1
  pal:=h.pal
  nx0:=h.nx0
  ap:=h.ap
  out:=h.out }
theorem RFilesIn.setTree (h:RFilesIn w fb rb eb rf pb S φ π nx Ft) {T':PT} {Ft':Nat→Prop} (htr:RTreeIs w' rb T' Ft') (t:Turn Ft w w') (hn:∀ k,Ft' k→Ft k∨w.heap.size≤k):RFilesIn w' fb rb eb rf pb (treeS S T') φ π nx Ft':=by
 have hl:=lt_of_cell h.h0
 have hf:=h.out.1
 have off:∀ x,¬ Ft x→x < w.heap.size→¬ Ft' x:=fun x h1 h2 h3 => by
  rcases hn x h3 with h4 | h4
  ·exact h1 h4
  ·omega
 exact {
  h0:=(t.cell (a:=⟨fb,0,none⟩) hl hf).trans h.h0
  h1:=(t.cell (a:=⟨fb,1,none⟩) hl hf).trans h.h1
  h2:=(t.cell (a:=⟨fb,2,none⟩) hl hf).trans h.h2
  h3:=(t.cell (a:=⟨fb,3,none⟩) hl hf).trans h.h3
  h4:=(t.cell (a:=⟨fb,4,none⟩) hl hf).trans h.h4
  fz:=fun i => (t.frozen (a:=⟨fb,i,none⟩) hl hf).trans (h.fz i)
  tr:=htr
  mE:=h.mE.turned t h.out.2.1
  mR:=h.mR.turned t h.out.2.2.1
  mP:=h.mP.turned t h.out.2.2.2
  al:=h.al
  pal:=h.pal
  nx0:=h.nx0
  ap:=h.ap
  out:=⟨off _ h.out.1 hl,off _ h.out.2.1 h.mE.lt,off _ h.out.2.2.1 h.mR.lt,off _ h.out.2.2.2 h.mP.lt⟩ }
end
section
variable {w w' w1:World} {fb rb eb rf pb tab:Nat} {S S':PS} {φ:Int→Int} {π:Nat→Int} {nx n k:Int} {F Ft:Nat→Prop} {L L':PTab} {e:PE}
theorem rel_at (hz:(L n.toNat).1≠0) (hk:(L n.toNat).1 - 1=k):(relL φ L n.toNat).1=φ k:=by
 show (if (L n.toNat).1=0 then 0 else φ ((L n.toNat).1 - 1))=φ k
 rw [if_neg hz,hk]
def rentO (x:RE):Obj:=.cells #[.int .i64 x.1,.int .i64 x.2.1,.int .i64 x.2.2.1,.int .i64 x.2.2.2.1,.int .i64 x.2.2.2.2] 133
theorem rseek_is (h:RFilesIs w fb rb S φ π nx F) (hnd:MNodup S.es) (ht:RTabIs w tab (relL φ L)) (hok:TabOk S L) (hn:¬ F tab) (n at':Int) :
  Calls Tryz.prog 39 #[.pointer (some ⟨fb,0,none⟩),.pointer (some ⟨tab,0,none⟩),.int .i64 n,.int .i64 at'] w fun e w' => e=.returned (.int .i64 (seekE S L n at'))∧RFilesTo fb rb tab F w w' S (seekS S L n at') φ nx L:=by
 have HH:=hid (rhas_rel h ht hok n)
 have HK:Hid (∀ w',Turn (fun _ => False) w w'→RFilesTo fb rb tab F w w' S S φ nx L):=hid (fun w' t => .same (h.turned t (fun _ _ => id)) (ht.turned t id) t hn)
 cases hx:entL S L n with
 | none =>
  have e1:seekE S L n at'=7:=by unfold seekE; rw [hx]; rfl
  have e2:seekS S L n at'=S:=if_neg (by rw [e1]; decide)
  have e5:(slotL L n).isSome=false:=by rw [entL_none hok hx]; rfl
  rw [e5] at HH
  rw [e1,e2]
  clear h ht hok hn hx e1 e2 e5
  go_enter Tryz.func39,Tryz.ntmps39
  go_wp2_with fail
  refine HH.out.mono ?_
  rintro e w1 ⟨rfl,hw⟩; subst w1
  go_wp2_with fail
  go_returns
  exact ⟨rfl,HK.out _ (Turn.refl _ _)⟩
 | some x =>
  obtain ⟨k,e⟩:=x
  have hs:=(entL_some hx).1
  have he:=(entL_some hx).2
  obtain ⟨hn0,hn8,hnz,hnk⟩:=slotL_some hs
  have e5:(slotL L n).isSome=true:=by rw [hs]; rfl
  rw [e5] at HH
  have E1:Hid (seekE S L n at'=if e.kind≠1 then 6 else if at' < 0∨200 < at' then 2 else 0):=hid (by unfold seekE; rw [hx]; rfl)
  have E2:Hid (seekE S L n at'=0→seekS S L n at'=putS S k { e with at':=at' }):=hid (fun e0 => by unfold seekS; rw [if_pos e0,hx]; rfl)
  have E3:Hid (seekE S L n at'≠0→seekS S L n at'=S):=hid (fun e0 => if_neg e0)
  obtain ⟨eb,rf,pb,Ft,hin,rfl⟩:=h
  have hi8:n.toNat < 8:=by omega
  have hniz:(n.toNat:Int)=n:=by omega
  have c0:=ht.ent n.toNat hi8
  rw [rel_at hnz hnk] at c0
  have h1:=hin.h1
  have lk:=fun w' (t:Turn (fun _ => False) w w') => (hin.still t).lookE he
  have td:Turn (fun _ => False) w w.drew:=(Turn.refl _ _).drew
  have ta:Turn (fun _ => False) w (w.alloc (rentO (0,0,0,0,0))):=(Turn.refl _ _).alloc _
  have lk1:=lk _ td
  have lk2:=lk _ ta.drew
  have a0:=(ta.cell (lt_of_cell c0) id).trans c0
  have a1:=(ta.cell (lt_of_cell h1) id).trans h1
  obtain ⟨⟨x1,x2,x3,x4,x5⟩,hX⟩:∃ x:RE,fE π e=x:=⟨_,rfl⟩
  have hkd:e.kind=x1:=congrArg (fun x:RE => x.1) hX
  have HXe:=hid hX
  rw [hX] at lk1 lk2
  have mE:=fun w' (t:Turn (fun _ => False) w w') => (hin.mE.turned t id).run_update (P:=Tryz.prog) keyI Tryz.underlying58 Tryz.underlying3 (φ k) (x1,x2,x3,x4,at')
  obtain ⟨K,hK⟩:∃ K,φ k=K:=⟨_,rfl⟩
  have HKf:=hid hK
  rw [hK] at c0 a0 lk1 lk2 mE
  have l1:(Instr.lookup 58 (.map (some eb)) (.int .i64 K) false).run Tryz.prog w.drew=.ok (.agg #[.int .i64 x1,.int .i64 x2,.int .i64 x3,.int .i64 x4,.int .i64 x5]) w.drew:=lk1
  have l2:(Instr.lookup 58 (.map (some eb)) (.int .i64 K) false).run Tryz.prog (w.alloc (.cells #[.int .i64 0,.int .i64 0,.int .i64 0,.int .i64 0,.int .i64 0] 133)).drew=.ok (.agg #[.int .i64 x1,.int .i64 x2,.int .i64 x3,.int .i64 x4,.int .i64 x5]) (w.alloc (.cells #[.int .i64 0,.int .i64 0,.int .i64 0,.int .i64 0,.int .i64 0] 133)).drew:=lk2
  have b0:(w.alloc (.cells #[.int .i64 0,.int .i64 0,.int .i64 0,.int .i64 0,.int .i64 0] 133)).cell? ⟨tab,n.toNat * 2,none⟩=some (.int .i64 K):=a0
  have b1:(w.alloc (.cells #[.int .i64 0,.int .i64 0,.int .i64 0,.int .i64 0,.int .i64 0] 133)).cell? ⟨fb,1,none⟩=some (.map (some eb)):=a1
  have HM:=hid mE
  have HI:=hid hin
  have HT:=hid ht
  have HE:=hid he
  have HN:=hid hn
  have HNd:=hid hnd
  have HKd:=hid hkd
  obtain ⟨ab,hab⟩:∃ ab,w.heap.size=ab:=⟨_,rfl⟩
  obtain ⟨W1,hW1⟩:∃ W1,(w.alloc (.cells #[.int .i64 x1,.int .i64 x2,.int .i64 x3,.int .i64 x4,.int .i64 x5] 133)).drew=W1:=⟨_,rfl⟩
  have tW:Turn (fun _ => False) w W1:=by rw [← hW1]; exact ((Turn.refl _ _).alloc _).drew
  have m0:W1.cell? ⟨ab,0,none⟩=some (.int .i64 x1):=by rw [← hW1,← hab]; simp
  have m1:W1.cell? ⟨ab,1,none⟩=some (.int .i64 x2):=by rw [← hW1,← hab]; simp
  have m2:W1.cell? ⟨ab,2,none⟩=some (.int .i64 x3):=by rw [← hW1,← hab]; simp
  have m3:W1.cell? ⟨ab,3,none⟩=some (.int .i64 x4):=by rw [← hW1,← hab]; simp
  have m4:W1.cell? ⟨ab,4,none⟩=some (.int .i64 x5):=by rw [← hW1,← hab]; simp
  have mf:W1.frozen? ⟨ab,4,none⟩=false:=by rw [← hW1,← hab]; simp
  have t2:Turn (fun _ => False) w (W1.setCell ⟨ab,4,none⟩ (.int .i64 at')).drew:=(tW.trans' (((Turn.refl (fun q => q=ab) W1).setCell _ _ (fun _ => rfl)).drew) (fun q hq e => by omega))
  obtain ⟨w5,hrun,hm5,t5⟩:=mE _ t2
  replace hrun:(Instr.mapUpdate 58 (.map (some eb)) (.int .i64 K) (.agg #[.int .i64 x1,.int .i64 x2,.int .i64 x3,.int .i64 x4,.int .i64 at'])).run Tryz.prog (W1.setCell ⟨ab,4,none⟩ (.int .i64 at')).drew=.ok () w5:=hrun
  have HW:=hid (And.intro hW1 hab)
  have HTW:=hid tW
  have HT2:=hid t2
  have HT5:=hid t5
  have HM5:=hid hm5
  have n0:=(t2.cell (lt_of_cell c0) id).trans c0
  have n1:=(t2.cell (lt_of_cell h1) id).trans h1
  clear hin ht he hn hnd hX lk1 lk2 a0 a1 lk td ta hok hx hs hnz hnk e5 mE hK hkd hW1 hab tW t2 t5 hm5 HM
  go_enter Tryz.func39,Tryz.ntmps39
  go_wp2_with fail
  refine HH.out.mono ?_
  rintro e w1 ⟨rfl,hw⟩; subst w1
  go_wp2_with fail
  go_region
  all_goals
   rw [HW.out.1,HW.out.2]
   clear c0 h1 l1 l2 b0 b1
   by_cases hk1:x1=1
   ·have HE1:Hid (seekE S L n at'=if at' < 0∨200 < at' then 2 else 0):=hid (by rw [E1.out,HKd.out,if_neg (fun h => h hk1)])
    subst hk1
    clear E1
    by_cases hr:0≤at'∧at'≤200
    ·have e0:seekE S L n at'=0:=by rw [HE1.out,if_neg (by omega)]
     have HE0:=hid (And.intro e0 (E2.out e0))
     have HIn:=hid (fun w' => inR_yes at' 0 200 hr.1 hr.2 w')
     clear HE1 E2 E3 e0 HK
     go_wp2_with fail
     refine (HIn.out _).mono ?_
     rintro e w3 ⟨rfl,hw⟩; subst w3
     go_wp2_with fail
     go_region
     go_wp2_with fail
     go_returns
     rw [HE0.out.1,HE0.out.2]
     refine ⟨rfl,RFoots fb eb rf pb Ft,φ,π,nx,⟨eb,rf,pb,Ft,?_,rfl⟩,?_,?_,fun _ h => .inl h,HN.out,fun _ _ _ => rfl,by omega⟩
     ·refine (HI.out.still HT2.out).setEnt HNd.out HE.out rfl ?_ HT5.out
      rw [HKf.out]
      have e1:fE π { e with at':=at' }=(1,x2,x3,x4,at'):=by
       have h0:=HXe.out
       unfold fE at h0 ⊢
       simp only [Prod.mk.injEq] at h0 ⊢
       exact ⟨h0.1,h0.2.1,h0.2.2.1,h0.2.2.2.1,trivial⟩
      rw [e1]
      exact HM5.out
     ·exact (HT.out.turned HT2.out id).turned HT5.out (fun e => HN.out (.inr (.inr (.inl e))))
     ·exact (HT2.out.mono (fun _ _ h => h.elim)).trans (HT5.out.mono (fun _ _ e => .inl (.inr (.inr (.inl e)))))
    ·have e0:seekE S L n at'=2:=by rw [HE1.out,if_pos (by omega)]
     have HE0:=hid (And.intro e0 (E3.out (by rw [e0]; decide)))
     have HIn:=hid (fun w' => inR_no at' 0 200 hr w')
     clear HE1 E2 E3 e0 n0 n1 hrun
     go_wp2_with fail
     refine (HIn.out _).mono ?_
     rintro e w3 ⟨rfl,hw⟩; subst w3
     go_wp2_with fail
     go_returns
     rw [HE0.out.1,HE0.out.2]
     exact ⟨rfl,HK.out _ HTW.out⟩
   ·have e0:seekE S L n at'=6:=by rw [E1.out,if_pos (by rw [HKd.out]; exact hk1)]
    have HE0:=hid (And.intro e0 (E3.out (by rw [e0]; decide)))
    have hkb:(x1 == 1)=false:=by simpa using hk1
    clear E1 E2 E3 e0 hk1 n0 n1 hrun
    go_wp2_with fail
    go_returns
    rw [HE0.out.1,HE0.out.2]
    exact ⟨rfl,HK.out _ HTW.out⟩
end
section
variable {w w' w1:World} {fb rb eb rf pb tab:Nat} {S S':PS} {φ:Int→Int} {π:Nat→Int} {nx n k:Int} {F Ft:Nat→Prop} {L L':PTab} {e:PE}
theorem rleast_rel (h:RFilesIs w fb rb S φ π nx F) (ht:RTabIs w tab (relL φ L)) (hok:TabOk S L) :
  Calls Tryz.prog 56 #[.pointer (some ⟨tab,0,none⟩)] w fun e w' => e=.returned (.int .i64 (leastL L))∧Turn (fun _ => False) w w':=by
 obtain ⟨eb,rf,pb,Ft,hin,rfl⟩:=h
 have h1:=rleast_is ht
 rw [rel_least hok hin] at h1
 exact h1
theorem rdup_is (h:RFilesIs w fb rb S φ π nx F) (hnd:MNodup S.es) (ht:RTabIs w tab (relL φ L)) (hok:TabOk S L) (hn:¬ F tab) (n:Int) (hb:∀ k e,mget S.es k=some e→e.refs < 1000000) :
  Calls Tryz.prog 27 #[.pointer (some ⟨fb,0,none⟩),.pointer (some ⟨tab,0,none⟩),.int .i64 n] w fun e w' => e=.returned (.tuple #[.int .i64 (dupK S L n),.int .i64 (dupE S L n)])∧RFilesTo fb rb tab F w w' S (dupS S L n) φ nx (dupL S L n):=by
 have HH:=hid (rhas_rel h ht hok n)
 have HK:Hid (∀ w',Turn (fun _ => False) w w'→RFilesTo fb rb tab F w w' S S φ nx L):=hid (fun w' t => .same (h.turned t (fun _ _ => id)) (ht.turned t id) t hn)
 cases hx:entL S L n with
 | none =>
  have e1:dupE S L n=7:=by unfold dupE; rw [hx]; rfl
  have e2:dupS S L n=S:=if_neg (by rw [e1]; decide)
  have e3:dupK S L n=0:=if_neg (by rw [e1]; decide)
  have e4:dupL S L n=L:=if_neg (by rw [e1]; decide)
  have e5:(slotL L n).isSome=false:=by rw [entL_none hok hx]; rfl
  rw [e5] at HH
  rw [e1,e2,e3,e4]
  clear h ht hok hn hx e1 e2 e3 e4 e5
  go_enter Tryz.func27,Tryz.ntmps27
  go_wp2_with fail
  refine HH.out.mono ?_
  rintro e w1 ⟨rfl,hw⟩; subst w1
  go_wp2_with fail
  go_ret2
  exact ⟨rfl,HK.out _ (Turn.refl _ _)⟩
 | some x =>
  obtain ⟨k,e⟩:=x
  have hs:=(entL_some hx).1
  have he:=(entL_some hx).2
  obtain ⟨hn0,hn8,hnz,hnk⟩:=slotL_some hs
  have e5:(slotL L n).isSome=true:=by rw [hs]; rfl
  rw [e5] at HH
  have HLe:=hid (rleast_rel h ht hok)
  rcases leastL_spec L with hl | ⟨j,hl,hj8,hjz⟩
  ·have e1:dupE S L n=12:=by unfold dupE; rw [hx]; show (if leastL L < 0 then 12 else 0)=_; rw [if_pos (by omega)]
   have e2:dupS S L n=S:=if_neg (by rw [e1]; decide)
   have e3:dupK S L n=0:=if_neg (by rw [e1]; decide)
   have e4:dupL S L n=L:=if_neg (by rw [e1]; decide)
   rw [e1,e2,e3,e4]
   rw [hl] at HLe
   clear h ht hok hn hx e1 e2 e3 e4 e5 he hs hl hnz hnk hb
   go_enter Tryz.func27,Tryz.ntmps27
   go_wp2_with fail
   refine HH.out.mono ?_
   rintro e w1 ⟨rfl,hw⟩; subst w1
   go_wp2_with fail
   refine HLe.out.mono ?_
   rintro e w1 ⟨rfl,t⟩
   have HT:=hid t
   clear t
   go_wp2_with fail
   go_ret2
   exact ⟨rfl,HK.out _ HT.out⟩
  ·have e1:dupE S L n=0:=by unfold dupE; rw [hx]; show (if leastL L < 0 then 12 else 0)=_; rw [if_neg (by omega)]
   have e2:dupS S L n=putS S k { e with refs:=e.refs+1 }:=by unfold dupS; rw [e1,if_pos rfl,hx]; rfl
   have e3:dupK S L n=j:=by unfold dupK; rw [e1,if_pos rfl,hl]
   have e4:dupL S L n=tset L j ((L n.toNat).1,false):=by unfold dupL; rw [e1,if_pos rfl,hl]; rfl
   rw [e1,e2,e3,e4]
   rw [hl] at HLe
   obtain ⟨eb,rf,pb,Ft,hin,rfl⟩:=h
   have hi8:n.toNat < 8:=by omega
   have hniz:(n.toNat:Int)=n:=by omega
   have hrf:=hb k e he
   have hrw:IntKind.i64.wrap ((e.refs:Int)+1)=(e.refs:Int)+1:=IntWalk.i64_in _ (by omega)
   have hnj:n.toNat≠j:=fun c => hnz (by rw [c]; exact hjz)
   have hrl:=rel_at (φ:=φ) hnz hnk
   have hset:relL φ (tset L j ((L n.toNat).1,false))=tset (relL φ L) j (φ k,false):=by rw [rel_tset,if_neg hnz,hnk]
   have hal:=(hin.al k e he).2
   have hnx:=hin.nx0
   obtain ⟨K,hK⟩:∃ K,φ k=K:=⟨_,rfl⟩
   rw [hK] at hrl hset hal
   have HI:=hid hin
   have HT:=hid ht
   have HE:=hid he
   have HN:=hid hn
   have HNd:=hid hnd
   have HKf:=hid hK
   have HS:=hid hset
   have HRl:=hid hrl
   have HKb:=hid (show 0≤K∧K≤1000000 by omega)
   clear hin ht hok hn hx e1 e2 e3 e4 e5 he hs hl hnz hnk hb hK hset hrl hal hnx HK hnd
   go_enter Tryz.func27,Tryz.ntmps27
   go_wp2_with fail
   refine HH.out.mono ?_
   rintro e' w1 ⟨rfl,hw⟩; subst w1
   go_wp2_with fail
   refine HLe.out.mono ?_
   rintro e' w2 ⟨rfl,t⟩
   have ht2:=HT.out.turned t id
   have hi2:=HI.out.still t
   have HT2:=hid t
   have c0:=ht2.ent n.toNat hi8
   rw [HRl.out] at c0
   have c2:=ht2.ent j hj8
   have c3:=ht2.mark j hj8
   have z2:=ht2.fz (j * 2)
   have z3:=ht2.fz (j * 2+1)
   obtain ⟨W1,hW1⟩:∃ W1,((w2.setCell ⟨tab,j * 2,none⟩ (.int .i64 K)).setCell ⟨tab,j * 2+1,none⟩ (.bool false)).drew=W1:=⟨_,rfl⟩
   have tW:Turn (fun q => q=tab) w2 W1:=by rw [← hW1]; exact (((Turn.refl (fun q => q=tab) w2).setCell ⟨tab,j * 2,none⟩ _ (fun _ => rfl)).setCell ⟨tab,j * 2+1,none⟩ _ (fun _ => rfl)).drew
   have ht3:RTabIs W1 tab (tset (relL φ L) j (K,false)):=by
    have h1:=(ht2.set hj8 K false HKb.out).turned (S:=fun _ => False) (Turn.refl _ _).drew id
    rw [hW1] at h1
    exact h1
   have hi3:=hi2.turned tW (fun q hq e => HN.out (e ▸ hq))
   have d0:=ht3.ent n.toNat hi8
   have d1:(tset (relL φ L) j (K,false) n.toNat).1=K:=by
    show (if n.toNat=j then (K,false) else relL φ L n.toNat).1=K
    rw [if_neg hnj]; exact HRl.out
   rw [d1] at d0
   have r1:=hi3.h2
   have td:Turn (fun _ => False) W1 W1.drew:=(Turn.refl _ _).drew
   have lk:=(hi3.still td).lookR HE.out
   obtain ⟨w5,hrun,hm5,t5⟩:=(hi3.still td).mR.run_update (P:=Tryz.prog) keyI Tryz.underlying59 Tryz.underlying3 (φ k) (e.refs+1)
   rw [HKf.out] at lk hrun hm5
   replace hrun:(Instr.mapUpdate 59 (.map (some rf)) (.int .i64 K) (.int .i64 ((e.refs:Int)+1))).run Tryz.prog W1.drew=.ok () w5:=hrun
   have HFin:Hid (RFilesTo fb rb tab (RFoots fb eb rf pb Ft) w w5 S (putS S k { e with refs:=e.refs+1 }) φ nx (tset L j ((L n.toNat).1,false))):=hid (by
    have hd:RFilesIn W1.drew fb rb eb rf pb S φ π nx Ft:=hi3.still td
    refine ⟨RFoots fb eb rf pb Ft,φ,π,nx,⟨eb,rf,pb,Ft,hd.setRefs HNd.out HE.out rfl (by rw [HKf.out]; exact hm5) t5,rfl⟩,?_,?_,fun _ h => .inl h,HN.out,fun _ _ _ => rfl,by omega⟩
    ·rw [HS.out]
     exact (ht3.turned td id).turned t5 (fun e => HN.out (.inr (.inr (.inr (.inl e)))))
    ·exact (((t.mono (fun _ _ h => h.elim)).trans (tW.mono (fun _ _ e => .inr e))).trans (td.mono (fun _ _ h => h.elim))).trans (t5.mono (fun _ _ e => .inl (.inr (.inr (.inr (.inl e)))))))
   have HW:=hid hW1
   clear ht2 hi2 t tW ht3 hi3 d1 td hm5 t5 hW1 HI HT HE HN HNd HKf HS HRl HKb HLe HH
   go_wp2_with fail
   go_region
   all_goals
    rw [HW.out]
    clear c0 c2 c3 z2 z3
    go_wp2_with fail
    go_region
    all_goals
     go_wp2_with fail
     go_ret2
     exact ⟨rfl,HFin.out⟩
end
end Go.Proofs.YtncfmlifponjdaaGreatDoor
