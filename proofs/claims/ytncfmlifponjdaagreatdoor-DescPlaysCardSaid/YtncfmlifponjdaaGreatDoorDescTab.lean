/- Package desc: a table of numbers in memory; least, Used. Conditions: each theorem's own premises. Package desc: what is open, in memory and plain; get, Has, Open, Mark, Seek. Conditions: each theorem's own premises. Package desc: one entry's, one pipe's, one number's change in memory; Mark, Seek, Dup. Conditions: each theorem's own premises. Package desc: Seek, Mark, Dup. Conditions: each theorem's own premises. Package desc: add. Conditions: each theorem's own premises. Package desc: File. Condition: errors.errorType holds what is laid; each theorem's own premises. Package desc: Read, Write. Conditions: each theorem's own premises. Package desc: Write. Conditions: each theorem's own premises. Package desc: Fork. Conditions: each theorem's own premises. Package desc: Close. Conditions: each theorem's own premises. Package desc: Mark. Conditions: each theorem's own premises. Package desc: Used. Conditions: each theorem's own premises. -/
import Derived.Test.YtncfmlifponjdaaGreatDoorProg
import Derived.Test.YtncfmlifponjdaaGreatDoorBase
import Derived.BigRegion
import Derived.Deep.LoopGhost
import Derived.Deep.DeepCutAuto
import Derived.Deep.CutBlock
import Derived.Outline
import Derived.Handy
import Derived.Test.YtncfmlifponjdaaGreatDoorPaths
import Derived.Test.YtncfmlifponjdaaGreatDoorPipe
namespace Go.Proofs.YtncfmlifponjdaaGreatDoor
open Go.RowKit
set_option linter.unusedVariables false
set_option maxHeartbeats 4000000
set_option maxRecDepth 100000
abbrev PTab:=Nat→Int×Bool
structure TabIs (w:World) (b:Nat) (L:PTab):Prop where
 ent:∀ i,i < 8→w.cell? ⟨b,i * 2,none⟩=some (.int .i64 (L i).1)
 mark:∀ i,i < 8→w.cell? ⟨b,i * 2+1,none⟩=some (.bool (L i).2)
 fz:∀ i,w.frozen? ⟨b,i,none⟩=false
 pos:∀ i,i < 8→0≤(L i).1∧(L i).1≤40
def leastFrom (L:PTab):Nat→Nat→Int
 | 0,_ => -1
 | f+1,i => if (L i).1=0 then i else leastFrom L f (i+1)
def leastL (L:PTab):Int:=leastFrom L 8 0
def usedFrom (L:PTab):Nat→Nat→Nat
 | 0,_ => 0
 | f+1,i => (if 0 < (L i).1 then 1 else 0)+usedFrom L f (i+1)
def usedL (L:PTab):Nat:=usedFrom L 8 0
def tset (L:PTab) (n:Nat) (x:Int×Bool):PTab:=fun i => if i=n then x else L i
section
variable {w w':World} {b:Nat} {L:PTab}
theorem TabIs.lt (h:TabIs w b L):b < w.heap.size:=lt_of_cell (h.ent 0 (by omega))
theorem TabIs.turned {S:Nat→Prop} (h:TabIs w b L) (t:Turn S w w') (hb:¬ S b):TabIs w' b L :=
 ⟨fun i hi => (t.cell (a:=⟨b,i * 2,none⟩) h.lt hb).trans (h.ent i hi),fun i hi => (t.cell (a:=⟨b,i * 2+1,none⟩) h.lt hb).trans (h.mark i hi),fun i => (t.frozen (a:=⟨b,i,none⟩) h.lt hb).trans (h.fz i),h.pos⟩
theorem leastFrom_zero (f i:Nat) (h:(L i).1=0):leastFrom L (f+1) i=i:=if_pos h
theorem leastFrom_next (f i:Nat) (h:(L i).1≠0):leastFrom L (f+1) i=leastFrom L f (i+1):=if_neg h
theorem leastFrom_spec:∀ (f i:Nat),leastFrom L f i=-1∨∃ k:Nat,leastFrom L f i=k∧i≤k∧k < i+f∧(L k).1=0
 | 0,i => .inl rfl
 | f+1,i => by
  by_cases h:(L i).1=0
  ·exact .inr ⟨i,leastFrom_zero f i h,Nat.le_refl _,by omega,h⟩
  ·rw [leastFrom_next f i h]
   rcases leastFrom_spec f (i+1) with h1 | ⟨k,h1,h2,h3,h4⟩
   ·exact .inl h1
   ·exact .inr ⟨k,h1,by omega,by omega,h4⟩
theorem leastL_spec (L:PTab):leastL L=-1∨∃ k:Nat,leastL L=k∧k < 8∧(L k).1=0:=by
 rcases leastFrom_spec (L:=L) 8 0 with h | ⟨k,h1,h2,h3,h4⟩
 ·exact .inl h
 ·exact .inr ⟨k,h1,by omega,h4⟩
theorem usedFrom_le:∀ (f i:Nat),usedFrom L f i≤f
 | 0,_ => Nat.le_refl _
 | f+1,i => by
  have:=usedFrom_le f (i+1)
  show (if _ then 1 else 0)+_≤_
  split <;> omega
theorem usedL_le (L:PTab):usedL L≤8:=usedFrom_le 8 0
/-! ### least -/
theorem free_is (w:World) (a:Int) (c:Bool):Calls Tryz.prog 78 #[.agg #[.int .i64 a,.bool c]] w fun e w' => e=.returned (.bool (decide (a=0)))∧Turn (fun _ => False) w w':=by
 go_enter Tryz.func78,Tryz.ntmps78
 go_wp2_with fail
 go_ret
 exact ⟨rfl,(Turn.refl _ _).alloc _⟩
theorem indexFunc_is (h:TabIs w b L):Calls Tryz.prog 77 #[.slice (some ⟨b,0,none⟩) 8 8,.func (.func 78) #[] #[]] w fun e w' => e=.returned (.int .i64 (leastL L))∧Turn (fun _ => False) w w':=by
 have H:=hid h
 obtain ⟨R,hR⟩:∃ R,leastL L=R:=⟨_,rfl⟩
 rw [hR]
 have HR:=hid hR
 clear h hR
 go_enter Tryz.func77,Tryz.ntmps77
 go_wp2_with fail
 go_loopg [8] 8 (fun gl i wr => ∃ k:Nat,k+gl=8∧i=.int .i64 k∧Hid (leastFrom L gl k=R)∧Turn (fun _ => False) w wr)
 case atStart => exact ⟨0,by omega,rfl,HR,Turn.refl _ _⟩
 case round =>
  obtain ⟨k,hk,rfl,hf,ht⟩:=hrel
  by_cases hk8:k < 8
  ·have hk':(k:Int) < 8:=by omega
   obtain ⟨g,rfl⟩:∃ g,gk=g+1:=⟨7 - k,by omega⟩
   have h':=H.out.turned ht id
   have c1:=h'.ent k hk8
   have c2:=h'.mark k hk8
   have HT:=hid ht
   have HF:Hid ((L k).1=0→R=k):=fun e => by rw [← hf.out,leastFrom_zero g k e]
   have HN:Hid ((L k).1≠0→leastFrom L g (k+1)=R):=fun e => by rw [← hf.out,leastFrom_next g k e]
   clear h' ht hf
   go_wp2_with (go_at_call 78; refine (free_is _ _ _).mono ?_; rintro e w' ⟨rfl,ht'⟩; have HT':=hid (HT.out.trans ht'); clear ht'; by_cases hz:(L k).1=0)
   ·go_ret
    exact ⟨ret_int (HF.out hz).symm,HT'.out⟩
   ·go_roundg g
    case measure => omega
    case rel => exact ⟨k+1,by omega,by go_num,hid (HN.out hz),HT'.out⟩
  ·have hk':¬ (k:Int) < 8:=by omega
   obtain rfl:k=8:=by omega
   obtain rfl:gk=0:=by omega
   have HF:Hid (-1=R):=hf
   have HT:=hid ht
   clear hf ht
   go_wp2_with fail
   go_ret
   exact ⟨ret_int HF.out,HT.out⟩
theorem least_is (h:TabIs w b L):Calls Tryz.prog 50 #[.pointer (some ⟨b,0,none⟩)] w fun e w' => e=.returned (.int .i64 (leastL L))∧Turn (fun _ => False) w w':=by
 have H:=hid h
 clear h
 go_enter Tryz.func50,Tryz.ntmps50
 go_wp2_with (go_at_call 77; refine (indexFunc_is H.out).mono ?_; rintro e w' ⟨rfl,ht'⟩)
 go_ret
 exact ⟨rfl,ht'⟩
/-! ### Used -/
theorem idx0 (x0 x1 x2 x3 x4 x5 x6 x7:Int) (y0 y1 y2 y3 y4 y5 y6 y7:Bool) (w:World):(Instr.index 39 (.agg #[.int .i64 x0,.bool y0,.int .i64 x1,.bool y1,.int .i64 x2,.bool y2,.int .i64 x3,.bool y3,.int .i64 x4,.bool y4,.int .i64 x5,.bool y5,.int .i64 x6,.bool y6,.int .i64 x7,.bool y7]) (.int .i64 0)).run Tryz.prog w=.ok (.agg #[.int .i64 x0,.bool y0]) w:=by kernel_rfl
theorem idx1 (x0 x1 x2 x3 x4 x5 x6 x7:Int) (y0 y1 y2 y3 y4 y5 y6 y7:Bool) (w:World):(Instr.index 39 (.agg #[.int .i64 x0,.bool y0,.int .i64 x1,.bool y1,.int .i64 x2,.bool y2,.int .i64 x3,.bool y3,.int .i64 x4,.bool y4,.int .i64 x5,.bool y5,.int .i64 x6,.bool y6,.int .i64 x7,.bool y7]) (.int .i64 1)).run Tryz.prog w=.ok (.agg #[.int .i64 x1,.bool y1]) w:=by kernel_rfl
theorem idx2 (x0 x1 x2 x3 x4 x5 x6 x7:Int) (y0 y1 y2 y3 y4 y5 y6 y7:Bool) (w:World):(Instr.index 39 (.agg #[.int .i64 x0,.bool y0,.int .i64 x1,.bool y1,.int .i64 x2,.bool y2,.int .i64 x3,.bool y3,.int .i64 x4,.bool y4,.int .i64 x5,.bool y5,.int .i64 x6,.bool y6,.int .i64 x7,.bool y7]) (.int .i64 2)).run Tryz.prog w=.ok (.agg #[.int .i64 x2,.bool y2]) w:=by kernel_rfl
theorem idx3 (x0 x1 x2 x3 x4 x5 x6 x7:Int) (y0 y1 y2 y3 y4 y5 y6 y7:Bool) (w:World):(Instr.index 39 (.agg #[.int .i64 x0,.bool y0,.int .i64 x1,.bool y1,.int .i64 x2,.bool y2,.int .i64 x3,.bool y3,.int .i64 x4,.bool y4,.int .i64 x5,.bool y5,.int .i64 x6,.bool y6,.int .i64 x7,.bool y7]) (.int .i64 3)).run Tryz.prog w=.ok (.agg #[.int .i64 x3,.bool y3]) w:=by kernel_rfl
theorem idx4 (x0 x1 x2 x3 x4 x5 x6 x7:Int) (y0 y1 y2 y3 y4 y5 y6 y7:Bool) (w:World):(Instr.index 39 (.agg #[.int .i64 x0,.bool y0,.int .i64 x1,.bool y1,.int .i64 x2,.bool y2,.int .i64 x3,.bool y3,.int .i64 x4,.bool y4,.int .i64 x5,.bool y5,.int .i64 x6,.bool y6,.int .i64 x7,.bool y7]) (.int .i64 4)).run Tryz.prog w=.ok (.agg #[.int .i64 x4,.bool y4]) w:=by kernel_rfl
theorem idx5 (x0 x1 x2 x3 x4 x5 x6 x7:Int) (y0 y1 y2 y3 y4 y5 y6 y7:Bool) (w:World):(Instr.index 39 (.agg #[.int .i64 x0,.bool y0,.int .i64 x1,.bool y1,.int .i64 x2,.bool y2,.int .i64 x3,.bool y3,.int .i64 x4,.bool y4,.int .i64 x5,.bool y5,.int .i64 x6,.bool y6,.int .i64 x7,.bool y7]) (.int .i64 5)).run Tryz.prog w=.ok (.agg #[.int .i64 x5,.bool y5]) w:=by kernel_rfl
theorem idx6 (x0 x1 x2 x3 x4 x5 x6 x7:Int) (y0 y1 y2 y3 y4 y5 y6 y7:Bool) (w:World):(Instr.index 39 (.agg #[.int .i64 x0,.bool y0,.int .i64 x1,.bool y1,.int .i64 x2,.bool y2,.int .i64 x3,.bool y3,.int .i64 x4,.bool y4,.int .i64 x5,.bool y5,.int .i64 x6,.bool y6,.int .i64 x7,.bool y7]) (.int .i64 6)).run Tryz.prog w=.ok (.agg #[.int .i64 x6,.bool y6]) w:=by kernel_rfl
theorem idx7 (x0 x1 x2 x3 x4 x5 x6 x7:Int) (y0 y1 y2 y3 y4 y5 y6 y7:Bool) (w:World):(Instr.index 39 (.agg #[.int .i64 x0,.bool y0,.int .i64 x1,.bool y1,.int .i64 x2,.bool y2,.int .i64 x3,.bool y3,.int .i64 x4,.bool y4,.int .i64 x5,.bool y5,.int .i64 x6,.bool y6,.int .i64 x7,.bool y7]) (.int .i64 7)).run Tryz.prog w=.ok (.agg #[.int .i64 x7,.bool y7]) w:=by kernel_rfl
end
structure PE where
  kind:Int
  prot:Int
  node:Int
  pid:Nat
  at':Int
  refs:Nat
structure PP where
  b:ByteArray
  e0:Int
  e1:Int
structure PS where
  T:PT
  es:List (Int×PE)
  ps:List PP
def pipeV (P:Nat→Nat) (e:PE):Value:=if e.kind=1 then .pointer none else ptrV (P e.pid)
structure EntAt (w:World) (b:Nat) (P:Nat→Nat) (e:PE):Prop where
  c0:w.cell? ⟨b,0,none⟩=some (.int .i64 e.kind)
  c1:w.cell? ⟨b,1,none⟩=some (.int .i64 e.prot)
  c2:w.cell? ⟨b,2,none⟩=some (.int .i64 e.node)
  c3:w.cell? ⟨b,3,none⟩=some (pipeV P e)
  c4:w.cell? ⟨b,4,none⟩=some (.int .i64 e.at')
  c5:w.cell? ⟨b,5,none⟩=some (.int .i64 (e.refs:Int))
  fz:∀ i,w.frozen? ⟨b,i,none⟩=false
def keysE (B:Int→Nat) (es:List (Int×PE)):List (Int×Nat):=es.map fun t => (t.1,B t.1)
def heldE (n:Int) (es:List (Int×PE)):Nat:=(es.filter fun t => decide (t.2.kind=1∧t.2.node=n)).length
def EOk (S:PS) (e:PE):Prop :=
  (1≤e.refs∧e.refs≤1000000∧0≤e.at'∧e.at'≤200) ∧
  ((e.kind=1∧1≤e.prot∧e.prot≤3∧∃ p,mget S.T e.node=some p∧p.isDir=false) ∨
   (e.kind=2∧e.prot=1∧∃ q,S.ps[e.pid]?=some q∧q.e0=1)∨(e.kind=3∧e.prot=2∧∃ q,S.ps[e.pid]?=some q∧q.e1=1))
structure DOk (S:PS):Prop where
  nd:MNodup S.es
  keys:∀ k e,mget S.es k=some e→0≤k∧k < 40
  ent:∀ k e,mget S.es k=some e→EOk S e
  size:S.es.length≤40
  one:∀ k j e f,mget S.es k=some e→mget S.es j=some f→e.kind≠1→e.kind=f.kind→e.pid=f.pid→k=j
  pipes:∀ (i:Nat) (q:PP),S.ps[i]?=some q→q.b.size≤16∧(q.e0=0∨q.e0=1)∧(q.e1=0∨q.e1=1)
  held:∀ n p,mget S.T n=some p→p.held=heldE n S.es
structure FilesIn (w:World) (fb tb om:Nat) (S:PS) (B:Int→Nat) (P:Nat→Nat) (Ft:Nat→Prop) (C:Nat→Nat×Int):Prop where
  h0:w.cell? ⟨fb,0,none⟩=some (.pointer (some ⟨tb,0,none⟩))
  h1:w.cell? ⟨fb,1,none⟩=some (.map (some om))
  tr:TreeIs w tb S.T Ft
  mp:MapIs w om (.int .i64) encI ptrV (keysE B S.es)
  en:∀ k e,mget S.es k=some e→EntAt w (B k) P e
  pp:∀ (i:Nat) (q:PP),S.ps[i]?=some q→PipeIs w (P i) q.b q.e0 q.e1
  cf:C fb=(1,0)
  cm:C om=(2,0)
  ce:∀ k e,mget S.es k=some e→C (B k)=(3,k)
  cp:∀ (i:Nat) (q:PP),S.ps[i]?=some q→C (P i)=(4,(i:Int))
  ct:∀ k,Ft k→C k=(5,0)
  low:∀ k,C k≠(0,0)→k < w.heap.size
def CFoot (C:Nat→Nat×Int) (k:Nat):Prop:=C k≠(0,0)
def FilesIs (w:World) (fb tb:Nat) (S:PS) (F:Nat→Prop):Prop:=∃ om B P Ft C,FilesIn w fb tb om S B P Ft C∧F=CFoot C
theorem keysE_get (B:Int→Nat):∀ (es:List (Int×PE)) (n:Int),mget (keysE B es) n=(mget es n).map fun _ => B n:=by
  intro T n
  unfold mget keysE
  induction T with
  | nil => rfl
  | cons t T ih =>
    rw [List.map_cons,List.find?_cons,List.find?_cons]
    by_cases e:t.1=n
    · simp only [e,decide_true]; rfl
    · simp only [e,decide_false]; exact ih
section
variable {w w':World} {fb tb om b tab:Nat} {S S':PS} {B:Int→Nat} {P:Nat→Nat} {Ft F:Nat→Prop} {C:Nat→Nat×Int} {e e':PE} {k n:Int} {L:PTab}
theorem EntAt.lt (h:EntAt w b P e):b < w.heap.size:=lt_of_cell h.c0
theorem EntAt.turned {S:Nat→Prop} (h:EntAt w b P e) (t:Turn S w w') (hb:¬ S b):EntAt w' b P e :=
  ⟨(t.cell (a:=⟨b,0,none⟩) h.lt hb).trans h.c0,(t.cell (a:=⟨b,1,none⟩) h.lt hb).trans h.c1,(t.cell (a:=⟨b,2,none⟩) h.lt hb).trans h.c2,(t.cell (a:=⟨b,3,none⟩) h.lt hb).trans h.c3,(t.cell (a:=⟨b,4,none⟩) h.lt hb).trans h.c4,(t.cell (a:=⟨b,5,none⟩) h.lt hb).trans h.c5,fun i => (t.frozen (a:=⟨b,i,none⟩) h.lt hb).trans (h.fz i)⟩
theorem FilesIn.turned {X:Nat→Prop} (h:FilesIn w fb tb om S B P Ft C) (t:Turn X w w') (hn:∀ k,C k≠(0,0)→¬ X k):FilesIn w' fb tb om S B P Ft C :=
  { h with
    h0:=(t.cell (a:=⟨fb,0,none⟩) (lt_of_cell h.h0) (hn fb (by rw [h.cf]; simp))).trans h.h0
    h1:=(t.cell (a:=⟨fb,1,none⟩) (lt_of_cell h.h1) (hn fb (by rw [h.cf]; simp))).trans h.h1
    tr:=h.tr.turned t (fun k hk => hn k (by rw [h.ct k hk]; simp))
    mp:=h.mp.turned t (hn om (by rw [h.cm]; simp))
    en:=fun k e he => (h.en k e he).turned t (hn _ (by rw [h.ce k e he]; simp))
    pp:=fun i q hq => (h.pp i q hq).turned t (hn _ (by rw [h.cp i q hq]; simp))
    low:=fun k hk => Nat.lt_of_lt_of_le (h.low k hk) t.size }
theorem FilesIs.turned {X:Nat→Prop} (h:FilesIs w fb tb S F) (t:Turn X w w') (hn:∀ k,F k→¬ X k):FilesIs w' fb tb S F:=by
  obtain ⟨om,B,P,Ft,C,h1,rfl⟩:=h
  exact ⟨om,B,P,Ft,C,h1.turned t hn,rfl⟩
theorem FilesIs.low (h:FilesIs w fb tb S F) (k:Nat) (hk:F k):k < w.heap.size:=by
  obtain ⟨om,B,P,Ft,C,h1,rfl⟩:=h
  exact h1.low k hk
def TabOk (S:PS) (L:PTab):Prop:=∀ i,i < 8→(L i).1=0∨∃ e,mget S.es ((L i).1 - 1)=some e
def slotL (L:PTab) (n:Int):Option Int:=if 0≤n∧n < 8∧(L n.toNat).1≠0 then some ((L n.toNat).1 - 1) else none
def getE (L:PTab) (n:Int):Int:=(slotL L n).elim 7 fun _ => 0
def getV (B:Int→Nat) (L:PTab) (n:Int):Value:=(slotL L n).elim (.pointer none) fun k => ptrV (B k)
theorem slotL_some (h:slotL L n=some k):0≤n∧n < 8∧(L n.toNat).1≠0∧(L n.toNat).1 - 1=k:=by
  unfold slotL at h
  split at h
  · rename_i h1
    exact ⟨h1.1,h1.2.1,h1.2.2,Option.some.inj h⟩
  · cases h
theorem TabOk.there (h:TabOk S L) (hs:slotL L n=some k):∃ e,mget S.es k=some e:=by
  obtain ⟨h1,h2,h3,h4⟩:=slotL_some hs
  rcases h n.toNat (by omega) with h5 | ⟨e,he⟩
  · exact absurd h5 h3
  · exact ⟨e,by rw [← h4]; exact he⟩
theorem zeroEnt (w:World):(zeroValue 88).run Tryz.prog w=.ok (.pointer none) w:=by kernel_rfl
theorem FilesIn.look (h:FilesIn w fb tb om S B P Ft C) (he:mget S.es k=some e):(Instr.lookup 78 (.map (some om)) (.int .i64 k) false).run Tryz.prog w=.ok (.pointer (some ⟨B k,0,none⟩)) w:=by
  have h1:=h.mp.run_lookup keyI Tryz.underlying78 Tryz.underlying3 (zeroEnt w) k false
  refine h1.trans ?_
  rw [keysE_get,he]
  rfl
theorem FilesIn.looknone (h:FilesIn w fb tb om S B P Ft C) (he:mget S.es k=none):(Instr.lookup 78 (.map (some om)) (.int .i64 k) false).run Tryz.prog w=.ok (.pointer none) w:=by
  have h1:=h.mp.run_lookup keyI Tryz.underlying78 Tryz.underlying3 (zeroEnt w) k false
  refine h1.trans ?_
  rw [keysE_get,he]
  rfl
theorem get_is (h:FilesIn w fb tb om S B P Ft C) (ht:TabIs w tab L) (hok:TabOk S L) (n:Int) :
    Calls Tryz.prog 43 #[.pointer (some ⟨fb,0,none⟩),.pointer (some ⟨tab,0,none⟩),.int .i64 n] w fun e w' => e=.returned (.tuple #[getV B L n,TErr (getE L n)])∧Turn (fun _ => False) w w':=by
  by_cases h1:0≤n∧n < 8
  · obtain ⟨h1,h2⟩:=h1
    have hn8:n.toNat < 8:=by omega
    have c1:=ht.ent n.toNat hn8
    have hp:=ht.pos n.toNat hn8
    by_cases hz:(L n.toNat).1=0
    · have e1:slotL L n=none:=if_neg (fun x => x.2.2 hz)
      have e2:getV B L n=.pointer none:=by unfold getV; rw [e1]; rfl
      have e3:TErr (getE L n)=.iface 35 (.int .i64 7):=by unfold getE; rw [e1]; rfl
      rw [e2,e3]
      rw [hz] at c1
      clear h ht hok e1 e2 e3 hp hn8
      go_enter Tryz.func43,Tryz.ntmps43
      go_wp2_with fail
      go_ret2
      exact ⟨rfl,Turn.refl _ _⟩
    · have e1:slotL L n=some ((L n.toNat).1 - 1):=if_pos ⟨h1,h2,hz⟩
      have e2:getV B L n=ptrV (B ((L n.toNat).1 - 1)):=by unfold getV; rw [e1]; rfl
      have e3:TErr (getE L n)=.nilIface:=by unfold getE; rw [e1]; rfl
      obtain ⟨e,he⟩:=hok.there e1
      have lk:=(h.turned (X:=fun _ => False) (Turn.refl _ w).drew (fun _ _ => id)).look he
      have hh:=h.h1
      rw [e2,e3]
      have hzb:((L n.toNat).1 == 0)=false:=by simpa using hz
      have hw:IntKind.i64.wrap ((L n.toNat).1 - 1)=(L n.toNat).1 - 1:=IntWalk.i64_in _ (by omega)
      clear h ht hok e1 e2 e3 he hn8
      go_enter Tryz.func43,Tryz.ntmps43
      go_wp2_with fail
      go_region
      all_goals go_wp2_with fail
      all_goals go_ret2
      all_goals exact ⟨rfl,(Turn.refl _ _).drew⟩
  · have e1:slotL L n=none:=if_neg (fun x => h1 ⟨x.1,x.2.1⟩)
    have e2:getV B L n=.pointer none:=by unfold getV; rw [e1]; rfl
    have e3:TErr (getE L n)=.iface 35 (.int .i64 7):=by unfold getE; rw [e1]; rfl
    rw [e2,e3]
    clear h ht hok e1 e2 e3
    by_cases hn:n < 0
    · clear h1
      go_enter Tryz.func43,Tryz.ntmps43
      go_wp2_with fail
      go_ret2
      exact ⟨rfl,Turn.refl _ _⟩
    · have h2:8≤n:=by omega
      clear h1
      go_enter Tryz.func43,Tryz.ntmps43
      go_wp2_with fail
      go_ret2
      exact ⟨rfl,Turn.refl _ _⟩
/-! ### Has,Open -/
theorem has_is (h:FilesIn w fb tb om S B P Ft C) (ht:TabIs w tab L) (hok:TabOk S L) (n:Int) :
    Calls Tryz.prog 14 #[.pointer (some ⟨fb,0,none⟩),.pointer (some ⟨tab,0,none⟩),.int .i64 n] w fun e w' => e=.returned (.bool (slotL L n).isSome)∧Turn (fun _ => False) w w':=by
  have HG:=hid (get_is h ht hok n)
  clear h ht hok
  go_enter Tryz.func14,Tryz.ntmps14
  cases hs:slotL L n with
  | none =>
    have e2:getV B L n=.pointer none:=by unfold getV; rw [hs]; rfl
    have e3:TErr (getE L n)=.iface 35 (.int .i64 7):=by unfold getE; rw [hs]; rfl
    rw [e2,e3] at HG
    clear hs e2 e3
    go_wp2_with (go_at_call 43; refine HG.out.mono ?_; rintro e w' ⟨rfl,ht'⟩)
    go_ret
    exact ⟨rfl,ht'⟩
  | some k =>
    have e2:getV B L n=ptrV (B k):=by unfold getV; rw [hs]; rfl
    have e3:TErr (getE L n)=.nilIface:=by unfold getE; rw [hs]; rfl
    rw [e2,e3] at HG
    clear hs e2 e3
    go_wp2_with (go_at_call 43; refine HG.out.mono ?_; rintro e w' ⟨rfl,ht'⟩)
    go_ret
    exact ⟨rfl,ht'⟩
theorem open_is (h:FilesIn w fb tb om S B P Ft C) :
    Calls Tryz.prog 16 #[.pointer (some ⟨fb,0,none⟩)] w fun e w' => e=.returned (.int .i64 (S.es.length:Int))∧w'=w:=by
  have hh:=h.h1
  have hl:=h.mp.run_len Tryz.underlying78 3
  rw [show (keysE B S.es).length=S.es.length from List.length_map ..] at hl
  clear h
  go_enter Tryz.func16,Tryz.ntmps16
  go_wp2_with fail
  go_ret
  exact ⟨rfl,rfl⟩
end
def FilesTo (fb tb tab:Nat) (F:Nat→Prop) (w w':World) (S':PS) (L':PTab):Prop :=
 ∃ F',FilesIs w' fb tb S' F'∧TabIs w' tab L'∧Turn (fun k => F k∨k=tab) w w'∧(∀ k,F' k→F k∨w.heap.size≤k)∧¬ F' tab
section
variable {w w' w1 w2:World} {fb tb om b tab:Nat} {S S':PS} {B:Int→Nat} {P:Nat→Nat} {Ft F:Nat→Prop} {C:Nat→Nat×Int} {e e':PE} {k n:Int} {L L':PTab}
theorem FilesIn.is (h:FilesIn w fb tb om S B P Ft C):FilesIs w fb tb S (CFoot C):=⟨om,B,P,Ft,C,h,rfl⟩
theorem keysE_put (B:Int→Nat) (S:List (Int×PE)) (hn:mget S k=some e):keysE B (mput S k e')=keysE B S:=by
 unfold keysE mput
 rw [hn]
 simp only [Option.isSome_some,if_true]
 unfold mupd
 rw [List.map_map]
 refine List.map_congr_left fun t _ => ?_
 show ((if t.1=k then (t.1,e') else t).1,B (if t.1=k then (t.1,e') else t).1)=(t.1,B t.1)
 by_cases e:t.1=k
 ·rw [if_pos e]
 ·rw [if_neg e]
theorem keysE_del (B:Int→Nat) (T:List (Int×PE)) (n:Int):keysE B (mdel T n)=mdel (keysE B T) n:=by
 unfold keysE mdel
 rw [List.filter_map]
 rfl
def putS (S:PS) (k:Int) (e:PE):PS:={ S with es:=mput S.es k e }
def delS (S:PS) (k:Int):PS:={ S with es:=mdel S.es k }
def treeS (S:PS) (T:PT):PS:={ S with T:=T }
def pipeS (S:PS) (i:Nat) (q:PP):PS:={ S with ps:=S.ps.set i q }
theorem mark_ne {a b:Nat×Int} {i j:Nat} (h1:C i=a) (h2:C j=b) (h:a≠b):i≠j:=fun e => h (by rw [← h1,← h2,e])
theorem FilesIn.put (h:FilesIn w fb tb om S B P Ft C) (he:mget S.es k=some e) (nd:EntAt w' (B k) P e') (t:Turn (fun j => j=B k) w w'):FilesIn w' fb tb om (putS S k e') B P Ft C:=by
 have hC:=h.ce k e he
 have hget:∀ m q,mget (mput S.es k e') m=some q→(m=k∧q=e')∨(m≠k∧mget S.es m=some q):=fun m q hq => by
  rw [mget_mput] at hq
  by_cases e:m=k
  ·rw [if_pos e] at hq; cases hq; exact .inl ⟨e,rfl⟩
  ·rw [if_neg e] at hq; exact .inr ⟨e,hq⟩
 refine ⟨(t.cell (a:=⟨fb,0,none⟩) (lt_of_cell h.h0) (mark_ne h.cf hC (by simp))).trans h.h0,(t.cell (a:=⟨fb,1,none⟩) (lt_of_cell h.h1) (mark_ne h.cf hC (by simp))).trans h.h1,h.tr.turned t (fun j hj => mark_ne (h.ct j hj) hC (by simp)),?_,fun m q hq => ?_,fun i q hq => (h.pp i q hq).turned t (mark_ne (h.cp i q hq) hC (by simp)),h.cf,h.cm,fun m q hq => ?_,h.cp,h.ct,fun j hj => Nat.lt_of_lt_of_le (h.low j hj) t.size⟩
 ·show MapIs w' om (.int .i64) encI ptrV (keysE B (mput S.es k e'))
  rw [keysE_put B S.es he]
  exact h.mp.turned t (mark_ne h.cm hC (by simp))
 ·rcases hget m q hq with ⟨rfl,rfl⟩ | ⟨h1,h2⟩
  ·exact nd
  ·exact (h.en m q h2).turned t (mark_ne (h.ce m q h2) hC (by simp only [ne_eq,Prod.mk.injEq,true_and]; exact h1))
 ·rcases hget m q hq with ⟨rfl,rfl⟩ | ⟨h1,h2⟩
  ·exact hC
  ·exact h.ce m q h2
theorem FilesIn.del (h:FilesIn w fb tb om S B P Ft C) (hm:MapIs w' om (.int .i64) encI ptrV (mdel (keysE B S.es) k)) (t:Turn (fun j => j=om) w w'):FilesIn w' fb tb om (delS S k) B P Ft C:=by
 have hget:∀ m q,mget (mdel S.es k) m=some q→mget S.es m=some q:=fun m q hq => by
  rw [mget_mdel] at hq
  split at hq
  ·cases hq
  ·exact hq
 exact ⟨(t.cell (a:=⟨fb,0,none⟩) (lt_of_cell h.h0) (mark_ne h.cf h.cm (by simp))).trans h.h0,(t.cell (a:=⟨fb,1,none⟩) (lt_of_cell h.h1) (mark_ne h.cf h.cm (by simp))).trans h.h1,h.tr.turned t (fun j hj => mark_ne (h.ct j hj) h.cm (by simp)),by show MapIs w' om _ _ _ (keysE B (mdel S.es k)); rw [keysE_del]; exact hm,fun m q hq => (h.en m q (hget m q hq)).turned t (mark_ne (h.ce m q (hget m q hq)) h.cm (by simp)),fun i q hq => (h.pp i q hq).turned t (mark_ne (h.cp i q hq) h.cm (by simp)),h.cf,h.cm,fun m q hq => h.ce m q (hget m q hq),h.cp,h.ct,fun j hj => Nat.lt_of_lt_of_le (h.low j hj) t.size⟩
theorem FilesIn.pipe (h:FilesIn w fb tb om S B P Ft C) {i:Nat} {q q':PP} (hq:S.ps[i]?=some q) (hp:PipeIs w' (P i) q'.b q'.e0 q'.e1) (t:Turn (fun j => j=P i) w w'):FilesIn w' fb tb om (pipeS S i q') B P Ft C:=by
 have hC:=h.cp i q hq
 have hget:∀ (m:Nat) (r:PP),(S.ps.set i q')[m]?=some r→(m=i∧r=q')∨(m≠i∧S.ps[m]?=some r):=fun m r hr => by
  by_cases e:m=i
  ·subst e
   rw [List.getElem?_set_self (by rcases Nat.lt_or_ge m S.ps.length with h1 | h1; exact h1; rw [List.getElem?_eq_none h1] at hq; cases hq)] at hr
   exact .inl ⟨rfl,(Option.some.inj hr).symm⟩
  ·rw [List.getElem?_set_ne (fun h => e h.symm)] at hr
   exact .inr ⟨e,hr⟩
 refine ⟨(t.cell (a:=⟨fb,0,none⟩) (lt_of_cell h.h0) (mark_ne h.cf hC (by simp))).trans h.h0,(t.cell (a:=⟨fb,1,none⟩) (lt_of_cell h.h1) (mark_ne h.cf hC (by simp))).trans h.h1,h.tr.turned t (fun j hj => mark_ne (h.ct j hj) hC (by simp)),h.mp.turned t (mark_ne h.cm hC (by simp)),fun m r hr => (h.en m r hr).turned t (mark_ne (h.ce m r hr) hC (by simp)),fun m r hr => ?_,h.cf,h.cm,h.ce,fun m r hr => ?_,h.ct,fun j hj => Nat.lt_of_lt_of_le (h.low j hj) t.size⟩
 ·rcases hget m r hr with ⟨rfl,rfl⟩ | ⟨h1,h2⟩
  ·exact hp
  ·exact (h.pp m r h2).turned t (mark_ne (h.cp m r h2) hC (by simp only [ne_eq,Prod.mk.injEq,true_and]; omega))
 ·rcases hget m r hr with ⟨rfl,rfl⟩ | ⟨h1,h2⟩
  ·exact hC
  ·exact h.cp m r h2
theorem FilesIn.tree {T':PT} (h:FilesIn w fb tb om S B P Ft C) (ht:TreeTo tb Ft w w' T') :
  ∃ Ft' C',FilesIn w' fb tb om (treeS S T') B P Ft' C'∧(∀ j,C' j=C j∨w.heap.size≤j)∧Turn (fun j => CFoot C j) w w':=by
 classical
 obtain ⟨Ft',h1,t,h3⟩:=ht
 have hlow:∀ j,Ft j→j < w.heap.size:=fun j hj => h.low j (by rw [h.ct j hj]; simp)
 refine ⟨Ft',fun j => if w.heap.size≤j then (if Ft' j then (5,0) else (0,0)) else C j,?_,fun j => ?_,t.mono (fun j _ hj => by show C j≠_; rw [h.ct j hj]; simp)⟩
 ·have hC:∀ j,C j≠(0,0)→(if w.heap.size≤j then (if Ft' j then ((5,0):Nat×Int) else (0,0)) else C j)=C j:=fun j hj => if_neg (by have:=h.low j hj; omega)
  have hne:∀ j x,C j=x→x≠(0,0)→x≠(5,0)→¬ Ft j:=fun j x h1 h2 h3 h4 => h3 (by rw [← h1,h.ct j h4])
  refine ⟨(t.cell (a:=⟨fb,0,none⟩) (lt_of_cell h.h0) (hne _ _ h.cf (by simp) (by simp))).trans h.h0,(t.cell (a:=⟨fb,1,none⟩) (lt_of_cell h.h1) (hne _ _ h.cf (by simp) (by simp))).trans h.h1,h1,h.mp.turned t (hne _ _ h.cm (by simp) (by simp)),fun m q hq => (h.en m q hq).turned t (hne _ _ (h.ce m q hq) (by simp) (by simp)),fun i q hq => (h.pp i q hq).turned t (hne _ _ (h.cp i q hq) (by simp) (by simp)),?_,?_,fun m q hq => ?_,fun i q hq => ?_,fun j hj => ?_,fun j hj => ?_⟩
  ·rw [hC _ (by rw [h.cf]; simp)]; exact h.cf
  ·rw [hC _ (by rw [h.cm]; simp)]; exact h.cm
  ·show (if _ then _ else _)=_; rw [hC _ (by rw [h.ce m q hq]; simp)]; exact h.ce m q hq
  ·show (if _ then _ else _)=_; rw [hC _ (by rw [h.cp i q hq]; simp)]; exact h.cp i q hq
  ·show (if _ then _ else _)=_
   by_cases e:w.heap.size≤j
   ·rw [if_pos e,if_pos hj]
   ·rw [if_neg e]
    rcases h3 j hj with h4 | h4
    ·exact h.ct j h4
    ·exact absurd h4 e
  ·by_cases e:w.heap.size≤j
   ·by_cases e2:Ft' j
    ·exact h1.foot_lt j e2
    ·exact absurd (by show (if _ then _ else _)=_; rw [if_pos e,if_neg e2]) hj
   ·exact Nat.lt_of_lt_of_le (by omega) t.size
 ·by_cases e:w.heap.size≤j
  ·exact .inr e
  ·exact .inl (if_neg e)
theorem EntAt.setAt (h:EntAt w b P e) (z:Int):EntAt (w.setCell ⟨b,4,none⟩ (.int .i64 z)) b P { e with at':=z } :=
 ⟨(World.cell?_setCell_other _ _ _ _ (fun e => by simp at e)).trans h.c0,(World.cell?_setCell_other _ _ _ _ (fun e => by simp at e)).trans h.c1,(World.cell?_setCell_other _ _ _ _ (fun e => by simp at e)).trans h.c2,(World.cell?_setCell_other _ _ _ _ (fun e => by simp at e)).trans h.c3,World.cell?_setCell_same _ _ _ h.c4,(World.cell?_setCell_other _ _ _ _ (fun e => by simp at e)).trans h.c5,fun i => by rw [World.frozen?_setCell]; exact h.fz i⟩
theorem EntAt.setRefs (h:EntAt w b P e) {z:Int} {c:Nat} (hz:z=c):EntAt (w.setCell ⟨b,5,none⟩ (.int .i64 z)) b P { e with refs:=c } :=
 ⟨(World.cell?_setCell_other _ _ _ _ (fun e => by simp at e)).trans h.c0,(World.cell?_setCell_other _ _ _ _ (fun e => by simp at e)).trans h.c1,(World.cell?_setCell_other _ _ _ _ (fun e => by simp at e)).trans h.c2,(World.cell?_setCell_other _ _ _ _ (fun e => by simp at e)).trans h.c3,(World.cell?_setCell_other _ _ _ _ (fun e => by simp at e)).trans h.c4,by rw [hz]; exact World.cell?_setCell_same _ _ _ h.c5,fun i => by rw [World.frozen?_setCell]; exact h.fz i⟩
theorem TabIs.set (h:TabIs w tab L) {i:Nat} (hi:i < 8) (a:Int) (c:Bool) (ha:0≤a∧a≤40):TabIs ((w.setCell ⟨tab,i * 2,none⟩ (.int .i64 a)).setCell ⟨tab,i * 2+1,none⟩ (.bool c)) tab (tset L i (a,c)):=by
 refine ⟨fun j hj => ?_,fun j hj => ?_,fun j => by rw [World.frozen?_setCell,World.frozen?_setCell]; exact h.fz j,fun j hj => ?_⟩
 ·rw [World.cell?_setCell_other _ _ _ _ (fun e => by simp at e; try omega)]
  by_cases e:j=i
  ·subst e
   rw [World.cell?_setCell_same _ _ _ (h.ent j hj)]
   show _=some (Value.int IntKind.i64 (if j=j then (a,c) else L j).1); rw [if_pos rfl]
  ·rw [World.cell?_setCell_other _ _ _ _ (fun e2 => by simp at e2; try omega)]
   show _=some (Value.int IntKind.i64 (if j=i then (a,c) else L j).1); rw [if_neg e]; exact h.ent j hj
 ·by_cases e:j=i
  ·subst e
   rw [World.cell?_setCell_same _ _ _ ((World.cell?_setCell_other _ _ _ _ (fun e2 => by simp at e2)).trans (h.mark j hj))]
   show _=some (Value.bool (if j=j then (a,c) else L j).2); rw [if_pos rfl]
  ·rw [World.cell?_setCell_other _ _ _ _ (fun e2 => by simp at e2; try omega),World.cell?_setCell_other _ _ _ _ (fun e2 => by simp at e2; try omega)]
   show _=some (Value.bool (if j=i then (a,c) else L j).2); rw [if_neg e]; exact h.mark j hj
 ·show 0≤(if j=i then (a,c) else L j).1∧(if j=i then (a,c) else L j).1≤40
  by_cases e:j=i
  ·rw [if_pos e]; exact ha
  ·rw [if_neg e]; exact h.pos j hj
theorem FilesTo.of {om':Nat} {B':Int→Nat} {P':Nat→Nat} {Ft':Nat→Prop} {C':Nat→Nat×Int} (h:FilesIn w' fb tb om' S' B' P' Ft' C') (ht:TabIs w' tab L') (t:Turn (fun j => CFoot C j∨j=tab) w w') (hC:∀ j,CFoot C' j→CFoot C j∨w.heap.size≤j) (hn:¬ CFoot C' tab):FilesTo fb tb tab (CFoot C) w w' S' L' :=
 ⟨CFoot C',h.is,ht,t,hC,hn⟩
theorem FilesTo.same (h:FilesIn w' fb tb om S' B P Ft C) (ht:TabIs w' tab L') (t:Turn (fun j => CFoot C j∨j=tab) w w') (hn:¬ CFoot C tab):FilesTo fb tb tab (CFoot C) w w' S' L' :=
 .of h ht t (fun _ h => .inl h) hn
def entL (S:PS) (L:PTab) (n:Int):Option (Int×PE):=(slotL L n).bind fun k => (mget S.es k).map fun e => (k,e)
theorem entL_some (h:entL S L n=some (k,e)):slotL L n=some k∧mget S.es k=some e:=by
 unfold entL at h
 cases hs:slotL L n with
 | none => rw [hs] at h; cases h
 | some k' =>
  rw [hs] at h
  have h:(mget S.es k').map (fun e => (k',e))=some (k,e):=h
  cases he:mget S.es k' with
  | none => rw [he] at h; cases h
  | some e' =>
   rw [he] at h
   have h:=Option.some.inj h
   injection h with h1 h2
   subst h1; subst h2
   exact ⟨rfl,he⟩
theorem entL_none (hok:TabOk S L) (h:entL S L n=none):slotL L n=none:=by
 cases hs:slotL L n with
 | none => rfl
 | some k =>
  obtain ⟨e,he⟩:=hok.there hs
  unfold entL at h
  rw [hs] at h
  have h:(mget S.es k).map (fun e => (k,e))=none:=h
  rw [he] at h
  cases h
theorem get_none (h:FilesIn w fb tb om S B P Ft C) (ht:TabIs w tab L) (hok:TabOk S L) (he:entL S L n=none) :
  Calls Tryz.prog 43 #[.pointer (some ⟨fb,0,none⟩),.pointer (some ⟨tab,0,none⟩),.int .i64 n] w fun e w' => e=.returned (.tuple #[.pointer none,.iface 35 (.int .i64 7)])∧Turn (fun _ => False) w w':=by
 have hg:=get_is h ht hok n
 have e1:=entL_none hok he
 have e2:getV B L n=.pointer none:=by unfold getV; rw [e1]; rfl
 have e3:TErr (getE L n)=.iface 35 (.int .i64 7):=by unfold getE; rw [e1]; rfl
 rw [e2,e3] at hg
 exact hg
theorem get_some (h:FilesIn w fb tb om S B P Ft C) (ht:TabIs w tab L) (hok:TabOk S L) (he:entL S L n=some (k,e)) :
  Calls Tryz.prog 43 #[.pointer (some ⟨fb,0,none⟩),.pointer (some ⟨tab,0,none⟩),.int .i64 n] w fun e w' => e=.returned (.tuple #[.pointer (some ⟨B k,0,none⟩),.nilIface])∧Turn (fun _ => False) w w':=by
 have hg:=get_is h ht hok n
 have e1:=(entL_some he).1
 have e2:getV B L n=.pointer (some ⟨B k,0,none⟩):=by unfold getV; rw [e1]; rfl
 have e3:TErr (getE L n)=.nilIface:=by unfold getE; rw [e1]; rfl
 rw [e2,e3] at hg
 exact hg
end
def seekE (S:PS) (L:PTab) (n at':Int):Int:=(entL S L n).elim 7 fun x => if x.2.kind≠1 then 6 else if at' < 0∨200 < at' then 2 else 0
def seekS (S:PS) (L:PTab) (n at':Int):PS:=if seekE S L n at'=0 then (entL S L n).elim S fun x => putS S x.1 { x.2 with at':=at' } else S
def dupE (S:PS) (L:PTab) (n:Int):Int:=(entL S L n).elim 7 fun x => if leastL L < 0 then 12 else 0
def dupK (S:PS) (L:PTab) (n:Int):Int:=if dupE S L n=0 then leastL L else 0
def dupS (S:PS) (L:PTab) (n:Int):PS:=if dupE S L n=0 then (entL S L n).elim S fun x => putS S x.1 { x.2 with refs:=x.2.refs+1 } else S
def dupL (S:PS) (L:PTab) (n:Int):PTab:=if dupE S L n=0 then tset L (leastL L).toNat ((L n.toNat).1,false) else L
section
variable {w w' w1 w2:World} {fb tb om b tab:Nat} {S S':PS} {B:Int→Nat} {P:Nat→Nat} {Ft F:Nat→Prop} {C:Nat→Nat×Int} {e e':PE} {k n:Int} {L L':PTab}
theorem turn_ent (C:Nat→Nat×Int) (tab:Nat) {b:Nat} (h:CFoot C b) (w:World) (i:Nat) (v:Value):Turn (fun j => CFoot C j∨j=tab) w (w.setCell ⟨b,i,none⟩ v):=(Turn.refl _ _).setCell _ _ (fun _ => .inl h)
theorem turn_own (b:Nat) (w:World) (i:Nat) (v:Value):Turn (fun j => j=b) w (w.setCell ⟨b,i,none⟩ v):=(Turn.refl _ _).setCell _ _ (fun _ => rfl)
theorem no_turn {X:Nat→Prop} (t:Turn (fun _ => False) w w'):Turn X w w':=t.mono (fun _ _ h => h.elim)
theorem FilesIn.foot (h:FilesIn w fb tb om S B P Ft C) (he:mget S.es k=some e):CFoot C (B k):=by show C _≠_; rw [h.ce k e he]; simp
theorem seek_is (h:FilesIs w fb tb S F) (ht:TabIs w tab L) (hok:TabOk S L) (hn:¬ F tab) (n at':Int) :
  Calls Tryz.prog 38 #[.pointer (some ⟨fb,0,none⟩),.pointer (some ⟨tab,0,none⟩),.int .i64 n,.int .i64 at'] w fun e w' => e=.returned (TErr (seekE S L n at'))∧FilesTo fb tb tab F w w' (seekS S L n at') L:=by
 obtain ⟨om,B,P,Ft,C,hin,rfl⟩:=h
 cases hx:entL S L n with
 | none =>
  have e1:seekE S L n at'=7:=by unfold seekE; rw [hx]; rfl
  have e2:seekS S L n at'=S:=if_neg (by rw [e1]; decide)
  rw [e1,e2]
  have HG:=hid (get_none hin ht hok hx)
  have HK:Hid (∀ w',Turn (fun _ => False) w w'→FilesTo fb tb tab (CFoot C) w w' S L):=hid (fun w' t => .same (hin.turned t (fun _ _ => id)) (ht.turned t id) (no_turn t) hn)
  clear hin ht hok hn hx e1 e2
  go_enter Tryz.func38,Tryz.ntmps38
  go_wp2_with (go_at_call 43; refine HG.out.mono ?_; rintro e w' ⟨rfl,t⟩)
  go_ret
  exact ⟨rfl,HK.out _ t⟩
 | some x =>
  obtain ⟨k,e⟩:=x
  have he:=(entL_some hx).2
  have HG:=hid (get_some hin ht hok hx)
  have HI:=hid hin
  have HT:=hid ht
  have HN:=hid hn
  have HE:=hid he
  by_cases hk:e.kind=1
  ·by_cases hr:at' < 0∨200 < at'
   ·have e1:seekE S L n at'=2:=by unfold seekE; rw [hx]; show (if e.kind≠1 then 6 else _)=_; rw [if_neg (by simpa using hk),if_pos hr]
    have e2:seekS S L n at'=S:=if_neg (by rw [e1]; decide)
    rw [e1,e2]
    clear hin ht hok hn hx e1 e2 he
    have HK:=hid hk
    have HR:=hid hr
    clear hk hr
    go_enter Tryz.func38,Tryz.ntmps38
    go_wp2_with (go_at_call 43; refine HG.out.mono ?_; rintro e w' ⟨rfl,t⟩; have c0:=((HI.out.turned t (fun _ _ => id)).en _ _ HE.out).c0; rw [HK.out] at c0; have HTt:=hid t; clear t; rcases HR.out with hr | hr)
    all_goals go_wp2_with fail
    all_goals go_ret
    all_goals exact ⟨rfl,.same (HI.out.turned HTt.out (fun _ _ => id)) (HT.out.turned HTt.out id) (no_turn HTt.out) HN.out⟩
   ·have e1:seekE S L n at'=0:=by unfold seekE; rw [hx]; show (if e.kind≠1 then 6 else _)=_; rw [if_neg (by simpa using hk),if_neg hr]
    have e2:seekS S L n at'=putS S k { e with at':=at' }:=by unfold seekS; rw [e1,if_pos rfl,hx]; rfl
    rw [e1,e2]
    clear hin ht hok hn hx e1 e2 he
    have HK:=hid hk
    obtain ⟨hr1,hr2⟩:0≤at'∧at'≤200:=by omega
    clear hk hr
    go_enter Tryz.func38,Tryz.ntmps38
    go_wp2_with (go_at_call 43; refine HG.out.mono ?_; rintro e w' ⟨rfl,t⟩; have nd:=(HI.out.turned t (fun _ _ => id)).en _ _ HE.out; have c0:=nd.c0; have c4:=nd.c4; have z4:=nd.fz 4; rw [HK.out] at c0; have HTt:=hid t; clear t nd)
    all_goals go_ret
    have hi:=HI.out.turned HTt.out (fun _ _ => id)
    exact ⟨rfl,.same (hi.put HE.out ((hi.en _ _ HE.out).setAt at') (turn_own _ _ _ _)) ((HT.out.turned HTt.out id).turned (turn_own (B k) _ _ _) (fun e => HN.out (e ▸ hi.foot HE.out))) ((no_turn HTt.out).trans (turn_ent C tab (hi.foot HE.out) _ _ _)) HN.out⟩
  ·have e1:seekE S L n at'=6:=by unfold seekE; rw [hx]; show (if e.kind≠1 then 6 else _)=_; rw [if_pos (by simpa using hk)]
   have e2:seekS S L n at'=S:=if_neg (by rw [e1]; decide)
   rw [e1,e2]
   clear hin ht hok hn hx e1 e2 he
   have HK:Hid ((e.kind != 1)=true):=hid (by simpa using hk)
   clear hk
   go_enter Tryz.func38,Tryz.ntmps38
   go_wp2_with (go_at_call 43; refine HG.out.mono ?_; rintro e w' ⟨rfl,t⟩; have c0:=((HI.out.turned t (fun _ _ => id)).en _ _ HE.out).c0; have hk:=HK.out; have HTt:=hid t; clear t)
   all_goals go_ret
   all_goals exact ⟨rfl,.same (HI.out.turned HTt.out (fun _ _ => id)) (HT.out.turned HTt.out id) (no_turn HTt.out) HN.out⟩
theorem turn_tab (C:Nat→Nat×Int) (tab:Nat) (w:World) (i j:Nat) (v u:Value):Turn (fun j => CFoot C j∨j=tab) w ((w.setCell ⟨tab,i,none⟩ v).setCell ⟨tab,j,none⟩ u):=((Turn.refl _ _).setCell _ _ (fun _ => .inr rfl)).setCell _ _ (fun _ => .inr rfl)
theorem turn_tab_own (tab:Nat) (w:World) (i j:Nat) (v u:Value):Turn (fun j => j=tab) w ((w.setCell ⟨tab,i,none⟩ v).setCell ⟨tab,j,none⟩ u):=Turn.setCell (S:=fun j => j=tab) (Turn.setCell (S:=fun j => j=tab) (Turn.refl _ w) _ _ (fun _ => rfl)) _ _ (fun _ => rfl)
theorem FilesIn.beside (h:FilesIn w fb tb om S B P Ft C) (hn:¬ CFoot C tab) (t:Turn (fun j => j=tab) w w'):FilesIn w' fb tb om S B P Ft C:=h.turned t (fun j hj e => hn (e ▸ hj))
theorem dup_is (h:FilesIs w fb tb S F) (hS:DOk S) (ht:TabIs w tab L) (hok:TabOk S L) (hn:¬ F tab) (n:Int) (hb:∀ k e,mget S.es k=some e→e.refs < 1000000) :
  Calls Tryz.prog 26 #[.pointer (some ⟨fb,0,none⟩),.pointer (some ⟨tab,0,none⟩),.int .i64 n] w fun e w' => e=.returned (.tuple #[.int .i64 (dupK S L n),TErr (dupE S L n)])∧FilesTo fb tb tab F w w' (dupS S L n) (dupL S L n):=by
 obtain ⟨om,B,P,Ft,C,hin,rfl⟩:=h
 cases hx:entL S L n with
 | none =>
  have e1:dupE S L n=7:=by unfold dupE; rw [hx]; rfl
  have e2:dupS S L n=S:=if_neg (by rw [e1]; decide)
  have e3:dupK S L n=0:=if_neg (by rw [e1]; decide)
  have e4:dupL S L n=L:=if_neg (by rw [e1]; decide)
  rw [e1,e2,e3,e4]
  have HG:=hid (get_none hin ht hok hx)
  have HK:Hid (∀ w',Turn (fun _ => False) w w'→FilesTo fb tb tab (CFoot C) w w' S L):=hid (fun w' t => .same (hin.turned t (fun _ _ => id)) (ht.turned t id) (no_turn t) hn)
  clear hin ht hok hn hx e1 e2 e3 e4
  go_enter Tryz.func26,Tryz.ntmps26
  go_wp2_with (go_at_call 43; refine HG.out.mono ?_; rintro e w' ⟨rfl,t⟩)
  go_ret2
  exact ⟨rfl,HK.out _ t⟩
 | some x =>
  obtain ⟨k,e⟩:=x
  have hs:=(entL_some hx).1
  have he:=(entL_some hx).2
  have HG:=hid (get_some hin ht hok hx)
  have HI:=hid hin
  have HT:=hid ht
  have HN:=hid hn
  have HE:=hid he
  obtain ⟨hn0,hn8,hnz,hnk⟩:=slotL_some hs
  rcases leastL_spec L with hl | ⟨j,hl,hj8,hjz⟩
  ·have e1:dupE S L n=12:=by unfold dupE; rw [hx]; show (if leastL L < 0 then 12 else 0)=_; rw [if_pos (by omega)]
   have e2:dupS S L n=S:=if_neg (by rw [e1]; decide)
   have e3:dupK S L n=0:=if_neg (by rw [e1]; decide)
   have e4:dupL S L n=L:=if_neg (by rw [e1]; decide)
   rw [e1,e2,e3,e4]
   have HL:=hid hl
   clear hin ht hok hn hx e1 e2 e3 e4 he hs hl hnz hnk hS hb
   go_enter Tryz.func26,Tryz.ntmps26
   go_wp2_with (first | (go_at_call 43; refine HG.out.mono ?_; rintro e w' ⟨rfl,t⟩; have HTt:=hid t; clear t) | (go_at_call 50; refine (least_is (HT.out.turned HTt.out id)).mono ?_; rintro e w2 ⟨rfl,t⟩; rw [HL.out]; have HT2:=hid t; clear t))
   go_ret2
   have t2:=HTt.out.trans HT2.out
   exact ⟨rfl,.same (HI.out.turned t2 (fun _ _ => id)) (HT.out.turned t2 id) (no_turn t2) HN.out⟩
  ·have e1:dupE S L n=0:=by unfold dupE; rw [hx]; show (if leastL L < 0 then 12 else 0)=_; rw [if_neg (by omega)]
   have e2:dupS S L n=putS S k { e with refs:=e.refs+1 }:=by unfold dupS; rw [e1,if_pos rfl,hx]; rfl
   have e3:dupK S L n=j:=by unfold dupK; rw [e1,if_pos rfl,hl]
   have e4:dupL S L n=tset L j ((L n.toNat).1,false):=by unfold dupL; rw [e1,if_pos rfl,hl]; rfl
   rw [e1,e2,e3,e4]
   have HL:=hid hl
   have hrf:=hb k e he
   have hrw:IntKind.i64.wrap ((e.refs:Int)+1)=(e.refs:Int)+1:=IntWalk.i64_in _ (by omega)
   have HP:=hid (ht.pos n.toNat (by omega))
   clear hin ht hok hn hx e1 e2 e3 e4 he hs hl hnz hnk hS hb
   go_enter Tryz.func26,Tryz.ntmps26
   go_wp2_with (first | (go_at_call 43; refine HG.out.mono ?_; rintro e w' ⟨rfl,t⟩; have HTt:=hid t; clear t) | (go_at_call 50; refine (least_is (HT.out.turned HTt.out id)).mono ?_; rintro e w2 ⟨rfl,t⟩; rw [HL.out]; have HT2:=hid (HTt.out.trans t); clear t; have nd:=(HI.out.turned HT2.out (fun _ _ => id)).en _ _ HE.out; have c5:=nd.c5; have z5:=nd.fz 5; clear nd))
   have HT3:=hid ((HT.out.turned HT2.out id).turned (turn_own (B k) w2 5 (.int .i64 ((e.refs:Int)+1))) (fun x => HN.out (by rw [x]; exact HI.out.foot HE.out)))
   have c1:=HT3.out.ent n.toNat (by omega)
   have c2:=HT3.out.ent j hj8
   have c3:=HT3.out.mark j hj8
   have z2:=HT3.out.fz (j * 2)
   have z3:=HT3.out.fz (j * 2+1)
   go_region
   all_goals go_wp2_with fail
   all_goals go_ret2
   all_goals (
    have hi:=HI.out.turned HT2.out (fun _ _ => id)
    have hi2:=hi.put HE.out ((hi.en _ _ HE.out).setRefs (z:=(e.refs:Int)+1) (c:=e.refs+1) (by omega)) (turn_own (B k) _ 5 (.int .i64 ((e.refs:Int)+1)))
    exact ⟨rfl,.same ((hi2.beside HN.out (turn_tab_own tab _ (j * 2) (j * 2+1) _ _)).turned (X:=fun _ => False) (Turn.refl _ _).drew (fun _ _ => id)) ((HT3.out.set hj8 _ false HP.out).turned (S:=fun _ => False) (Turn.refl _ _).drew id) ((((no_turn HT2.out).trans (turn_ent C tab (hi.foot HE.out) _ _ _)).trans (turn_tab C tab _ _ _ _ _)).drew) HN.out⟩)
end
def leastK (T:List (Int×PE)):Nat→Nat→Nat
 | 0,k => k
 | f+1,k => if (mget T (k:Int)).isSome then leastK T f (k+1) else k
def freeE (T:List (Int×PE)):Nat:=leastK T 40 0
theorem leastK_spec (T:List (Int×PE)):∀ (f k:Nat),k≤leastK T f k∧leastK T f k≤k+f∧(∀ i:Nat,k≤i→i < leastK T f k→(mget T (i:Int)).isSome=true)∧(leastK T f k < k+f→mget T ((leastK T f k:Nat):Int)=none)
 | 0,k => ⟨Nat.le_refl _,Nat.le_refl _,fun i h1 h2 => by unfold leastK at h2; omega,fun h => by unfold leastK at h; omega⟩
 | f+1,k => by
  unfold leastK
  cases hk:mget T (k:Int) with
  | none =>
   simp only [Option.isSome_none,Bool.false_eq_true,if_false]
   exact ⟨Nat.le_refl _,by omega,fun i h1 h2 => by omega,fun _ => hk⟩
  | some p =>
   simp only [Option.isSome_some,if_true]
   obtain ⟨a,b,c,d⟩:=leastK_spec T f (k+1)
   refine ⟨by omega,by omega,fun i h1 h2 => ?_,fun h => d (by omega)⟩
   by_cases e:i=k
   ·rw [e,hk]; rfl
   ·exact c i (by omega) h2
theorem keys_fillE:∀ (k:Nat) (T:List (Int×PE)),MNodup T→(∀ i:Int,0≤i→i < k→(mget T i).isSome=true)→k≤T.length
 | 0,T,_,_ => Nat.zero_le _
 | k+1,T,hn,h => by
  obtain ⟨v,hv⟩:=Option.isSome_iff_exists.1 (h (k:Int) (by omega) (by omega))
  have h1:=mdel_length hn hv
  have h2:=keys_fillE k (mdel T (k:Int)) (mdel_nodup hn _) (fun i h1 h2 => by
   rw [mget_mdel,if_neg (by omega)]
   exact h i h1 (by omega))
  omega
theorem freeE_spec {T:List (Int×PE)} (h:MNodup T) (hl:T.length < 40):freeE T < 40∧mget T (freeE T:Int)=none∧∀ i:Nat,i < freeE T→(mget T (i:Int)).isSome=true:=by
 obtain ⟨a,b,c,d⟩:=leastK_spec T 40 0
 have hlt:freeE T < 40:=by
  rcases Nat.lt_or_ge (freeE T) 40 with h1 | h1
  ·exact h1
  ·have h2:=keys_fillE 40 T h (fun i h3 h4 => by
    have h5:=c i.toNat (by omega) (by unfold freeE at h1; omega)
    rwa [show ((i.toNat:Nat):Int)=i by omega] at h5)
   omega
 exact ⟨hlt,d (by unfold freeE at hlt; omega),fun i hi => c i (by omega) hi⟩
def updC (C:Nat→Nat×Int) (c:Nat) (x:Nat×Int):Nat→Nat×Int:=fun j => if j=c then x else C j
section
variable {w w' w1 w2:World} {fb tb om b c tab:Nat} {S S':PS} {B:Int→Nat} {P:Nat→Nat} {Ft F:Nat→Prop} {C:Nat→Nat×Int} {e e':PE} {k n:Int} {L L':PTab}
theorem keysE_new (hk:mget S.es k=none):keysE (updI B k c) (mput S.es k e)=mput (keysE B S.es) k c:=by
 have h1:mput S.es k e=S.es ++ [(k,e)]:=by unfold mput; rw [if_neg (by rw [hk]; simp)]
 have h2:mput (keysE B S.es) k c=keysE B S.es ++ [(k,c)]:=by unfold mput; rw [if_neg (by rw [keysE_get,hk]; simp)]
 rw [h1,h2]
 unfold keysE
 rw [List.map_append]
 congr 1
 ·refine List.map_congr_left fun t ht => ?_
  have:t.1≠k:=mget_none_iff.1 hk t ht
  show (t.1,updI B k c t.1)=(t.1,B t.1)
  unfold updI
  rw [if_neg this]
 ·show [(k,updI B k c k)]=[(k,c)]
  unfold updI
  rw [if_pos rfl]
theorem updC_old (h:CFoot C b) (hc:¬ CFoot C c) (x:Nat×Int):updC C c x b=C b:=if_neg (fun e => by rw [e] at h; exact hc h)
theorem FilesIn.add (h:FilesIn w fb tb om S B P Ft C) (hk:mget S.es k=none) (nd:EntAt w' c P e) (hm:MapIs w' om (.int .i64) encI ptrV (mput (keysE B S.es) k c)) (t:Turn (fun j => j=om∨j=c) w w') (hc:¬ CFoot C c) :
  FilesIn w' fb tb om (putS S k e) (updI B k c) P Ft (updC C c (3,k)):=by
 have hget:∀ m q,mget (mput S.es k e) m=some q→(m=k∧q=e)∨(m≠k∧mget S.es m=some q):=fun m q hq => by
  rw [mget_mput] at hq
  by_cases e:m=k
  ·rw [if_pos e] at hq; cases hq; exact .inl ⟨e,rfl⟩
  ·rw [if_neg e] at hq; exact .inr ⟨e,hq⟩
 have hno:∀ b x,C b=x→x≠(0,0)→x≠(2,0)→¬ (b=om∨b=c):=fun b x h1 h2 h3 h4 => by
  rcases h4 with rfl | rfl
  ·exact h3 (by rw [← h1,h.cm])
  ·exact hc (by show C _≠_; rw [h1]; exact h2)
 have hf:∀ b x,C b=x→x≠(0,0)→updC C c (3,k) b=x:=fun b x h1 h2 => by rw [updC_old (by show C _≠_; rw [h1]; exact h2) hc]; exact h1
 refine ⟨(t.cell (a:=⟨fb,0,none⟩) (lt_of_cell h.h0) (hno _ _ h.cf (by simp) (by simp))).trans h.h0,(t.cell (a:=⟨fb,1,none⟩) (lt_of_cell h.h1) (hno _ _ h.cf (by simp) (by simp))).trans h.h1,h.tr.turned t (fun j hj => hno _ _ (h.ct j hj) (by simp) (by simp)),?_,fun m q hq => ?_,fun i q hq => (h.pp i q hq).turned t (hno _ _ (h.cp i q hq) (by simp) (by simp)),hf _ _ h.cf (by simp),hf _ _ h.cm (by simp),fun m q hq => ?_,fun i q hq => hf _ _ (h.cp i q hq) (by simp),fun j hj => hf _ _ (h.ct j hj) (by simp),fun j hj => ?_⟩
 ·show MapIs w' om (.int .i64) encI ptrV (keysE (updI B k c) (mput S.es k e))
  rw [keysE_new hk]; exact hm
 ·rcases hget m q hq with ⟨rfl,rfl⟩ | ⟨h1,h2⟩
  ·show EntAt w' (if m=m then c else B m) P q
   rw [if_pos rfl]; exact nd
  ·show EntAt w' (if m=k then c else B m) P q
   rw [if_neg h1]
   exact (h.en m q h2).turned t (hno _ _ (h.ce m q h2) (by simp) (by simp))
 ·rcases hget m q hq with ⟨rfl,rfl⟩ | ⟨h1,h2⟩
  ·show updC C c (3,m) (if m=m then c else B m)=_
   rw [if_pos rfl]; exact if_pos rfl
  ·show updC C c (3,k) (if m=k then c else B m)=_
   rw [if_neg h1]
   exact hf _ _ (h.ce m q h2) (by simp)
 ·by_cases e1:j=c
  ·rw [e1]; exact nd.lt
  ·exact Nat.lt_of_lt_of_le (h.low j (by have hj:updC C c (3,k) j≠_:=hj; unfold updC at hj; rw [if_neg e1] at hj; exact hj)) t.size
theorem add_is (h:FilesIn w fb tb om S B P Ft C) (hnd:MNodup S.es) (ht:TabIs w tab L) (hn:¬ CFoot C tab) (nd:EntAt w c P e) (hc:¬ CFoot C c) (hct:c≠tab) {j:Nat} (hl:leastL L=j) (hj:j < 8) (hlen:S.es.length < 40) :
  Calls Tryz.prog 55 #[.pointer (some ⟨fb,0,none⟩),.pointer (some ⟨tab,0,none⟩),.pointer (some ⟨c,0,none⟩)] w fun e' w' => e'=.returned (.tuple #[.int .i64 j,.nilIface])∧FilesIn w' fb tb om (putS S (freeE S.es) { e with refs:=1 }) (updI B (freeE S.es) c) P Ft (updC C c (3,(freeE S.es:Int)))∧TabIs w' tab (tset L j ((freeE S.es:Int)+1,false))∧Turn (fun k => CFoot C k∨k=tab∨k=c) w w':=by
 obtain ⟨hK,hfn,hfa⟩:=freeE_spec hnd hlen
 obtain ⟨K,hKe⟩:∃ K,freeE S.es=K:=⟨_,rfl⟩
 rw [hKe] at hK hfn hfa ⊢
 have HI:=hid h
 have HT:=hid ht
 have HN:=hid hn
 have ND:=hid nd
 have HC:=hid hc
 have HCt:=hid hct
 have HL:=hid hl
 have HFn:=hid hfn
 have HLk:Hid (∀ w',Turn (fun _ => False) w w'→∀ k:Nat,k < K→∃ b,(Instr.lookup 78 (.map (some om)) (.int .i64 k) false).run Tryz.prog w'=.ok (.pointer (some ⟨b,0,none⟩)) w'):=hid (fun w' t k hk => by
  obtain ⟨q,hq⟩:=Option.isSome_iff_exists.1 (hfa k hk)
  exact ⟨_,(h.turned t (fun _ _ => id)).look hq⟩)
 have HLen:=hid hlen
 have HLe:=hid (least_is ht)
 clear h hnd ht hn nd hc hct hl hlen hfn hfa hKe
 go_enter Tryz.func55,Tryz.ntmps55
 go_wp2_with (go_at_call 50; refine HLe.out.mono ?_; rintro e w1 ⟨rfl,t1⟩; rw [HL.out]; have HT1:=hid t1; clear t1; have hh:=(HI.out.turned HT1.out (fun _ _ => id)).h1; have hln:=(HI.out.turned HT1.out (fun _ _ => id)).mp.run_len Tryz.underlying78 3; rw [show (keysE B S.es).length=S.es.length from List.length_map ..] at hln; have hln2:¬ (40:Int)≤S.es.length:=by have:=HLen.out; omega)
 go_loopg [9] K (fun gl i wr => ∃ k:Nat,k+gl=K∧i=.int .i64 k∧wr=w1)
 case atStart => exact ⟨0,by omega,rfl,rfl⟩
 case round =>
  obtain ⟨k,hk,rfl,hwr⟩:=hrel
  subst wr
  by_cases hkl:k < K
  ·obtain ⟨b',lk⟩:=HLk.out _ HT1.out k hkl
   clear hln hln2
   go_wp2_with fail
   go_roundg (gk - 1)
   case measure => omega
   case rel => exact ⟨k+1,by omega,by go_num,rfl⟩
  ·obtain rfl:k=K:=by omega
   have lkK:=(HI.out.turned HT1.out (fun _ _ => id)).looknone HFn.out
   have hi1:=HI.out.turned HT1.out (fun _ _ => id)
   have nd1:=ND.out.turned HT1.out id
   have c5:=nd1.c5
   have z5:=nd1.fz 5
   have hcm:CFoot C om:=by show C om≠_; rw [HI.out.cm]; simp
   have hcn:c≠om:=fun e => HC.out (by rw [e]; exact hcm)
   have hto:tab≠om:=fun e => HN.out (by rw [e]; exact hcm)
   have t12:Turn (fun j => j=c) w1 (w1.setCell ⟨c,5,none⟩ (.int .i64 1)):=turn_own c w1 5 _
   have nd2:=nd1.setRefs (z:=1) (c:=1) rfl
   obtain ⟨w3,hrun3,hm3,t3⟩:=(hi1.mp.turned t12 (fun e => hcn e.symm)).run_update (P:=Tryz.prog) keyI Tryz.underlying78 Tryz.underlying3 (k:Int) c
   replace hrun3:(Instr.mapUpdate 78 (.map (some om)) (.int .i64 k) (.pointer (some ⟨c,0,none⟩))).run Tryz.prog (w1.setCell ⟨c,5,none⟩ (.int .i64 1))=.ok () w3:=hrun3
   have hi3:=hi1.add HFn.out (nd2.turned t3 hcn) hm3 ((t12.mono (fun _ _ h => .inr h)).trans (t3.mono (fun _ _ h => .inl h))) HC.out
   have hh2:=(t12.cell (a:=⟨fb,1,none⟩) (lt_of_cell hh) (fun e => HC.out (by have e:fb=c:=e; rw [← e]; show C fb≠_; rw [HI.out.cf]; simp))).trans hh
   have ht3:=((HT.out.turned HT1.out id).turned t12 (fun e => HCt.out e.symm)).turned t3 hto
   have a1:=ht3.ent j hj
   have a2:=ht3.mark j hj
   have a3:=ht3.fz (j * 2)
   have a4:=ht3.fz (j * 2+1)
   have HI3:=hid hi3
   have HT3:=hid ht3
   have HTu:=hid (((no_turn (X:=fun i => CFoot C i∨i=tab∨i=c) HT1.out).trans (t12.mono (fun _ _ h => .inr (.inr h)))).trans (t3.mono (fun _ _ h => .inl (by rw [h]; exact hcm))))
   have hw:IntKind.i64.wrap ((k:Int)+1)=(k:Int)+1:=IntWalk.i64_in _ (by omega)
   have HCm:=hid hcm
   clear hi1 nd1 hcm hcn hto t12 nd2 hm3 t3 hi3 ht3 hkl hk HLk hln hln2
   go_wp2_with fail
   go_ret2
   have hnt:¬ CFoot (updC C c (3,(k:Int))) tab:=fun h => HN.out (by have h:updC C c (3,(k:Int)) tab≠_:=h; unfold updC at h; rw [if_neg (fun e => HCt.out e.symm)] at h; exact h)
   exact ⟨rfl,HI3.out.beside hnt (turn_tab_own tab _ (j * 2) (j * 2+1) _ _),HT3.out.set hj _ false (by omega),HTu.out.trans (((Turn.refl (fun i => CFoot C i∨i=tab∨i=c) _).setCell ⟨tab,j * 2,none⟩ _ (fun _ => .inr (.inl rfl))).setCell ⟨tab,j * 2+1,none⟩ _ (fun _ => .inr (.inl rfl)))⟩
end
theorem tell_tree (z:Int) (w:World) (hL:Laid w):Calls Tryz.prog 52 #[TErr z] w fun e w' => e=.returned (.int .i64 z)∧Turn (fun _ => False) w w':=by
 by_cases h:z=0
 ·subst h
  exact (tell_nil w).mono fun e w' ⟨he,hw⟩ => ⟨he,hw ▸ Turn.refl _ _⟩
 ·rw [TErr_of h]
  exact tell_errno z w hL
theorem mget_makeT {T:PT} {path:ByteArray} {b:Bool} {n:Int} {p:PN} (h:mget (makeT T path b) n=some p) :
  (∃ q,mget T n=some q∧p.held=q.held∧p.isDir=q.isDir∧p.names=q.names∧p.data=q.data)∨(p.held=0∧p.isDir=b∧p.names=1∧n=freeT T):=by
 unfold makeT at h
 split at h
 ·obtain ⟨K,hK⟩:∃ K:Int,(freeT T:Int)=K:=⟨_,rfl⟩
  rw [hK] at h ⊢
  have one:∀ m q,mget (mput T K (newN b)) m=some q→(∃ q',mget T m=some q'∧q.held=q'.held∧q.isDir=q'.isDir∧q.names=q'.names∧q.data=q'.data)∨(q.held=0∧q.isDir=b∧q.names=1∧m=K):=fun m q hq => by
   rw [mget_mput] at hq
   by_cases e:m=K
   ·rw [if_pos e] at hq
    cases hq
    exact .inr ⟨rfl,rfl,rfl,e⟩
   ·rw [if_neg e] at hq
    exact .inl ⟨q,hq,rfl,rfl,rfl,rfl⟩
  unfold nameT at h
  cases hd:mget (mput T K (newN b)) (placeT T path).2.1 with
  | none => rw [hd] at h; exact one n p h
  | some q =>
   rw [hd] at h
   have h:mget (mput (mput T K (newN b)) (placeT T path).2.1 _) n=some p:=h
   rw [mget_mput] at h
   by_cases e:n=(placeT T path).2.1
   ·rw [if_pos e] at h
    cases h
    have:=one _ q hd
    rw [← e] at this
    exact this
   ·rw [if_neg e] at h
    exact one n p h
 ·exact .inl ⟨p,h,rfl,rfl,rfl,rfl⟩
def fileN (T:PT) (path:ByteArray) (makes:Bool):Int×Int×PT :=
 if (findT T path).1=7∧makes=true then (makeE T path,makeK T path,makeT T path false) else ((findT T path).1,(findT T path).2,T)
def fileZ (x:Int×Int×PT):Int:=if x.1=0 then fileE x.2.2 x.2.1 else x.1
def fileH (x:Int×Int×PT):PT:=if x.1=0 then holdT x.2.2 x.2.1 else x.2.2
def openE (S:PS) (L:PTab) (path:ByteArray) (prot:Int) (makes:Bool):Int :=
 if prot < 1∨3 < prot then 1 else if leastL L < 0∨40≤S.es.length then 12 else fileZ (fileN S.T path makes)
def openS (S:PS) (L:PTab) (path:ByteArray) (prot:Int) (makes:Bool):PS :=
 if prot < 1∨3 < prot then S else if leastL L < 0∨40≤S.es.length then S
 else if fileZ (fileN S.T path makes)=0 then putS (treeS S (fileH (fileN S.T path makes))) (freeE S.es) ⟨1,prot,(fileN S.T path makes).2.1,0,0,1⟩ else treeS S (fileH (fileN S.T path makes))
def openK (S:PS) (L:PTab) (path:ByteArray) (prot:Int) (makes:Bool):Int:=if openE S L path prot makes=0 then leastL L else 0
def openL (S:PS) (L:PTab) (path:ByteArray) (prot:Int) (makes:Bool):PTab:=if openE S L path prot makes=0 then tset L (leastL L).toNat ((freeE S.es:Int)+1,false) else L
def FilesMid (fb tb om:Nat) (S:PS) (B:Int→Nat) (P:Nat→Nat) (C:Nat→Nat×Int) (w wx:World) (T1:PT):Prop :=
 ∃ Ft1 C1,FilesIn wx fb tb om (treeS S T1) B P Ft1 C1∧(∀ j,C1 j=C j∨w.heap.size≤j)∧Turn (fun j => CFoot C j) w wx
section
variable {w w' wx w1 w2:World} {fb tb om b c tab:Nat} {S S':PS} {B:Int→Nat} {P:Nat→Nat} {Ft F:Nat→Prop} {C:Nat→Nat×Int} {e e':PE} {k n:Int} {L L':PTab} {T1 T2:PT}
theorem FilesMid.start (h:FilesIn w fb tb om S B P Ft C):FilesMid fb tb om S B P C w w S.T:=⟨Ft,C,h,fun _ => .inl rfl,Turn.refl _ _⟩
theorem FilesMid.still (h:FilesMid fb tb om S B P C w wx T1) (t:Turn (fun _ => False) wx w'):FilesMid fb tb om S B P C w w' T1:=by
 obtain ⟨Ft1,C1,h1,h2,h3⟩:=h
 exact ⟨Ft1,C1,h1.turned t (fun _ _ => id),h2,h3.trans (no_turn t)⟩
theorem FilesMid.h0 (h:FilesMid fb tb om S B P C w wx T1):wx.cell? ⟨fb,0,none⟩=some (.pointer (some ⟨tb,0,none⟩)):=by
 obtain ⟨Ft1,C1,h1,h2,h3⟩:=h
 exact h1.h0
theorem FilesMid.turn (h:FilesMid fb tb om S B P C w wx T1):Turn (fun j => CFoot C j) w wx:=by
 obtain ⟨Ft1,C1,h1,h2,h3⟩:=h
 exact h3
theorem FilesMid.next (hl:∀ j,CFoot C j→j < w.heap.size) (t1:Turn (fun j => CFoot C j) w wx) {Ft1:Nat→Prop} {C1:Nat→Nat×Int} (h:FilesIn wx fb tb om (treeS S T1) B P Ft1 C1) (h2:∀ j,C1 j=C j∨w.heap.size≤j) (ht:TreeTo tb Ft1 wx w' T2):FilesMid fb tb om S B P C w w' T2:=by
 obtain ⟨Ft',C',a,b',t⟩:=h.tree ht
 refine ⟨Ft',C',a,fun j => ?_,t1.trans' t (fun j hj hc => ?_)⟩
 ·rcases b' j with h3 | h3
  ·rcases h2 j with h4 | h4
   ·exact .inl (h3.trans h4)
   ·exact .inr h4
  ·exact .inr (Nat.le_trans t1.size h3)
 ·rcases h2 j with h4 | h4
  ·have hc:C1 j≠_:=hc
   rw [h4] at hc; exact hc
  ·exact absurd hj (by omega)
theorem FilesMid.find (h:FilesMid fb tb om S B P C w wx T1) (path:ByteArray) (hs:path.size < 4294967281) :
  Calls Tryz.prog 51 #[.pointer (some ⟨tb,0,none⟩),.string path] wx fun e w' => e=.returned (.tuple #[.int .i64 (findT T1 path).2,TErr (findT T1 path).1])∧FilesMid fb tb om S B P C w w' T1:=by
 obtain ⟨Ft1,C1,h1,h2,h3⟩:=h
 exact (find_is h1.tr path hs).mono fun e w' x => ⟨x.1,Ft1,C1,h1.turned x.2 (fun _ _ => id),h2,h3.trans (no_turn x.2)⟩
theorem FilesMid.create (hl:∀ j,CFoot C j→j < w.heap.size) (h:FilesMid fb tb om S B P C w wx T1) (path:ByteArray) (hs:path.size < 4294967281) :
  Calls Tryz.prog 53 #[.pointer (some ⟨tb,0,none⟩),.string path] wx fun e w' => e=.returned (.tuple #[.int .i64 (makeK T1 path),TErr (makeE T1 path)])∧FilesMid fb tb om S B P C w w' (makeT T1 path false):=by
 obtain ⟨Ft1,C1,h1,h2,h3⟩:=h
 exact (create_is h1.tr path hs).mono fun e w' x => ⟨x.1,FilesMid.next hl h3 h1 h2 x.2⟩
theorem FilesMid.hold (hl:∀ j,CFoot C j→j < w.heap.size) (h:FilesMid fb tb om S B P C w wx T1) (n:Int) (hb:∀ p,mget T1 n=some p→p.held < 1000000) :
  Calls Tryz.prog 54 #[.pointer (some ⟨tb,0,none⟩),.int .i64 n] wx fun e w' => e=.returned (TErr (fileE T1 n))∧FilesMid fb tb om S B P C w w' (holdT T1 n):=by
 obtain ⟨Ft1,C1,h1,h2,h3⟩:=h
 exact (hold_is h1.tr n hb).mono fun e w' x => ⟨x.1,FilesMid.next hl h3 h1 h2 x.2⟩
theorem FilesMid.done (h:FilesMid fb tb om S B P C w wx T1) (ht:TabIs w tab L) (hn:¬ CFoot C tab):FilesTo fb tb tab (CFoot C) w wx (treeS S T1) L:=by
 obtain ⟨Ft1,C1,h1,h2,h3⟩:=h
 refine .of h1 (ht.turned h3 hn) (h3.mono (fun _ _ h => .inl h)) (fun j hj => ?_) (fun hx => ?_)
 ·rcases h2 j with h4 | h4
  ·exact .inl (by have hj:C1 j≠_:=hj; rw [h4] at hj; exact hj)
  ·exact .inr h4
 ·have hx:C1 tab≠_:=hx
  rw [(h2 tab).resolve_right (by have:=ht.lt; omega)] at hx
  exact hn hx
def entObj (prot node:Int):Obj:=.cells #[.int .i64 1,.int .i64 prot,.int .i64 node,.pointer none,.int .i64 0,.int .i64 0] 87
theorem entObj_at (w:World) (P:Nat→Nat) (prot node:Int):EntAt (w.alloc (entObj prot node)) w.heap.size P ⟨1,prot,node,0,0,0⟩ :=
 ⟨World.cell?_alloc_new _ _ _ _,World.cell?_alloc_new _ _ _ _,World.cell?_alloc_new _ _ _ _,World.cell?_alloc_new _ _ _ _,World.cell?_alloc_new _ _ _ _,World.cell?_alloc_new _ _ _ _,fun i => World.frozen?_alloc_new _ _ _ _⟩
theorem file_is_open (h:FilesIs w fb tb S F) (hS:DOk S) (ht:TabIs w tab L) (hn:¬ F tab) (hL:Laid w) (hLf:¬ F 0) (path:ByteArray) (hs:path.size < 4294967281) (prot:Int) (makes:Bool) :
  Calls Tryz.prog 22 #[.pointer (some ⟨fb,0,none⟩),.pointer (some ⟨tab,0,none⟩),.string path,.int .i64 prot,.bool makes] w fun e w' => e=.returned (.tuple #[.int .i64 (openK S L path prot makes),TErr (openE S L path prot makes)])∧FilesTo fb tb tab F w w' (openS S L path prot makes) (openL S L path prot makes):=by
 obtain ⟨om,B,P,Ft,C,hin,rfl⟩:=h
 have HSame:Hid (∀ w',Turn (fun _ => False) w w'→FilesTo fb tb tab (CFoot C) w w' S L):=hid (fun w' t => .same (hin.turned t (fun _ _ => id)) (ht.turned t id) (no_turn t) hn)
 by_cases hp:prot < 1∨3 < prot
 ·have e1:openE S L path prot makes=1:=if_pos hp
  have e2:openS S L path prot makes=S:=if_pos hp
  have e3:openK S L path prot makes=0:=if_neg (by rw [e1]; decide)
  have e4:openL S L path prot makes=L:=if_neg (by rw [e1]; decide)
  rw [e1,e2,e3,e4]
  clear hin hS ht hn hL hLf e1 e2 e3 e4
  rcases hp with hp | hp
  all_goals go_enter Tryz.func22,Tryz.ntmps22
  all_goals go_wp2_with fail
  all_goals go_ret2
  all_goals exact ⟨rfl,HSame.out _ (Turn.refl _ _)⟩
 ·obtain ⟨hp1,hp2⟩:1≤prot∧prot≤3:=by omega
  have HLe:=hid (least_is ht)
  by_cases hf:leastL L < 0∨40≤S.es.length
  ·have e1:openE S L path prot makes=12:=by unfold openE; rw [if_neg hp,if_pos hf]
   have e2:openS S L path prot makes=S:=by unfold openS; rw [if_neg hp,if_pos hf]
   have e3:openK S L path prot makes=0:=if_neg (by rw [e1]; decide)
   have e4:openL S L path prot makes=L:=if_neg (by rw [e1]; decide)
   rw [e1,e2,e3,e4]
   have HI:=hid hin
   have HF:=hid hf
   clear hin hS ht hn hL hLf e1 e2 e3 e4 hp hf
   go_enter Tryz.func22,Tryz.ntmps22
   go_wp2_with (go_at_call 50; refine HLe.out.mono ?_; rintro e w1 ⟨rfl,t1⟩; have HT1:=hid t1; clear t1; have hh:=(HI.out.turned HT1.out (fun _ _ => id)).h1; have hln:=(HI.out.turned HT1.out (fun _ _ => id)).mp.run_len Tryz.underlying78 3; rw [show (keysE B S.es).length=S.es.length from List.length_map ..] at hln; by_cases hl:leastL L < 0; rotate_left; have hl2:(40:Int)≤S.es.length:=by have:=HF.out; omega)
   all_goals go_wp2_with fail
   all_goals go_ret2
   all_goals exact ⟨rfl,HSame.out _ HT1.out⟩
  ·obtain ⟨j,hl,hj,hjz⟩:=(leastL_spec L).resolve_left (by omega)
   have hlen:S.es.length < 40:=by omega
   obtain ⟨xe,xk,T2,hX⟩:∃ xe xk T2,fileN S.T path makes=(xe,xk,T2):=⟨_,_,_,rfl⟩
   have e1:openE S L path prot makes=fileZ (xe,xk,T2):=by unfold openE; rw [if_neg hp,if_neg hf,hX]
   have e2:openS S L path prot makes=if fileZ (xe,xk,T2)=0 then putS (treeS S (fileH (xe,xk,T2))) (freeE S.es) ⟨1,prot,xk,0,0,1⟩ else treeS S (fileH (xe,xk,T2)):=by unfold openS; rw [if_neg hp,if_neg hf,hX]
   have e3:openK S L path prot makes=if fileZ (xe,xk,T2)=0 then (j:Int) else 0:=by unfold openK; rw [e1,hl]
   have e4:openL S L path prot makes=if fileZ (xe,xk,T2)=0 then tset L j ((freeE S.es:Int)+1,false) else L:=by unfold openL; rw [e1,hl]; rfl
   obtain ⟨Z,hZ⟩:∃ Z,fileZ (xe,xk,T2)=Z:=⟨_,rfl⟩
   rw [hZ] at e1 e2 e3 e4
   obtain ⟨S2,hS2⟩:∃ S2,openS S L path prot makes=S2:=⟨_,rfl⟩
   obtain ⟨K2,hK2⟩:∃ K2,openK S L path prot makes=K2:=⟨_,rfl⟩
   obtain ⟨L2,hL2⟩:∃ L2,openL S L path prot makes=L2:=⟨_,rfl⟩
   rw [e1,hS2,hK2,hL2]
   rw [hS2] at e2
   rw [hK2] at e3
   rw [hL2] at e4
   have E2:=hid e2
   have E3:=hid e3
   have E4:=hid e4
   have HX:=hid hX
   have HZ:=hid hZ
   have HI:=hid hin
   have HT:=hid ht
   have HN:=hid hn
   have HLd:=hid hL
   have HLf:=hid hLf
   have HLow:Hid (∀ j,CFoot C j→j < w.heap.size):=hid hin.low
   have HNd:=hid hS.nd
   have HB:Hid (∀ n p,mget T2 n=some p→p.held < 1000000):=hid (fun n p hp => by
    have h0:∀ n p,mget S.T n=some p→p.held < 1000000:=fun n p hp => by rw [hS.held _ p hp]; have h1:=hS.size; have h2:heldE n S.es≤S.es.length:=List.length_filter_le _ _; omega
    have hp:mget ((xe,xk,T2):Int×Int×PT).2.2 n=some p:=hp
    rw [← hX] at hp
    unfold fileN at hp
    split at hp
    ·rcases mget_makeT hp with ⟨q,hq,h3,_⟩ | ⟨h3,_⟩
     ·rw [h3]; exact h0 n q hq
     ·omega
    ·exact h0 n p hp)
   have HLl:=hid hl
   have HLn:=hid hlen
   clear hin hS ht hn hL hLf e1 e2 e3 e4 hp hf hl hX hZ hS2 hK2 hL2 HSame
   go_enter Tryz.func22,Tryz.ntmps22
   go_upto_region 5 with (go_at_call 50; refine HLe.out.mono ?_; rintro e w1 ⟨rfl,t1⟩; rw [HLl.out]; have HT1:=hid t1; clear t1; have hh:=(HI.out.turned HT1.out (fun _ _ => id)).h1; have hln:=(HI.out.turned HT1.out (fun _ _ => id)).mp.run_len Tryz.underlying78 3; rw [show (keysE B S.es).length=S.es.length from List.length_map ..] at hln; have hl2:¬ (40:Int)≤S.es.length:=by have:=HLn.out; omega)
   clear hln hl2 hh
   have HM1:=hid ((FilesMid.start HI.out).still HT1.out)
   have h0:=HM1.out.h0
   obtain ⟨fe,hfe⟩:∃ fe,(findT S.T path).1=fe:=⟨_,rfl⟩
   obtain ⟨fk,hfk⟩:∃ fk,(findT S.T path).2=fk:=⟨_,rfl⟩
   obtain ⟨bb,hbb⟩:∃ bb,decide (fe=7∧makes=true)=bb:=⟨_,rfl⟩
   have HFe:=hid hfe
   have HFk:=hid hfk
   have HBb:=hid hbb
   clear hfe hfk hbb
   go_upto_region 6 with (go_at_call 51; refine (HM1.out.find path hs).mono ?_; rintro e w2 ⟨rfl,hm⟩; rw [HFe.out,HFk.out]; have HM2:=hid hm; clear hm)
   go_cut [49] (fun v wx => v=.bool bb∧Hid (FilesMid fb tb om S B P C w wx S.T))
   case first =>
    as_aux_lemma =>
     by_cases h7:fe=7
     ·have h7b:(fe == 7)=true:=by simpa using h7
      have hb2:bb=makes:=by have:=HBb.out; rw [h7] at this; simpa using this.symm
      have HB2:=hid hb2
      clear h7 hb2
      go_wp2_with (go_at_call 52; refine (tell_tree _ _ (HLd.out.turned HM2.out.turn HLf.out)).mono ?_; rintro e w3 ⟨rfl,t3⟩; have HM3:=hid (HM2.out.still t3); clear t3)
      go_meet
      exact ⟨by rw [HB2.out],HM3⟩
     ·have h7b:(fe == 7)=false:=by simpa using h7
      have hb2:bb=false:=by rw [← HBb.out]; simp [h7]
      have HB2:=hid hb2
      clear h7 hb2
      go_wp2_with (go_at_call 52; refine (tell_tree _ _ (HLd.out.turned HM2.out.turn HLf.out)).mono ?_; rintro e w3 ⟨rfl,t3⟩; have HM3:=hid (HM2.out.still t3); clear t3)
      go_meet
      exact ⟨by rw [HB2.out],HM3⟩
   case rest =>
    obtain ⟨rfl,HM3⟩:=hcut
    clear HM1 HM2 h0
    have h0:=HM3.out.h0
    go_upto_if 49 with fail
    go_cut [12,13] (fun kv ev wx => kv=.int .i64 xk∧ev=TErr xe∧Hid (FilesMid fb tb om S B P C w wx T2))
    case first =>
     as_aux_lemma =>
      have hx:=HX.out
      unfold fileN at hx
      cases bb with
      | true =>
       have h1:=of_decide_eq_true HBb.out
       rw [if_pos ⟨HFe.out.trans h1.1,h1.2⟩] at hx
       injection hx with x1 x2
       injection x2 with x2 x3
       have X1:=hid x1
       have X2:=hid x2
       have X3:=hid x3
       clear x1 x2 x3 h1
       go_wp2_with (go_at_call 53; refine (HM3.out.create HLow.out path hs).mono ?_; rintro e w4 ⟨rfl,hm⟩; have HM4:=hid hm; clear hm)
       go_meet
       exact ⟨by rw [← X2.out],by rw [← X1.out],by rw [← X3.out]; exact HM4⟩
      | false =>
       have h1:=of_decide_eq_false HBb.out
       rw [if_neg (fun h => h1 ⟨HFe.out.symm.trans h.1,h.2⟩)] at hx
       injection hx with x1 x2
       injection x2 with x2 x3
       have X1:=hid x1
       have X2:=hid x2
       have X3:=hid x3
       clear x1 x2 x3 h1
       go_wp2_with fail
       go_meet
       exact ⟨by rw [← X2.out,HFk.out],by rw [← X1.out,HFe.out],by rw [← X3.out]; exact HM3⟩
    case rest =>
     obtain ⟨rfl,rfl,HM4⟩:=hcut
     clear HM3 h0
     have h0:=HM4.out.h0
     by_cases hxe:xe=0
     ·subst hxe
      rw [show TErr 0=Value.nilIface from if_pos rfl]
      have hZ2:Z=fileE T2 xk:=by rw [← HZ.out]; exact if_pos rfl
      have hH2:fileH (0,xk,T2)=holdT T2 xk:=if_pos rfl
      rw [hH2] at E2
      by_cases hz:fileE T2 xk=0
      ·rw [hz] at hZ2
       rw [hZ2,if_pos rfl] at E2 E3 E4
       have HZ2:=hid hZ2
       have HZz:=hid hz
       clear hZ2 hz hH2
       go_upto_region 12 with (go_at_call 54; refine (HM4.out.hold HLow.out xk (HB.out xk)).mono ?_; rintro e w5 ⟨rfl,hm⟩; rw [HZz.out,show TErr 0=Value.nilIface from if_pos rfl]; have HM5:=hid hm; clear hm)
       obtain ⟨Ft1,C1,hi5,hC5,ht5⟩:=HM5.out
       have hobj:=entObj_at w5 P prot xk
       have ta:Turn (fun _ => False) w5 (w5.alloc (entObj prot xk)):=(Turn.refl _ _).alloc _
       have hn1:¬ CFoot C1 tab:=fun hx => by
        have hx:C1 tab≠_:=hx
        rw [(hC5 tab).resolve_right (by have:=HT.out.lt; omega)] at hx
        exact HN.out hx
       have hc1:¬ CFoot C1 w5.heap.size:=fun hx => by have:=hi5.low _ hx; omega
       have hct:w5.heap.size≠tab:=fun hx => by have:=(HT.out.turned ht5 HN.out).lt; omega
       have HA:=hid (add_is (hi5.turned ta (fun _ _ => id)) HNd.out ((HT.out.turned ht5 HN.out).turned ta id) hn1 hobj hc1 hct HLl.out hj HLn.out)
       have HSz:=hid ht5.size
       have HC5:=hid hC5
       have HT5:=hid ht5
       have HTa:=hid ta
       have HN1:=hid hn1
       clear hi5 hC5 ht5 hobj ta hn1 hc1 hct
       unfold entObj at HA HTa
       go_wp2_with (go_at_call 55; refine HA.out.mono ?_; rintro e w7 ⟨rfl,hi7,ht7,t7⟩; have HI7:=hid hi7; have HT7:=hid ht7; have HT7u:=hid t7; clear hi7 ht7 t7)
       go_ret2
       rw [HZ2.out,E2.out,E3.out,E4.out]
       have hlt:∀ j,CFoot C1 j→CFoot C j∨w.heap.size≤j:=fun j hj => by
        rcases HC5.out j with h4 | h4
        ·exact .inl (by have hj:C1 j≠_:=hj; rw [h4] at hj; exact hj)
        ·exact .inr h4
       have tall:=((HT5.out.mono (fun _ _ h => .inl h)).trans (no_turn (X:=fun j => CFoot C j∨j=tab) HTa.out)).trans' HT7u.out (fun i hi hx => by
        rcases hx with hx | hx | hx
        ·rcases hlt i hx with h4 | h4
         ·exact .inl h4
         ·omega
        ·exact .inr hx
        ·have:=HSz.out; omega)
       refine ⟨rfl,.of HI7.out HT7.out tall (fun i hi => ?_) (fun hx => ?_)⟩
       ·by_cases hic:i=w5.heap.size
        ·exact .inr (by have:=HSz.out; omega)
        ·exact hlt i (by have hi:updC C1 _ _ i≠_:=hi; unfold updC at hi; rw [if_neg hic] at hi; exact hi)
       ·have hx:updC C1 _ _ tab≠_:=hx
        unfold updC at hx
        have:tab≠w5.heap.size:=fun hx => by have:=(HT.out.turned HT5.out HN.out).lt; omega
        rw [if_neg this] at hx
        exact HN1.out hx
      ·rw [if_neg (by rw [hZ2]; exact hz)] at E2 E3 E4
       have hte:=TErr_of hz
       have HZ2:=hid hZ2
       have HXe:=hid hte
       clear hZ2 hz hH2 hte
       go_wp2_with (go_at_call 54; refine (HM4.out.hold HLow.out xk (HB.out xk)).mono ?_; rintro e w5 ⟨rfl,hm⟩; rw [HXe.out]; have HM5:=hid hm; clear hm)
       go_ret2
       rw [HZ2.out,HXe.out,E2.out,E3.out,E4.out]
       exact ⟨rfl,HM5.out.done HT.out HN.out⟩
     ·have hZ2:Z=xe:=by rw [← HZ.out]; exact if_neg hxe
      have hH2:fileH (xe,xk,T2)=T2:=if_neg hxe
      rw [hH2,if_neg (by rw [hZ2]; exact hxe)] at E2
      rw [if_neg (by rw [hZ2]; exact hxe)] at E3 E4
      have hte:=TErr_of hxe
      rw [hte]
      have HZ2:=hid hZ2
      have HXe:=hid hte
      clear hZ2 hxe hH2 hte
      go_wp2_with fail
      go_ret2
      rw [HZ2.out,HXe.out,E2.out,E3.out,E4.out]
      exact ⟨rfl,HM4.out.done HT.out HN.out⟩
end
/-! ### a pipe's,whole -/
def pRdE (q:PP) (many:Int):Int:=if many < 0 then 2 else if 0 < many∧q.b.size=0∧0 < q.e1 then 8 else 0
def pRd (q:PP) (many:Int):ByteArray:=if pRdE q many=0 then q.b.extract 0 (min many.toNat q.b.size) else ByteArray.empty
def pRdQ (q:PP) (many:Int):PP:=if pRdE q many=0 then { q with b:=q.b.extract (min many.toNat q.b.size) q.b.size } else q
def pWrE (q:PP) (s:ByteArray):Int:=if q.e0=0 then 14 else if s.size=0 then 0 else if 16≤q.b.size then 12 else 0
def pWr (q:PP) (s:ByteArray):Nat:=if pWrE q s=0 then min s.size (16 - q.b.size) else 0
def pWrQ (q:PP) (s:ByteArray):PP:={ q with b:=q.b ++ s.extract 0 (pWr q s) }
theorem app_empty (b s:ByteArray):b ++ s.extract 0 0=b:=by rw [ext_none]; exact ByteArray.append_empty
theorem pread_is {w:World} {p:Nat} {q:PP} (h:PipeIs w p q.b q.e0 q.e1) (many:Int) (hb:q.b.size≤1000000) (he:q.e1=0∨q.e1=1) :
  Calls Tryz.prog 65 #[.pointer (some ⟨p,0,none⟩),.int .i64 many] w fun e w' => e=.returned (.tuple #[.string (pRd q many),TErr (pRdE q many)])∧PipeIs w' p (pRdQ q many).b (pRdQ q many).e0 (pRdQ q many).e1∧Turn (fun k => k=p) w w':=by
 by_cases h1:many < 0
 ·have e1:pRdE q many=2:=if_pos h1
  have e2:pRd q many=ByteArray.empty:=if_neg (by rw [e1]; decide)
  have e3:pRdQ q many=q:=if_neg (by rw [e1]; decide)
  rw [e1,e2,e3]
  exact (read_neg h many h1).mono fun e w' x => ⟨x.1,x.2 ▸ h,x.2 ▸ Turn.refl _ _⟩
 ·by_cases h2:0 < many∧q.b.size=0∧0 < q.e1
  ·have e1:pRdE q many=8:=by unfold pRdE; rw [if_neg h1,if_pos h2]
   have e2:pRd q many=ByteArray.empty:=if_neg (by rw [e1]; decide)
   have e3:pRdQ q many=q:=if_neg (by rw [e1]; decide)
   rw [e1,e2,e3]
   exact (read_none h many h2.1 h2.2.1 h2.2.2).mono fun e w' x => ⟨x.1,x.2 ▸ h,x.2 ▸ Turn.refl _ _⟩
  ·have e1:pRdE q many=0:=by unfold pRdE; rw [if_neg h1,if_neg h2]
   have e2:pRd q many=q.b.extract 0 (min many.toNat q.b.size):=if_pos e1
   have e3:pRdQ q many={ q with b:=q.b.extract (min many.toNat q.b.size) q.b.size }:=if_pos e1
   rw [e1,e2,e3]
   exact (read_some h many (by omega) hb (by omega) _ rfl).mono fun e w' x => x
theorem pwrite_is {w:World} {p:Nat} {q:PP} (h:PipeIs w p q.b q.e0 q.e1) (s:ByteArray) (hs:s.size≤1000000) (hb:q.b.size≤16) (he:q.e0=0∨q.e0=1) :
  Calls Tryz.prog 69 #[.pointer (some ⟨p,0,none⟩),.string s] w fun e w' => e=.returned (.tuple #[.int .i64 (pWr q s:Int),TErr (pWrE q s)])∧PipeIs w' p (pWrQ q s).b (pWrQ q s).e0 (pWrQ q s).e1∧Turn (fun k => k=p) w w':=by
 have same:pWr q s=0→∀ w',w=w'→PipeIs w' p (pWrQ q s).b (pWrQ q s).e0 (pWrQ q s).e1∧Turn (fun k => k=p) w w':=fun h0 w' e => by
  subst e
  unfold pWrQ
  rw [h0,app_empty]
  exact ⟨h,Turn.refl _ _⟩
 by_cases h1:q.e0=0
 ·have e1:pWrE q s=14:=if_pos h1
  have e2:pWr q s=0:=if_neg (by rw [e1]; decide)
  rw [e1,e2]
  exact (write_nobody (h1 ▸ h) s).mono fun e w' x => ⟨x.1,same e2 w' x.2⟩
 ·by_cases h2:s.size=0
  ·have e1:pWrE q s=0:=by unfold pWrE; rw [if_neg h1,if_pos h2]
   have e2:pWr q s=0:=by unfold pWr; rw [if_pos e1,h2]; simp
   rw [e1,e2]
   exact (write_empty h (by omega) s h2).mono fun e w' x => ⟨x.1,same e2 w' x.2⟩
  ·by_cases h3:16≤q.b.size
   ·have e1:pWrE q s=12:=by unfold pWrE; rw [if_neg h1,if_neg h2,if_pos h3]
    have e2:pWr q s=0:=if_neg (by rw [e1]; decide)
    rw [e1,e2]
    exact (write_full h (by omega) s (by omega) h3 (by omega)).mono fun e w' x => ⟨x.1,same e2 w' x.2⟩
   ·have e1:pWrE q s=0:=by unfold pWrE; rw [if_neg h1,if_neg h2,if_neg h3]
    have e2:pWr q s=min s.size (16 - q.b.size):=if_pos e1
    rw [e1]
    exact (write_some h (by omega) s (by omega) hs (by omega) (pWr q s) e2).mono fun e w' x => x
/-! ### Read -/
def rdE (S:PS) (L:PTab) (n many:Int):Int:=(entL S L n).elim 7 fun x => if x.2.prot=2 then 13 else if x.2.kind=2 then (S.ps[x.2.pid]?).elim 0 fun q => pRdE q many else readE S.T x.2.node x.2.at' many
def rdB (S:PS) (L:PTab) (n many:Int):ByteArray:=(entL S L n).elim ByteArray.empty fun x => if x.2.prot=2 then ByteArray.empty else if x.2.kind=2 then (S.ps[x.2.pid]?).elim ByteArray.empty fun q => pRd q many else readT S.T x.2.node x.2.at' many
def rdS (S:PS) (L:PTab) (n many:Int):PS:=(entL S L n).elim S fun x => if x.2.prot=2 then S else if x.2.kind=2 then (S.ps[x.2.pid]?).elim S fun q => pipeS S x.2.pid (pRdQ q many) else putS S x.1 { x.2 with at':=x.2.at'+(readT S.T x.2.node x.2.at' many).size }
section
variable {w w' w1 w2:World} {fb tb om b tab:Nat} {S S':PS} {B:Int→Nat} {P:Nat→Nat} {Ft F:Nat→Prop} {C:Nat→Nat×Int} {e e':PE} {k n:Int} {L L':PTab}
theorem EOk.from (h:EOk S e) (hk:e.kind=2):e.prot=1∧∃ q,S.ps[e.pid]?=some q∧q.e0=1:=by
 rcases h.2 with h1 | ⟨_,h1⟩ | h1
 ·omega
 ·exact h1
 ·omega
theorem EOk.into (h:EOk S e) (hk:e.kind=3):e.prot=2∧∃ q,S.ps[e.pid]?=some q∧q.e1=1:=by
 rcases h.2 with h1 | h1 | ⟨_,h1⟩
 ·omega
 ·omega
 ·exact h1
theorem readT_size (hS:DOk S) (hok:TOk S.T) (n at' many:Int):(readT S.T n at' many).size≤200:=by
 unfold readT
 split
 ·have h1:(dataT S.T n).size≤200:=by
   unfold dataT
   cases hn:mget S.T n with
   | none => show (0:Nat)≤200; omega
   | some p => exact hok.data n p hn
  unfold readB
  rw [ByteArray.size_extract]
  omega
 ·show (0:Nat)≤200; omega
theorem pipe_ptr (he:EntAt w b P e) (hk:e.kind≠1):w.cell? ⟨b,3,none⟩=some (.pointer (some ⟨P e.pid,0,none⟩)):=by
 have h1:=he.c3
 have h2:pipeV P e=ptrV (P e.pid):=if_neg hk
 rw [h2] at h1; exact h1
theorem dread_is (h:FilesIs w fb tb S F) (hS:DOk S) (ht:TabIs w tab L) (hok:TabOk S L) (hn:¬ F tab) (n many:Int) :
  Calls Tryz.prog 34 #[.pointer (some ⟨fb,0,none⟩),.pointer (some ⟨tab,0,none⟩),.int .i64 n,.int .i64 many] w fun e w' => e=.returned (.tuple #[.string (rdB S L n many),TErr (rdE S L n many)])∧FilesTo fb tb tab F w w' (rdS S L n many) L:=by
 obtain ⟨om,B,P,Ft,C,hin,rfl⟩:=h
 have HSame:Hid (∀ w',Turn (fun _ => False) w w'→FilesTo fb tb tab (CFoot C) w w' S L):=hid (fun w' t => .same (hin.turned t (fun _ _ => id)) (ht.turned t id) (no_turn t) hn)
 cases hx:entL S L n with
 | none =>
  have e1:rdE S L n many=7:=by unfold rdE; rw [hx]; rfl
  have e2:rdS S L n many=S:=by unfold rdS; rw [hx]; rfl
  have e3:rdB S L n many=ByteArray.empty:=by unfold rdB; rw [hx]; rfl
  rw [e1,e2,e3]
  have HG:=hid (get_none hin ht hok hx)
  clear hin ht hok hn hx e1 e2 e3
  go_enter Tryz.func34,Tryz.ntmps34
  go_wp2_with (go_at_call 43; refine HG.out.mono ?_; rintro e w' ⟨rfl,t⟩)
  go_ret2
  exact ⟨rfl,HSame.out _ t⟩
 | some x =>
  obtain ⟨k,e⟩:=x
  have he:=(entL_some hx).2
  have HG:=hid (get_some hin ht hok hx)
  have HI:=hid hin
  have HT:=hid ht
  have HN:=hid hn
  have HE:=hid he
  obtain ⟨⟨hr1,hr2,ha1,ha2⟩,hkind⟩:=hS.ent k e he
  by_cases hp:e.prot=2
  ·have e1:rdE S L n many=13:=by unfold rdE; rw [hx]; exact if_pos hp
   have e2:rdS S L n many=S:=by unfold rdS; rw [hx]; exact if_pos hp
   have e3:rdB S L n many=ByteArray.empty:=by unfold rdB; rw [hx]; exact if_pos hp
   rw [e1,e2,e3]
   have HP:=hid hp
   clear hin hS ht hok hn hx e1 e2 e3 he hkind hp
   go_enter Tryz.func34,Tryz.ntmps34
   go_wp2_with (go_at_call 43; refine HG.out.mono ?_; rintro e w' ⟨rfl,t⟩; have HTt:=hid t; clear t; have c1:=((HI.out.turned HTt.out (fun _ _ => id)).en _ _ HE.out).c1; rw [HP.out] at c1)
   go_ret2
   exact ⟨rfl,HSame.out _ HTt.out⟩
  ·by_cases hk:e.kind=2
   ·obtain ⟨hp1,q,hq,hq0⟩:e.prot=1∧∃ q,S.ps[e.pid]?=some q∧q.e0=1:=(show EOk S e from ⟨⟨hr1,hr2,ha1,ha2⟩,hkind⟩).from hk
    have e1:rdE S L n many=pRdE q many:=by unfold rdE; rw [hx]; show (if e.prot=2 then 13 else if e.kind=2 then _ else _)=_; rw [if_neg hp,if_pos hk,hq]; rfl
    have e2:rdS S L n many=pipeS S e.pid (pRdQ q many):=by unfold rdS; rw [hx]; show (if e.prot=2 then S else if e.kind=2 then _ else _)=_; rw [if_neg hp,if_pos hk,hq]; rfl
    have e3:rdB S L n many=pRd q many:=by unfold rdB; rw [hx]; show (if e.prot=2 then _ else if e.kind=2 then _ else _)=_; rw [if_neg hp,if_pos hk,hq]; rfl
    rw [e1,e2,e3]
    have HP:=hid hp1
    have HK:=hid hk
    have HQ:=hid hq
    obtain ⟨hb1,hb2,hb3⟩:=hS.pipes e.pid q hq
    have HB1:=hid hb1
    have HB3:=hid hb3
    clear hin hS ht hok hn hx e1 e2 e3 he hkind hp hk hp1 hq hb1 hb2 hb3
    go_enter Tryz.func34,Tryz.ntmps34
    go_wp2_with (first | (go_at_call 43; refine HG.out.mono ?_; rintro e w' ⟨rfl,t⟩; have HTt:=hid t; clear t; have HI1:=hid (HI.out.turned HTt.out (fun _ _ => id)); have c1:=(HI1.out.en _ _ HE.out).c1; have c0:=(HI1.out.en _ _ HE.out).c0; have c3:=pipe_ptr (HI1.out.en _ _ HE.out) (by rw [HK.out]; decide); rw [HP.out] at c1; rw [HK.out] at c0) | (go_at_call 65; refine (pread_is (HI1.out.pp _ _ HQ.out) many (by have:=HB1.out; omega) HB3.out).mono ?_; rintro e w2 ⟨rfl,hp2,t2⟩; have HP2:=hid hp2; have HT2:=hid t2; clear hp2 t2))
    go_ret2
    exact ⟨rfl,.same (HI1.out.pipe HQ.out HP2.out HT2.out) ((HT.out.turned HTt.out id).turned HT2.out (fun x => HN.out (x ▸ (show C _≠_ from by rw [HI1.out.cp e.pid q HQ.out]; simp)))) ((no_turn HTt.out).trans (HT2.out.mono (fun j _ hj => .inl (hj ▸ (show C _≠_ from by rw [HI1.out.cp e.pid q HQ.out]; simp))))) HN.out⟩
   ·have hk1:e.kind=1:=by rcases hkind with h1 | h1 | h1 <;> omega
    have hp13:e.prot=1∨e.prot=3:=by rcases hkind with h1 | h1 | h1 <;> omega
    have e1:rdE S L n many=readE S.T e.node e.at' many:=by unfold rdE; rw [hx]; show (if e.prot=2 then 13 else if e.kind=2 then _ else _)=_; rw [if_neg hp,if_neg hk]
    have e2:rdS S L n many=putS S k { e with at':=e.at'+(readT S.T e.node e.at' many).size }:=by unfold rdS; rw [hx]; show (if e.prot=2 then S else if e.kind=2 then _ else _)=_; rw [if_neg hp,if_neg hk]
    have e3:rdB S L n many=readT S.T e.node e.at' many:=by unfold rdB; rw [hx]; show (if e.prot=2 then _ else if e.kind=2 then _ else _)=_; rw [if_neg hp,if_neg hk]
    rw [e1,e2,e3]
    have HK:=hid hk1
    have hsz:=readT_size hS hin.tr.ok e.node e.at' many
    obtain ⟨X,hX⟩:∃ X,readT S.T e.node e.at' many=X:=⟨_,rfl⟩
    rw [hX] at hsz ⊢
    have HX:=hid hX
    have hw:IntKind.i64.wrap (e.at'+(X.size:Int))=e.at'+(X.size:Int):=IntWalk.i64_in _ (by omega)
    have HP:Hid (e.prot=1∨e.prot=3):=hid hp13
    clear hin hS ht hok hn hx e1 e2 e3 he hkind hp hk hk1 hX hp13
    go_enter Tryz.func34,Tryz.ntmps34
    go_upto_region 4 with (go_at_call 43; refine HG.out.mono ?_; rintro e w' ⟨rfl,t⟩; have HTt:=hid t; clear t; have HI1:=hid (HI.out.turned HTt.out (fun _ _ => id)))
    go_cut [24] (fun v wx => v=.bool false∧wx=w')
    case first =>
     as_aux_lemma =>
      have c1:=(HI1.out.en _ _ HE.out).c1
      rcases HP.out with hp | hp
      all_goals rw [hp] at c1
      all_goals go_wp2_with fail
      all_goals go_meet
      all_goals exact ⟨rfl,rfl⟩
    case rest =>
     obtain ⟨rfl,rfl⟩:=hcut
     have c0:=(HI1.out.en _ _ HE.out).c0
     have c2:=(HI1.out.en _ _ HE.out).c2
     have c4:=(HI1.out.en _ _ HE.out).c4
     have h0:=HI1.out.h0
     rw [HK.out] at c0
     go_upto_region 8 with fail
     have HC:=hid (read_is (HI1.out.turned (X:=fun _ => False) (Turn.refl _ _).drew (fun _ _ => id)).tr e.node e.at' many)
     rw [HX.out] at HC
     go_region_with (go_at_call 66; refine HC.out.mono ?_; rintro e w2 ⟨rfl,t2⟩; have HT2:=hid (((Turn.refl (fun _ => False) _).drew).trans t2); clear t2; have HI2:=hid (HI1.out.turned HT2.out (fun _ _ => id)); have d4:=(HI2.out.en _ _ HE.out).c4; have z4:=(HI2.out.en _ _ HE.out).fz 4)
     all_goals go_wp2_with fail
     all_goals go_ret2
     all_goals exact ⟨rfl,.same (HI2.out.put HE.out ((HI2.out.en _ _ HE.out).setAt _) (turn_own _ _ _ _)) (((HT.out.turned HTt.out id).turned HT2.out id).turned (turn_own (B k) _ _ _) (fun e => HN.out (e ▸ HI2.out.foot HE.out))) (((no_turn HTt.out).trans (no_turn HT2.out)).trans (turn_ent C tab (HI2.out.foot HE.out) _ _ _)) HN.out⟩
end
def limB (e:PE) (s:ByteArray) (most:Int):Bool:=decide (s.size≠0∧(most < s.size∨most - s.size < e.at'))
def wrE (S:PS) (L:PTab) (n:Int) (s:ByteArray) (most:Int):Int:=(entL S L n).elim 7 fun x => if x.2.prot=1 then 13 else if x.2.kind=3 then (S.ps[x.2.pid]?).elim 0 fun q => pWrE q s else if limB x.2 s most=true then 4 else writeE S.T x.2.node x.2.at' s
def wrK (S:PS) (L:PTab) (n:Int) (s:ByteArray) (most:Int):Int:=(entL S L n).elim 0 fun x => if x.2.prot=1 then 0 else if x.2.kind=3 then (S.ps[x.2.pid]?).elim 0 fun q => (pWr q s:Int) else if limB x.2 s most=true then 0 else if writeE S.T x.2.node x.2.at' s=0 then s.size else 0
def wrS (S:PS) (L:PTab) (n:Int) (s:ByteArray) (most:Int):PS:=(entL S L n).elim S fun x => if x.2.prot=1 then S else if x.2.kind=3 then (S.ps[x.2.pid]?).elim S fun q => pipeS S x.2.pid (pWrQ q s) else if limB x.2 s most=true then S
 else if writeE S.T x.2.node x.2.at' s=0 then putS (treeS S (writeT S.T x.2.node x.2.at' s)) x.1 { x.2 with at':=x.2.at'+s.size } else S
section
variable {w w' w1 w2:World} {fb tb om b tab:Nat} {S S':PS} {B:Int→Nat} {P:Nat→Nat} {Ft F:Nat→Prop} {C:Nat→Nat×Int} {e e':PE} {k n:Int} {L L':PTab}
theorem dwrite_is (h:FilesIs w fb tb S F) (hS:DOk S) (ht:TabIs w tab L) (hok:TabOk S L) (hn:¬ F tab) (n:Int) (s:ByteArray) (hs:s.size≤1000000) (most:Int) (hm1:-9223372036854775808≤most) (hm2:most≤9223372036854775807) :
  Calls Tryz.prog 36 #[.pointer (some ⟨fb,0,none⟩),.pointer (some ⟨tab,0,none⟩),.int .i64 n,.string s,.int .i64 most] w fun e w' => e=.returned (.tuple #[.int .i64 (wrK S L n s most),TErr (wrE S L n s most)])∧FilesTo fb tb tab F w w' (wrS S L n s most) L:=by
 obtain ⟨om,B,P,Ft,C,hin,rfl⟩:=h
 have HSame:Hid (∀ w',Turn (fun _ => False) w w'→FilesTo fb tb tab (CFoot C) w w' S L):=hid (fun w' t => .same (hin.turned t (fun _ _ => id)) (ht.turned t id) (no_turn t) hn)
 cases hx:entL S L n with
 | none =>
  have e1:wrE S L n s most=7:=by unfold wrE; rw [hx]; rfl
  have e2:wrS S L n s most=S:=by unfold wrS; rw [hx]; rfl
  have e3:wrK S L n s most=0:=by unfold wrK; rw [hx]; rfl
  rw [e1,e2,e3]
  have HG:=hid (get_none hin ht hok hx)
  clear hin ht hok hn hx e1 e2 e3
  go_enter Tryz.func36,Tryz.ntmps36
  go_wp2_with (go_at_call 43; refine HG.out.mono ?_; rintro e w' ⟨rfl,t⟩)
  go_ret2
  exact ⟨rfl,HSame.out _ t⟩
 | some x =>
  obtain ⟨k,e⟩:=x
  have he:=(entL_some hx).2
  have HG:=hid (get_some hin ht hok hx)
  have HI:=hid hin
  have HT:=hid ht
  have HN:=hid hn
  have HE:=hid he
  have hE:=hS.ent k e he
  by_cases hp:e.prot=1
  ·have e1:wrE S L n s most=13:=by unfold wrE; rw [hx]; exact if_pos hp
   have e2:wrS S L n s most=S:=by unfold wrS; rw [hx]; exact if_pos hp
   have e3:wrK S L n s most=0:=by unfold wrK; rw [hx]; exact if_pos hp
   rw [e1,e2,e3]
   have HP:=hid hp
   clear hin hS ht hok hn hx e1 e2 e3 he hE hp
   go_enter Tryz.func36,Tryz.ntmps36
   go_wp2_with (go_at_call 43; refine HG.out.mono ?_; rintro e w' ⟨rfl,t⟩; have HTt:=hid t; clear t; have c1:=((HI.out.turned HTt.out (fun _ _ => id)).en _ _ HE.out).c1; rw [HP.out] at c1)
   go_ret2
   exact ⟨rfl,HSame.out _ HTt.out⟩
  ·by_cases hk:e.kind=3
   ·obtain ⟨hp1,q,hq,hq0⟩:=hE.into hk
    have e1:wrE S L n s most=pWrE q s:=by unfold wrE; rw [hx]; show (if e.prot=1 then 13 else if e.kind=3 then _ else _)=_; rw [if_neg hp,if_pos hk,hq]; rfl
    have e2:wrS S L n s most=pipeS S e.pid (pWrQ q s):=by unfold wrS; rw [hx]; show (if e.prot=1 then S else if e.kind=3 then _ else _)=_; rw [if_neg hp,if_pos hk,hq]; rfl
    have e3:wrK S L n s most=pWr q s:=by unfold wrK; rw [hx]; show (if e.prot=1 then _ else if e.kind=3 then _ else _)=_; rw [if_neg hp,if_pos hk,hq]; rfl
    rw [e1,e2,e3]
    have HP:=hid hp1
    have HK:=hid hk
    have HQ:=hid hq
    obtain ⟨hb1,hb2,hb3⟩:=hS.pipes e.pid q hq
    have HB1:=hid hb1
    have HB2:=hid hb2
    clear hin hS ht hok hn hx e1 e2 e3 he hE hp hk hp1 hq hb1 hb2 hb3
    go_enter Tryz.func36,Tryz.ntmps36
    go_wp2_with (first | (go_at_call 43; refine HG.out.mono ?_; rintro e w' ⟨rfl,t⟩; have HTt:=hid t; clear t; have HI1:=hid (HI.out.turned HTt.out (fun _ _ => id)); have c1:=(HI1.out.en _ _ HE.out).c1; have c0:=(HI1.out.en _ _ HE.out).c0; have c3:=pipe_ptr (HI1.out.en _ _ HE.out) (by rw [HK.out]; decide); rw [HP.out] at c1; rw [HK.out] at c0) | (go_at_call 69; refine (pwrite_is (HI1.out.pp _ _ HQ.out) s hs HB1.out HB2.out).mono ?_; rintro e w2 ⟨rfl,hp2,t2⟩; have HP2:=hid hp2; have HT2:=hid t2; clear hp2 t2))
    go_ret2
    exact ⟨rfl,.same (HI1.out.pipe HQ.out HP2.out HT2.out) ((HT.out.turned HTt.out id).turned HT2.out (fun x => HN.out (x ▸ (show C _≠_ from by rw [HI1.out.cp e.pid q HQ.out]; simp)))) ((no_turn HTt.out).trans (HT2.out.mono (fun j _ hj => .inl (hj ▸ (show C _≠_ from by rw [HI1.out.cp e.pid q HQ.out]; simp))))) HN.out⟩
   ·have hk1:e.kind=1:=by rcases hE.2 with h1 | h1 | h1 <;> omega
    have hp13:e.prot=2∨e.prot=3:=by rcases hE.2 with h1 | h1 | h1 <;> omega
    obtain ⟨⟨hr1,hr2,ha1,ha2⟩,_⟩:=hE
    have e1:wrE S L n s most=if limB e s most=true then 4 else writeE S.T e.node e.at' s:=by unfold wrE; rw [hx]; show (if e.prot=1 then 13 else if e.kind=3 then _ else _)=_; rw [if_neg hp,if_neg hk]
    have e2:wrS S L n s most=if limB e s most=true then S else if writeE S.T e.node e.at' s=0 then putS (treeS S (writeT S.T e.node e.at' s)) k { e with at':=e.at'+s.size } else S:=by unfold wrS; rw [hx]; show (if e.prot=1 then S else if e.kind=3 then _ else _)=_; rw [if_neg hp,if_neg hk]
    have e3:wrK S L n s most=if limB e s most=true then 0 else if writeE S.T e.node e.at' s=0 then (s.size:Int) else 0:=by unfold wrK; rw [hx]; show (if e.prot=1 then _ else if e.kind=3 then _ else _)=_; rw [if_neg hp,if_neg hk]
    obtain ⟨E,hEe⟩:∃ E,wrE S L n s most=E:=⟨_,rfl⟩
    obtain ⟨S2,hS2⟩:∃ S2,wrS S L n s most=S2:=⟨_,rfl⟩
    obtain ⟨K,hKe⟩:∃ K,wrK S L n s most=K:=⟨_,rfl⟩
    obtain ⟨lim,hlim⟩:∃ lim,limB e s most=lim:=⟨_,rfl⟩
    rw [hEe,hS2,hKe]
    rw [hEe,hlim] at e1
    rw [hS2,hlim] at e2
    rw [hKe,hlim] at e3
    have E1:=hid e1
    have E2:=hid e2
    have E3:=hid e3
    have HLim:=hid hlim
    have HK:=hid hk1
    have hw:IntKind.i64.wrap (e.at'+(s.size:Int))=e.at'+(s.size:Int):=IntWalk.i64_in _ (by omega)
    have HP:Hid (e.prot=2∨e.prot=3):=hid hp13
    clear hin hS ht hok hn hx e1 e2 e3 he hp hk hk1 hp13 hEe hS2 hKe hlim
    go_enter Tryz.func36,Tryz.ntmps36
    go_upto_region 4 with (go_at_call 43; refine HG.out.mono ?_; rintro e w' ⟨rfl,t⟩; have HTt:=hid t; clear t; have HI1:=hid (HI.out.turned HTt.out (fun _ _ => id)))
    go_cut [26] (fun v wx => v=.bool false∧wx=w')
    case first =>
     as_aux_lemma =>
      have c1:=(HI1.out.en _ _ HE.out).c1
      rcases HP.out with hp | hp
      all_goals rw [hp] at c1
      all_goals go_wp2_with fail
      all_goals go_meet
      all_goals exact ⟨rfl,rfl⟩
    case rest =>
     obtain ⟨rfl,rfl⟩:=hcut
     have c0:=(HI1.out.en _ _ HE.out).c0
     rw [HK.out] at c0
     go_upto_region 8 with fail
     go_cut [48] (fun v wx => v=.bool lim∧wx=wc)
     case first =>
      as_aux_lemma =>
       have c4:=(HI1.out.en _ _ HE.out).c4
       by_cases h1:s.size=0
       ·have hb:s.toList.isEmpty=true:=by rw [toList_empty]; exact decide_eq_true h1
        have hl:lim=false:=by rw [← HLim.out]; unfold limB; exact decide_eq_false (fun h => h.1 h1)
        have HL:=hid hl
        clear h1 hl
        go_wp2_with fail
        go_meet
        exact ⟨by rw [HL.out],rfl⟩
       ·have hb:s.toList.isEmpty=false:=by rw [toList_empty]; exact decide_eq_false h1
        by_cases h2:most < s.size
        ·have hl:lim=true:=by rw [← HLim.out]; unfold limB; exact decide_eq_true ⟨h1,.inl h2⟩
         have HL:=hid hl
         clear h1 hl
         go_wp2_with fail
         go_meet
         exact ⟨by rw [HL.out],rfl⟩
        ·have hw2:IntKind.i64.wrap (most - (s.size:Int))=most - (s.size:Int):=IntWalk.i64_in _ (by omega)
         have hl:lim=decide (most - s.size < e.at'):=by rw [← HLim.out]; unfold limB; exact decide_eq_decide.2 ⟨fun h => h.2.resolve_left h2,fun h => ⟨h1,.inr h⟩⟩
         have HL:=hid hl
         have h3:¬ (most:Int) < s.size:=h2
         clear h1 hl
         go_wp2_with fail
         go_meet
         exact ⟨by rw [HL.out],rfl⟩
     case rest =>
      obtain ⟨rfl,rfl⟩:=hcut
      cases lim with
      | true =>
       have F1:=hid (E1.out.trans (if_pos rfl))
       have F2:=hid (E2.out.trans (if_pos rfl))
       have F3:=hid (E3.out.trans (if_pos rfl))
       clear E1 E2 E3
       go_wp2_with fail
       go_ret2
       rw [F1.out,F2.out,F3.out]
       exact ⟨rfl,HSame.out _ HTt.out⟩
      | false =>
       have c2:=(HI1.out.en _ _ HE.out).c2
       have c4:=(HI1.out.en _ _ HE.out).c4
       have h0:=HI1.out.h0
       go_upto_region 10 with fail
       have f1:=E1.out.trans (if_neg (by decide))
       have f2:=E2.out.trans (if_neg (by decide))
       have f3:=E3.out.trans (if_neg (by decide))
       have HC:=hid (write_is (HI1.out.turned (X:=fun _ => False) (Turn.refl _ _).drew (fun _ _ => id)).tr e.node e.at' s (by omega))
       by_cases hz:writeE S.T e.node e.at' s=0
       ·rw [hz] at f1
        rw [hz,if_pos rfl] at f2 f3
        rw [hz,show TErr 0=Value.nilIface from if_pos rfl] at HC
        have F1:=hid f1
        have F2:=hid f2
        have F3:=hid f3
        clear f1 f2 f3 hz E1 E2 E3
        go_region_with (go_at_call 70; refine HC.out.mono ?_; rintro e w2 ⟨rfl,h2⟩; have HW2:=hid h2; clear h2)
        all_goals (
         obtain ⟨Ft',C',hi2,hC2,ht2⟩:=(HI1.out.turned (X:=fun _ => False) (Turn.refl _ _).drew (fun _ _ => id)).tree HW2.out
         have HI2:=hid hi2
         have HC2:=hid hC2
         have HT2:=hid ht2
         clear hi2 hC2 ht2
         have he2:=HI2.out.en _ _ HE.out
         have d4:=he2.c4
         have z4:=he2.fz 4
         clear he2)
        all_goals go_wp2_with fail
        all_goals go_ret2
        all_goals rw [F1.out,F2.out,F3.out]
        all_goals (
         have htab:C' tab=C tab:=(HC2.out tab).resolve_right (by have h1:tab < wc.drew.heap.size:=(HT.out.turned HTt.out id).lt; omega)
         have hn2:¬ CFoot C' tab:=fun hx => HN.out (by have hx:C' tab≠_:=hx; rw [htab] at hx; exact hx)
         have hB2:CFoot C (B k):=HI1.out.foot HE.out
         have hB3:CFoot C' (B k):=HI2.out.foot HE.out
         refine ⟨rfl,.of (HI2.out.put HE.out ((HI2.out.en _ _ HE.out).setAt _) (turn_own _ _ _ _)) ((((HT.out.turned HTt.out id).turned (S:=fun _ => False) (Turn.refl _ _).drew id).turned HT2.out HN.out).turned (turn_own (B k) _ _ _) (fun e => hn2 (e ▸ hB3))) (((no_turn HTt.out).drew.trans (HT2.out.mono (fun j _ hj => .inl hj))).trans (turn_ent C tab hB2 _ _ _)) (fun j hj => ?_) hn2⟩
         rcases HC2.out j with h1 | h1
         ·exact .inl (by have hj:C' j≠_:=hj; rw [h1] at hj; exact hj)
         ·exact .inr (Nat.le_trans HTt.out.size h1))
       ·rw [if_neg hz] at f2 f3
        have hte:=TErr_of hz
        have hwt:writeT S.T e.node e.at' s=S.T:=if_neg (fun h => hz h.1)
        rw [hte,hwt] at HC
        have F1:=hid f1
        have F2:=hid f2
        have F3:=hid f3
        have HZ:=hid hte
        clear f1 f2 f3 hz E1 E2 E3 hte hwt
        go_region_with (go_at_call 70; refine HC.out.mono ?_; rintro e w2 ⟨rfl,h2⟩; have HW2:=hid h2; clear h2)
        all_goals go_wp2_with fail
        all_goals go_ret2
        all_goals rw [F1.out,F2.out,F3.out,HZ.out]
        all_goals (
         obtain ⟨Ft',C',hi2,hC2,ht2⟩:=(HI1.out.turned (X:=fun _ => False) (Turn.refl _ _).drew (fun _ _ => id)).tree HW2.out
         have htab:C' tab=C tab:=(hC2 tab).resolve_right (by have h1:tab < wc.drew.heap.size:=(HT.out.turned HTt.out id).lt; omega)
         have hn2:¬ CFoot C' tab:=fun hx => HN.out (by have hx:C' tab≠_:=hx; rw [htab] at hx; exact hx)
         refine ⟨rfl,.of hi2 (((HT.out.turned HTt.out id).turned (S:=fun _ => False) (Turn.refl _ _).drew id).turned ht2 HN.out) ((no_turn HTt.out).drew.trans (ht2.mono (fun j _ hj => .inl hj))) (fun j hj => ?_) hn2⟩
         rcases hC2 j with h1 | h1
         ·exact .inl (by have hj:C' j≠_:=hj; rw [h1] at hj; exact hj)
         ·exact .inr (Nat.le_trans HTt.out.size h1))
end
theorem idx_any (L:PTab) (k:Nat) (hk:k < 8) (w:World):(Instr.index 39 (.agg #[.int .i64 (L 0).1,.bool (L 0).2,.int .i64 (L 1).1,.bool (L 1).2,.int .i64 (L 2).1,.bool (L 2).2,.int .i64 (L 3).1,.bool (L 3).2,.int .i64 (L 4).1,.bool (L 4).2,.int .i64 (L 5).1,.bool (L 5).2,.int .i64 (L 6).1,.bool (L 6).2,.int .i64 (L 7).1,.bool (L 7).2]) (.int .i64 k)).run Tryz.prog w=.ok (.agg #[.int .i64 (L k).1,.bool (L k).2]) w:=by
 rcases (show k=0∨k=1∨k=2∨k=3∨k=4∨k=5∨k=6∨k=7 by omega) with rfl | rfl | rfl | rfl | rfl | rfl | rfl | rfl
 ·exact idx0 _ _ _ _ _ _ _ _ _ _ _ _ _ _ _ _ w
 ·exact idx1 _ _ _ _ _ _ _ _ _ _ _ _ _ _ _ _ w
 ·exact idx2 _ _ _ _ _ _ _ _ _ _ _ _ _ _ _ _ w
 ·exact idx3 _ _ _ _ _ _ _ _ _ _ _ _ _ _ _ _ w
 ·exact idx4 _ _ _ _ _ _ _ _ _ _ _ _ _ _ _ _ w
 ·exact idx5 _ _ _ _ _ _ _ _ _ _ _ _ _ _ _ _ w
 ·exact idx6 _ _ _ _ _ _ _ _ _ _ _ _ _ _ _ _ w
 ·exact idx7 _ _ _ _ _ _ _ _ _ _ _ _ _ _ _ _ w
def bumpS (S:PS) (k:Int):PS:=(mget S.es k).elim S fun e => putS S k { e with refs:=e.refs+1 }
def forkFrom (L:PTab):Nat→Nat→PS→PS
 | 0,_,S => S
 | f+1,i,S => forkFrom L f (i+1) (if 0 < (L i).1 then bumpS S ((L i).1 - 1) else S)
def forkS (S:PS) (L:PTab):PS:=forkFrom L 8 0 S
def tabObj (L:PTab):Obj:=.cells #[.int .i64 (L 0).1,.bool (L 0).2,.int .i64 (L 1).1,.bool (L 1).2,.int .i64 (L 2).1,.bool (L 2).2,.int .i64 (L 3).1,.bool (L 3).2,.int .i64 (L 4).1,.bool (L 4).2,.int .i64 (L 5).1,.bool (L 5).2,.int .i64 (L 6).1,.bool (L 6).2,.int .i64 (L 7).1,.bool (L 7).2] 41
theorem tabObj_at (w:World) (L:PTab) (hp:∀ i,i < 8→0≤(L i).1∧(L i).1≤40):TabIs (w.alloc (tabObj L)) w.heap.size L:=by
 refine ⟨fun i hi => ?_,fun i hi => ?_,fun i => World.frozen?_alloc_new _ _ _ _,hp⟩
 ·rcases (show i=0∨i=1∨i=2∨i=3∨i=4∨i=5∨i=6∨i=7 by omega) with rfl | rfl | rfl | rfl | rfl | rfl | rfl | rfl
  all_goals exact World.cell?_alloc_new _ _ _ _
 ·rcases (show i=0∨i=1∨i=2∨i=3∨i=4∨i=5∨i=6∨i=7 by omega) with rfl | rfl | rfl | rfl | rfl | rfl | rfl | rfl
  all_goals exact World.cell?_alloc_new _ _ _ _
section
variable {w w' w1 w2:World} {fb tb om b tab:Nat} {S S':PS} {B:Int→Nat} {P:Nat→Nat} {Ft F:Nat→Prop} {C:Nat→Nat×Int} {e e':PE} {k n:Int} {L L':PTab}
theorem bumpS_is (he:mget S.es k=some e):bumpS S k=putS S k { e with refs:=e.refs+1 }:=by unfold bumpS; rw [he]; rfl
theorem TabOk.put (h:TabOk S L):TabOk (putS S k e) L:=fun i hi => by
 rcases h i hi with h1 | ⟨f,hf⟩
 ·exact .inl h1
 ·refine .inr ?_
  show ∃ e',mget (mput S.es k e) _=some e'
  rw [mget_mput]
  by_cases e1:(L i).1 - 1=k
  ·exact ⟨e,if_pos e1⟩
  ·exact ⟨f,by rw [if_neg e1]; exact hf⟩
theorem fork_is (h:FilesIs w fb tb S F) (ht:TabIs w tab L) (hok:TabOk S L) (hn:¬ F tab) (hb:∀ k e,mget S.es k=some e→e.refs < 999000) :
  Calls Tryz.prog 9 #[.pointer (some ⟨fb,0,none⟩),.pointer (some ⟨tab,0,none⟩)] w fun e w' => ∃ ub,e=.returned (.pointer (some ⟨ub,0,none⟩))∧w.heap.size≤ub∧TabIs w' ub L∧FilesIs w' fb tb (forkS S L) F∧Turn F w w':=by
 obtain ⟨om,B,P,Ft,C,hin,rfl⟩:=h
 obtain ⟨R,hR⟩:∃ R,forkS S L=R:=⟨_,rfl⟩
 rw [hR]
 have HR:=hid hR
 have HI:=hid hin
 have HT:=hid ht
 have HOk:=hid hok
 have HB:=hid hb
 have e0:=ht.ent 0 (by omega)
 have e1:=ht.ent 1 (by omega)
 have e2:=ht.ent 2 (by omega)
 have e3:=ht.ent 3 (by omega)
 have e4:=ht.ent 4 (by omega)
 have e5:=ht.ent 5 (by omega)
 have e6:=ht.ent 6 (by omega)
 have e7:=ht.ent 7 (by omega)
 have m0:=ht.mark 0 (by omega)
 have m1:=ht.mark 1 (by omega)
 have m2:=ht.mark 2 (by omega)
 have m3:=ht.mark 3 (by omega)
 have m4:=ht.mark 4 (by omega)
 have m5:=ht.mark 5 (by omega)
 have m6:=ht.mark 6 (by omega)
 have m7:=ht.mark 7 (by omega)
 simp only [Nat.zero_mul,Nat.reduceMul,Nat.reduceAdd,Nat.zero_add] at e0 e1 e2 e3 e4 e5 e6 e7 m0 m1 m2 m3 m4 m5 m6 m7
 clear hin ht hok hn hb hR
 go_enter Tryz.func9,Tryz.ntmps9
 go_wp2_with fail
 clear e0 e1 e2 e3 e4 e5 e6 e7 m0 m1 m2 m3 m4 m5 m6 m7
 have HT0:=hid (tabObj_at w L HT.out.pos)
 have HTa:Hid (Turn (fun _ => False) w (w.alloc (tabObj L))):=hid ((Turn.refl _ _).alloc _)
 unfold tabObj at HT0 HTa
 obtain ⟨W,hW⟩:∃ W,w.alloc (.cells #[.int .i64 (L 0).1,.bool (L 0).2,.int .i64 (L 1).1,.bool (L 1).2,.int .i64 (L 2).1,.bool (L 2).2,.int .i64 (L 3).1,.bool (L 3).2,.int .i64 (L 4).1,.bool (L 4).2,.int .i64 (L 5).1,.bool (L 5).2,.int .i64 (L 6).1,.bool (L 6).2,.int .i64 (L 7).1,.bool (L 7).2] 41)=W:=⟨_,rfl⟩
 rw [hW] at HT0 HTa ⊢
 clear hW
 go_loopg [13] 8 (fun gl i wr => ∃ (k:Nat) (Si:PS),k+gl=8∧i=.int .i64 k∧Hid (forkFrom L gl k Si=R)∧Hid (FilesIn wr fb tb om Si B P Ft C)∧Hid (∀ j e,mget Si.es j=some e→e.refs < 999000+k)∧Hid (TabOk Si L)∧Hid (TabIs wr w.heap.size L)∧Hid (Turn (fun j => CFoot C j) w wr))
 case atStart => exact ⟨0,S,by omega,rfl,HR,hid (HI.out.turned HTa.out (fun _ _ => id)),HB,HOk,HT0,hid (no_turn HTa.out)⟩
 case round =>
  obtain ⟨k,Si,hk,rfl,hF,hI,hB,hO,hT,ht⟩:=hrel
  clear HR HB HOk HT0 HTa
  by_cases hk8:k < 8
  ·have hk':(k:Int) < 8:=by omega
   obtain ⟨g,rfl⟩:∃ g,gk=g+1:=⟨7 - k,by omega⟩
   have ix:=idx_any L k hk8 wr
   have HF2:Hid (forkFrom L g (k+1) (if 0 < (L k).1 then bumpS Si ((L k).1 - 1) else Si)=R):=hF
   have HA:Hid (Turn (fun _ => False) wr (wr.alloc (.cells #[.int .i64 (L k).1,.bool (L k).2] 38))):=hid ((Turn.refl _ _).alloc _)
   clear hF
   by_cases hz:0 < (L k).1
   ·rw [if_pos hz] at HF2
    obtain ⟨e,he⟩:=(hO.out k hk8).resolve_left (by omega)
    have hps:=HT.out.pos k hk8
    have hw:IntKind.i64.wrap ((L k).1 - 1)=(L k).1 - 1:=IntWalk.i64_in _ (by omega)
    have hrf:=hB.out _ e he
    have hrw:IntKind.i64.wrap ((e.refs:Int)+1)=(e.refs:Int)+1:=IntWalk.i64_in _ (by omega)
    rw [bumpS_is he] at HF2
    have HI4:=hid (hI.out.turned HA.out (fun _ _ => id))
    have lk:=(HI4.out.turned (X:=fun _ => False) (Turn.refl _ _).drew (fun _ _ => id)).look he
    have c5:=(HI4.out.en _ _ he).c5
    have z5:=(HI4.out.en _ _ he).fz 5
    have h1:=HI4.out.h1
    have HE:=hid he
    have hne:B ((L k).1 - 1)≠wr.heap.size:=by have:=(hI.out.en _ _ he).lt; omega
    clear he hps
    go_wp2_with fail
    go_region
    all_goals go_wp2_with fail
    all_goals go_roundg g
    all_goals first
     | (case measure => omega)
     | skip
    case rel =>
     have hB0:CFoot C (B ((L k).1 - 1)):=HI4.out.foot HE.out
     have hlow:=HI.out.low _ hB0
     refine ⟨k+1,_,by omega,by go_num,HF2,hid ((HI4.out.put HE.out ((HI4.out.en _ _ HE.out).setRefs (z:=(e.refs:Int)+1) (c:=e.refs+1) (by omega)) (turn_own _ _ _ _)).turned (X:=fun _ => False) (Turn.refl _ _).drew (fun _ _ => id)),hid (fun j f hf => ?_),hid hO.out.put,hid (((hT.out.turned HA.out id).turned (turn_own _ _ _ _) (fun x => by have x:w.heap.size=_:=x; omega)).turned (S:=fun _ => False) (Turn.refl _ _).drew id),hid (((ht.out.trans (no_turn HA.out)).trans ((Turn.refl (fun j => CFoot C j) _).setCell _ _ (fun _ => hB0))).drew)⟩
     have hf:mget (mput Si.es _ _) j=some f:=hf
     rw [mget_mput] at hf
     split at hf
     ·cases hf
      show e.refs+1 < _
      omega
     ·have:=hB.out j f hf; omega
   ·rw [if_neg hz] at HF2
    go_wp2_with fail
    go_roundg g
    case measure => omega
    case rel => exact ⟨k+1,Si,by omega,by go_num,HF2,hid (hI.out.turned HA.out (fun _ _ => id)),hid (fun j e he => by have:=hB.out j e he; omega),hO,hid (hT.out.turned HA.out id),hid (ht.out.trans (no_turn HA.out))⟩
  ·have hk':¬ (k:Int) < 8:=by omega
   obtain rfl:k=8:=by omega
   obtain rfl:gk=0:=by omega
   have HF:Hid (Si=R):=hF
   clear hF
   go_wp2_with fail
   go_ret
   refine ⟨_,rfl,Nat.le_refl _,hT.out,?_,ht.out⟩
   rw [← HF.out]
   exact hI.out.is
end
def endP (q:PP) (kind:Int):PP:=if kind=2 then { q with e0:=q.e0 - 1 } else { q with e1:=q.e1 - 1 }
def goneS (S:PS) (e:PE):PS:=if e.kind=1 then treeS S (dropT S.T e.node) else (S.ps[e.pid]?).elim S fun q => pipeS S e.pid (endP q e.kind)
def closeS (S:PS) (L:PTab) (n:Int):PS:=(entL S L n).elim S fun x => if 1 < x.2.refs then putS S x.1 { x.2 with refs:=x.2.refs - 1 } else goneS (delS S x.1) x.2
def closeE (S:PS) (L:PTab) (n:Int):Int:=(entL S L n).elim 7 fun x => if 1 < x.2.refs then 0 else if x.2.kind=1 then dropE S.T x.2.node else 0
def closeL (S:PS) (L:PTab) (n:Int):PTab:=(entL S L n).elim L fun _ => tset L n.toNat (0,false)
section
variable {w w' w1 w2:World} {fb tb om b tab:Nat} {S S':PS} {B:Int→Nat} {P:Nat→Nat} {Ft F:Nat→Prop} {C:Nat→Nat×Int} {e e':PE} {k n:Int} {L L':PTab}
theorem FilesIn.still (h:FilesIn w fb tb om S B P Ft C) (t:Turn (fun _ => False) w w'):FilesIn w' fb tb om S B P Ft C:=h.turned t (fun _ _ => id)
theorem mdel_mupd (m:List (Int×PE)) (k:Int) (v:PE):mdel (mupd m k v) k=mdel m k:=by
 induction m with
 | nil => rfl
 | cons t l ih =>
  show List.filter _ ((if t.1=k then (t.1,v) else t) :: mupd l k v)=List.filter _ (t :: l)
  rw [List.filter_cons,List.filter_cons]
  by_cases h:t.1=k
  ·rw [if_pos h]; simp only [h,ne_eq,not_true_eq_false,decide_false,Bool.false_eq_true,if_false]; exact ih
  ·rw [if_neg h]; simp only [h,ne_eq,not_false_eq_true,decide_true,if_true]; exact congrArg _ ih
theorem del_put (he:mget S.es k=some e):delS (putS S k e') k=delS S k:=by
 show PS.mk _ _ _=PS.mk _ _ _
 congr 1
 show mdel (mput S.es k e') k=mdel S.es k
 unfold mput
 rw [he]
 exact mdel_mupd _ _ _
theorem close_is (h:FilesIs w fb tb S F) (hS:DOk S) (ht:TabIs w tab L) (hok:TabOk S L) (hn:¬ F tab) (n:Int) :
  Calls Tryz.prog 32 #[.pointer (some ⟨fb,0,none⟩),.pointer (some ⟨tab,0,none⟩),.int .i64 n] w fun e w' => e=.returned (TErr (closeE S L n))∧FilesTo fb tb tab F w w' (closeS S L n) (closeL S L n):=by
 obtain ⟨om,B,P,Ft,C,hin,rfl⟩:=h
 cases hx:entL S L n with
 | none =>
  have e1:closeE S L n=7:=by unfold closeE; rw [hx]; rfl
  have e2:closeS S L n=S:=by unfold closeS; rw [hx]; rfl
  have e4:closeL S L n=L:=by unfold closeL; rw [hx]; rfl
  rw [e1,e2,e4]
  have HG:=hid (get_none hin ht hok hx)
  have HK:Hid (∀ w',Turn (fun _ => False) w w'→FilesTo fb tb tab (CFoot C) w w' S L):=hid (fun w' t => .same (hin.turned t (fun _ _ => id)) (ht.turned t id) (no_turn t) hn)
  clear hin ht hok hn hx e1 e2 e4
  go_enter Tryz.func32,Tryz.ntmps32
  go_wp2_with (go_at_call 43; refine HG.out.mono ?_; rintro e w' ⟨rfl,t⟩)
  go_ret
  exact ⟨rfl,HK.out _ t⟩
 | some x =>
  obtain ⟨k,e⟩:=x
  have hs:=(entL_some hx).1
  have he:=(entL_some hx).2
  obtain ⟨hn0,hn8,hnz,hnk⟩:=slotL_some hs
  have e4:closeL S L n=tset L n.toNat (0,false):=by unfold closeL; rw [hx]; rfl
  rw [e4]
  have hE:=hS.ent k e he
  obtain ⟨⟨hr1,hr2,_,_⟩,hkind⟩:=hE
  have hj:n.toNat < 8:=by omega
  have hp:=ht.pos n.toNat hj
  have hw:IntKind.i64.wrap ((L n.toNat).1 - 1)=(L n.toNat).1 - 1:=IntWalk.i64_in _ (by omega)
  have hrw:IntKind.i64.wrap ((e.refs:Int) - 1)=(e.refs:Int) - 1:=IntWalk.i64_in _ (by omega)
  have HG:=hid (get_some hin ht hok hx)
  have HI:=hid hin
  have HT:=hid ht
  have HN:=hid hn
  have HE:=hid he
  have HNK:=hid hnk
  have HB:CFoot C (B k):=hin.foot he
  have HBt:Hid (tab≠B k):=hid (fun e => hn (e ▸ HB))
  have hoz:n.toNat=n:=by omega
  by_cases hr:1 < e.refs
  ·have e1:closeE S L n=0:=by unfold closeE; rw [hx]; exact if_pos hr
   have e2:closeS S L n=putS S k { e with refs:=e.refs - 1 }:=by unfold closeS; rw [hx]; exact if_pos hr
   rw [e1,e2]
   clear hin ht hok hn hx e1 e2 e4 he hs hnz hnk hS hkind hp
   go_enter Tryz.func32,Tryz.ntmps32
   go_wp2_with (go_at_call 43; refine HG.out.mono ?_; rintro e w' ⟨rfl,t⟩; have HTt:=hid t; clear t; have c0:=(HT.out.turned HTt.out id).ent n.toNat hj; have c1:=(HT.out.turned HTt.out id).mark n.toNat hj; have z0:=(HT.out.turned HTt.out id).fz (n.toNat * 2); have z1:=(HT.out.turned HTt.out id).fz (n.toNat * 2+1); have HD:=hid (((HI.out.still HTt.out).en k _ HE.out).turned (turn_tab_own tab w' (n.toNat * 2) (n.toNat * 2+1) (.int .i64 0) (.bool false)) (fun x => HBt.out x.symm)); have c5:=HD.out.c5; have z5:=HD.out.fz 5)
   go_ret
   have hi:=(HI.out.still HTt.out).beside HN.out (turn_tab_own tab w' (n.toNat * 2) (n.toNat * 2+1) (.int .i64 0) (.bool false))
   have ht2:=(HT.out.turned HTt.out id).set hj 0 false (by omega)
   exact ⟨rfl,.same (hi.put HE.out (HD.out.setRefs (c:=e.refs - 1) (by omega)) (turn_own _ _ _ _)) (ht2.turned (turn_own (B k) _ _ _) (fun x => HBt.out x)) (((no_turn HTt.out).trans (turn_tab C tab _ _ _ _ _)).trans (turn_ent C tab HB _ _ _)) HN.out⟩
  ·have hr':e.refs=1:=by omega
   have e1:closeE S L n=if e.kind=1 then dropE S.T e.node else 0:=by unfold closeE; rw [hx]; exact if_neg hr
   have e2:closeS S L n=goneS (delS S k) e:=by unfold closeS; rw [hx]; exact if_neg hr
   obtain ⟨Z,hZ⟩:∃ Z,closeE S L n=Z:=⟨_,rfl⟩
   obtain ⟨S2,hS2⟩:∃ S2,closeS S L n=S2:=⟨_,rfl⟩
   rw [hZ,hS2]
   have HZ:=hid (hZ.symm.trans e1)
   have HS2:=hid (hS2.symm.trans e2)
   clear hZ hS2
   have HR:=hid hr'
   have HBd:Hid (∀ p,mget S.T e.node=some p→p.held < 1000000):=hid (fun p hp => by rw [hS.held _ p hp]; have h1:=hS.size; have h2:heldE e.node S.es≤S.es.length:=List.length_filter_le _ _; omega)
   clear hin ht hok hn hx e1 e2 e4 he hs hnz hnk hS hp hr hr' hrw hr1 hr2
   go_enter Tryz.func32,Tryz.ntmps32
   go_upto_region 9 with (go_at_call 43; refine HG.out.mono ?_; rintro e w' ⟨rfl,t⟩; have HTt:=hid t; clear t; have c0:=(HT.out.turned HTt.out id).ent n.toNat hj; have c1:=(HT.out.turned HTt.out id).mark n.toNat hj; have z0:=(HT.out.turned HTt.out id).fz (n.toNat * 2); have z1:=(HT.out.turned HTt.out id).fz (n.toNat * 2+1); have HD:=hid (((HI.out.still HTt.out).en k _ HE.out).turned (turn_tab_own tab w' (n.toNat * 2) (n.toNat * 2+1) (.int .i64 0) (.bool false)) (fun x => HBt.out x.symm)); have c5:=HD.out.c5; have z5:=HD.out.fz 5; rw [HR.out] at c5)
   have HI2:=hid (((HI.out.still HTt.out).beside HN.out (turn_tab_own tab w' (n.toNat * 2) (n.toNat * 2+1) (.int .i64 0) (.bool false))).put HE.out (HD.out.setRefs (z:=0) (c:=0) rfl) (turn_own (B k) _ 5 (.int .i64 0)))
   have HT2:=hid (((HT.out.turned HTt.out id).set hj 0 false (by omega)).turned (turn_own (B k) _ 5 (.int .i64 0)) (fun x => HBt.out x))
   have HTu:=hid (((no_turn (X:=fun j => CFoot C j∨j=tab) HTt.out).trans (turn_tab C tab w' (n.toNat * 2) (n.toNat * 2+1) (.int .i64 0) (.bool false))).trans (turn_ent C tab HB _ 5 (.int .i64 0)))
   have HD2:=hid (HD.out.setRefs (z:=0) (c:=0) rfl)
   clear c0 c1 z0 z1 c5 z5 HD
   have hh:=HI2.out.h1
   go_upto_region 10 with (at_delete; refine wpList_mapdel rfl _ _ 78 3 88 rfl Tryz.underlying78 Tryz.underlying3 keyI om rfl HI2.out.mp ((L n.toNat).1 - 1) rfl ?_; intro w4 hm4 t4; rw [HNK.out] at hm4; have hi4:=HI2.out.del hm4 t4; rw [del_put HE.out] at hi4; have HI4:=hid hi4; have HT4:=hid (HT2.out.turned t4 (fun x => HN.out (x ▸ (show C om≠_ from by rw [HI.out.cm]; simp)))); have HTu4:=hid (HTu.out.trans (t4.mono (fun j _ hj => .inl (hj ▸ (show C om≠_ from by rw [HI.out.cm]; simp))))); have HD4:=hid (HD2.out.turned t4 (mark_ne (HI.out.ce _ _ HE.out) HI.out.cm (by simp))); clear hm4 t4 hi4 hh)
   clear HI2 HT2 HTu HD2
   rcases hkind with ⟨hk,_⟩ | ⟨hk,_,q,hq,hq1⟩ | ⟨hk,_,q,hq,hq1⟩
   ·have c0:w4.cell? ⟨B k,0,none⟩=some (.int .i64 1):=by rw [← hk]; exact HD4.out.c0
    have c2:w4.cell? ⟨B k,2,none⟩=some (.int .i64 e.node):=HD4.out.c2
    have h0:=HI4.out.h0
    have e1:(if e.kind=1 then dropE S.T e.node else 0)=dropE S.T e.node:=if_pos hk
    have e2:goneS (delS S k) e=treeS (delS S k) (dropT S.T e.node):=if_pos hk
    have E1:=hid (HZ.out.trans e1)
    have E2:=hid (HS2.out.trans e2)
    clear HZ HS2
    have HC:=hid (drop_is (HI4.out.still (Turn.refl _ _).drew).tr e.node HBd.out)
    clear hk e1 e2
    go_upto_region 11 with fail
    go_region_with (go_at_call 62; refine HC.out.mono ?_; rintro e w5 ⟨rfl,h5⟩; have H5:=hid h5; clear h5)
    all_goals go_wp2_with fail
    all_goals go_ret
    all_goals rw [E1.out,E2.out]
    all_goals (
     obtain ⟨Ft',C',hi5,hC5,ht5⟩:=(HI4.out.still (Turn.refl _ _).drew).tree H5.out
     have hlt:tab < w4.drew.heap.size:=HT4.out.lt
     have htab:C' tab=C tab:=(hC5 tab).resolve_right (by omega)
     refine ⟨rfl,.of hi5 ((HT4.out.turned (S:=fun _ => False) (Turn.refl _ _).drew id).turned ht5 HN.out) (HTu4.out.drew.trans (ht5.mono (fun j _ hj => .inl hj))) (fun j hj => ?_) (fun hx => HN.out (by have hx:C' tab≠_:=hx; rw [htab] at hx; exact hx))⟩
     rcases hC5 j with h1 | h1
     ·exact .inl (by have hj:C' j≠_:=hj; rw [h1] at hj; exact hj)
     ·exact .inr (Nat.le_trans HTu4.out.size h1))
   ·have c0:w4.cell? ⟨B k,0,none⟩=some (.int .i64 2):=by rw [← hk]; exact HD4.out.c0
    have c3:w4.cell? ⟨B k,3,none⟩=some (.pointer (some ⟨P e.pid,0,none⟩)):=by
     have h1:=HD4.out.c3
     have h2:pipeV P { e with refs:=0 }=ptrV (P e.pid):=if_neg (by show ¬ e.kind=1; rw [hk]; decide)
     rw [h2] at h1; exact h1
    have HQ:Hid (S.ps[e.pid]?=some q):=hid hq
    have e1:(if e.kind=1 then dropE S.T e.node else 0)=0:=if_neg (by rw [hk]; decide)
    have e2:goneS (delS S k) e=pipeS (delS S k) e.pid { q with e0:=q.e0 - 1 }:=by
     have h1:goneS (delS S k) e=(S.ps[e.pid]?).elim (delS S k) fun q => pipeS (delS S k) e.pid (endP q e.kind):=if_neg (by rw [hk]; decide)
     rw [h1,hq]
     show pipeS _ _ (endP q e.kind)=_
     unfold endP
     rw [hk]
     rfl
    have E1:=hid (HZ.out.trans e1)
    have E2:=hid (HS2.out.trans e2)
    clear HZ HS2
    have HPp:=hid ((HI4.out.still (Turn.refl _ _).drew).pp e.pid q hq)
    have HC:=hid (close2 (b:=q.b) HPp.out (by omega) (by omega))
    clear hk hq hq1 e1 e2
    go_upto_region 12 with fail
    go_region_with (go_at_call 63; refine HC.out.mono ?_; rintro e w5 ⟨rfl,hp5,t5⟩; have HP5:=hid hp5; have HT5:=hid t5; clear hp5 t5)
    all_goals go_wp2_with fail
    all_goals go_ret
    all_goals rw [E1.out,E2.out]
    all_goals exact ⟨rfl,.same ((HI4.out.still (Turn.refl _ _).drew).pipe HQ.out (q':={ q with e0:=q.e0 - 1 }) HP5.out HT5.out) ((HT4.out.turned (S:=fun _ => False) (Turn.refl _ _).drew id).turned HT5.out (fun x => HN.out (x ▸ (show C _≠_ from by rw [HI4.out.cp e.pid q HQ.out]; simp)))) (HTu4.out.drew.trans (HT5.out.mono (fun j _ hj => .inl (hj ▸ (show C _≠_ from by rw [HI4.out.cp e.pid q HQ.out]; simp))))) HN.out⟩
   ·have c0:w4.cell? ⟨B k,0,none⟩=some (.int .i64 3):=by rw [← hk]; exact HD4.out.c0
    have c3:w4.cell? ⟨B k,3,none⟩=some (.pointer (some ⟨P e.pid,0,none⟩)):=by
     have h1:=HD4.out.c3
     have h2:pipeV P { e with refs:=0 }=ptrV (P e.pid):=if_neg (by show ¬ e.kind=1; rw [hk]; decide)
     rw [h2] at h1; exact h1
    have HQ:Hid (S.ps[e.pid]?=some q):=hid hq
    have e1:(if e.kind=1 then dropE S.T e.node else 0)=0:=if_neg (by rw [hk]; decide)
    have e2:goneS (delS S k) e=pipeS (delS S k) e.pid { q with e1:=q.e1 - 1 }:=by
     have h1:goneS (delS S k) e=(S.ps[e.pid]?).elim (delS S k) fun q => pipeS (delS S k) e.pid (endP q e.kind):=if_neg (by rw [hk]; decide)
     rw [h1,hq]
     show pipeS _ _ (endP q e.kind)=_
     unfold endP
     rw [hk]
     rfl
    have E1:=hid (HZ.out.trans e1)
    have E2:=hid (HS2.out.trans e2)
    clear HZ HS2
    have HPp:=hid ((HI4.out.still (Turn.refl _ _).drew).pp e.pid q hq)
    have HC:=hid (close3 (b:=q.b) HPp.out (by omega) (by omega))
    clear hk hq hq1 e1 e2
    go_upto_region 12 with fail
    go_region_with (go_at_call 63; refine HC.out.mono ?_; rintro e w5 ⟨rfl,hp5,t5⟩; have HP5:=hid hp5; have HT5:=hid t5; clear hp5 t5)
    all_goals go_wp2_with fail
    all_goals go_ret
    all_goals rw [E1.out,E2.out]
    all_goals exact ⟨rfl,.same ((HI4.out.still (Turn.refl _ _).drew).pipe HQ.out (q':={ q with e1:=q.e1 - 1 }) HP5.out HT5.out) ((HT4.out.turned (S:=fun _ => False) (Turn.refl _ _).drew id).turned HT5.out (fun x => HN.out (x ▸ (show C _≠_ from by rw [HI4.out.cp e.pid q HQ.out]; simp)))) (HTu4.out.drew.trans (HT5.out.mono (fun j _ hj => .inl (hj ▸ (show C _≠_ from by rw [HI4.out.cp e.pid q HQ.out]; simp))))) HN.out⟩
end
def markL (S:PS) (L:PTab) (n:Int) (c:Bool):PTab:=(entL S L n).elim L fun _ => tset L n.toNat ((L n.toNat).1,c)
section
variable {w w' w1 w2:World} {fb tb om b tab:Nat} {S S':PS} {B:Int→Nat} {P:Nat→Nat} {Ft F:Nat→Prop} {C:Nat→Nat×Int} {e e':PE} {k n:Int} {L L':PTab}
/-! ### Mark -/
theorem TabIs.setMark (h:TabIs w tab L) {i:Nat} (hi:i < 8) (c:Bool):TabIs (w.setCell ⟨tab,i * 2+1,none⟩ (.bool c)) tab (tset L i ((L i).1,c)):=by
 refine ⟨fun j hj => ?_,fun j hj => ?_,fun j => by rw [World.frozen?_setCell]; exact h.fz j,fun j hj => ?_⟩
 ·rw [World.cell?_setCell_other _ _ _ _ (fun e => by simp at e; try omega)]
  show _=some (Value.int IntKind.i64 (if j=i then ((L i).1,c) else L j).1)
  by_cases e:j=i
  ·rw [if_pos e,e]; exact h.ent i hi
  ·rw [if_neg e]; exact h.ent j hj
 ·show _=some (Value.bool (if j=i then ((L i).1,c) else L j).2)
  by_cases e:j=i
  ·subst e
   rw [World.cell?_setCell_same _ _ _ (h.mark j hj),if_pos rfl]
  ·rw [World.cell?_setCell_other _ _ _ _ (fun e2 => by simp at e2; try omega),if_neg e]; exact h.mark j hj
 ·show 0≤(if j=i then ((L i).1,c) else L j).1∧(if j=i then ((L i).1,c) else L j).1≤40
  by_cases e:j=i
  ·rw [if_pos e]; exact h.pos i hi
  ·rw [if_neg e]; exact h.pos j hj
theorem mark_is (h:FilesIs w fb tb S F) (ht:TabIs w tab L) (hok:TabOk S L) (hn:¬ F tab) (n:Int) (c:Bool) :
  Calls Tryz.prog 30 #[.pointer (some ⟨fb,0,none⟩),.pointer (some ⟨tab,0,none⟩),.int .i64 n,.bool c] w fun e w' => e=.returned (TErr (getE L n))∧FilesTo fb tb tab F w w' S (markL S L n c):=by
 obtain ⟨om,B,P,Ft,C,hin,rfl⟩:=h
 cases hx:entL S L n with
 | none =>
  have e1:getE L n=7:=by unfold getE; rw [entL_none hok hx]; rfl
  have e4:markL S L n c=L:=by unfold markL; rw [hx]; rfl
  rw [e1,e4]
  have HG:=hid (get_none hin ht hok hx)
  have HK:Hid (∀ w',Turn (fun _ => False) w w'→FilesTo fb tb tab (CFoot C) w w' S L):=hid (fun w' t => .same (hin.turned t (fun _ _ => id)) (ht.turned t id) (no_turn t) hn)
  clear hin ht hok hn hx e1 e4
  go_enter Tryz.func30,Tryz.ntmps30
  go_wp2_with (go_at_call 43; refine HG.out.mono ?_; rintro e w' ⟨rfl,t⟩)
  go_ret
  exact ⟨rfl,HK.out _ t⟩
 | some x =>
  obtain ⟨k,e⟩:=x
  have hs:=(entL_some hx).1
  obtain ⟨hn0,hn8,hnz,hnk⟩:=slotL_some hs
  have e1:getE L n=0:=by unfold getE; rw [hs]; rfl
  have e4:markL S L n c=tset L n.toNat ((L n.toNat).1,c):=by unfold markL; rw [hx]; rfl
  rw [e1,e4]
  have HG:=hid (get_some hin ht hok hx)
  have HI:=hid hin
  have HT:=hid ht
  have HN:=hid hn
  have hj:n.toNat < 8:=by omega
  have hz:n.toNat=n:=by omega
  clear hin ht hok hn hx e1 e4 hs hnz hnk
  go_enter Tryz.func30,Tryz.ntmps30
  go_wp2_with (go_at_call 43; refine HG.out.mono ?_; rintro e w' ⟨rfl,t⟩; have HTt:=hid t; clear t; have c1:=(HT.out.turned HTt.out id).mark n.toNat hj; have z1:=(HT.out.turned HTt.out id).fz (n.toNat * 2+1))
  go_ret
  exact ⟨rfl,.same ((HI.out.turned HTt.out (fun _ _ => id)).beside HN.out (turn_own tab _ (n.toNat * 2+1) (.bool c))) ((HT.out.turned HTt.out id).setMark hj c) ((no_turn HTt.out).trans ((Turn.refl _ _).setCell _ _ (fun _ => .inr rfl))) HN.out⟩
end
section
variable {w w':World} {b:Nat} {L:PTab}
theorem used_is (h:TabIs w b L):Calls Tryz.prog 12 #[.pointer (some ⟨b,0,none⟩)] w fun e w' => e=.returned (.int .i64 (usedL L))∧Turn (fun _ => False) w w':=by
 have H:=hid h
 have e0:=h.ent 0 (by omega)
 have e1:=h.ent 1 (by omega)
 have e2:=h.ent 2 (by omega)
 have e3:=h.ent 3 (by omega)
 have e4:=h.ent 4 (by omega)
 have e5:=h.ent 5 (by omega)
 have e6:=h.ent 6 (by omega)
 have e7:=h.ent 7 (by omega)
 have m0:=h.mark 0 (by omega)
 have m1:=h.mark 1 (by omega)
 have m2:=h.mark 2 (by omega)
 have m3:=h.mark 3 (by omega)
 have m4:=h.mark 4 (by omega)
 have m5:=h.mark 5 (by omega)
 have m6:=h.mark 6 (by omega)
 have m7:=h.mark 7 (by omega)
 simp only [Nat.zero_mul,Nat.reduceMul,Nat.reduceAdd,Nat.zero_add] at e0 e1 e2 e3 e4 e5 e6 e7 m0 m1 m2 m3 m4 m5 m6 m7
 clear h
 go_enter Tryz.func12,Tryz.ntmps12
 obtain ⟨R,hR⟩:∃ R,usedL L=R:=⟨_,rfl⟩
 rw [hR]
 have HR:=hid hR
 clear hR
 go_wp2_with fail
 go_loopg [3,10] 8 (fun gl n i wr => ∃ k m:Nat,k+gl=8∧i=.int .i64 k∧n=.int .i64 m∧Hid (m+usedFrom L gl k=R)∧m≤k∧Hid (Turn (fun _ => False) w wr))
 case atStart => exact ⟨0,0,by omega,rfl,rfl,hid ((Nat.zero_add _).trans HR.out),by omega,hid (Turn.refl _ _)⟩
 case round =>
  obtain ⟨k,m,hk,rfl,rfl,hf,hm,ht⟩:=hrel
  clear e0 e1 e2 e3 e4 e5 e6 e7 m0 m1 m2 m3 m4 m5 m6 m7
  have hgk:gk=8 - k:=by omega
  subst hgk
  rcases (show k=0∨k=1∨k=2∨k=3∨k=4∨k=5∨k=6∨k=7∨k=8 by omega) with rfl | rfl | rfl | rfl | rfl | rfl | rfl | rfl | rfl
  ·have ix:=idx0 (L 0).1 (L 1).1 (L 2).1 (L 3).1 (L 4).1 (L 5).1 (L 6).1 (L 7).1 (L 0).2 (L 1).2 (L 2).2 (L 3).2 (L 4).2 (L 5).2 (L 6).2 (L 7).2 wr
   by_cases hz:0 < (L 0).1
   ·have HF:Hid ((m+1)+usedFrom L (7 - 0) (0+1)=R):=hid (by rw [← hf.out]; show _=m+((if 0 < (L 0).1 then 1 else 0)+_); rw [if_pos hz]; show m+1+_=m+(1+usedFrom L (7 - 0) (0+1)); omega)
    go_wp2_with fail
    go_roundg (7 - 0)
    case measure => omega
    case rel => exact ⟨0+1,m+1,by omega,by go_num,by go_num,HF,by omega,hid (ht.out.alloc _)⟩
   ·have HF:Hid (m+usedFrom L (7 - 0) (0+1)=R):=hid (by rw [← hf.out]; show _=m+((if 0 < (L 0).1 then 1 else 0)+_); rw [if_neg hz]; show m+_=m+(0+usedFrom L (7 - 0) (0+1)); omega)
    go_wp2_with fail
    go_roundg (7 - 0)
    case measure => omega
    case rel => exact ⟨0+1,m,by omega,by go_num,rfl,HF,by omega,hid (ht.out.alloc _)⟩
  ·have ix:=idx1 (L 0).1 (L 1).1 (L 2).1 (L 3).1 (L 4).1 (L 5).1 (L 6).1 (L 7).1 (L 0).2 (L 1).2 (L 2).2 (L 3).2 (L 4).2 (L 5).2 (L 6).2 (L 7).2 wr
   by_cases hz:0 < (L 1).1
   ·have HF:Hid ((m+1)+usedFrom L (7 - 1) (1+1)=R):=hid (by rw [← hf.out]; show _=m+((if 0 < (L 1).1 then 1 else 0)+_); rw [if_pos hz]; show m+1+_=m+(1+usedFrom L (7 - 1) (1+1)); omega)
    go_wp2_with fail
    go_roundg (7 - 1)
    case measure => omega
    case rel => exact ⟨1+1,m+1,by omega,by go_num,by go_num,HF,by omega,hid (ht.out.alloc _)⟩
   ·have HF:Hid (m+usedFrom L (7 - 1) (1+1)=R):=hid (by rw [← hf.out]; show _=m+((if 0 < (L 1).1 then 1 else 0)+_); rw [if_neg hz]; show m+_=m+(0+usedFrom L (7 - 1) (1+1)); omega)
    go_wp2_with fail
    go_roundg (7 - 1)
    case measure => omega
    case rel => exact ⟨1+1,m,by omega,by go_num,rfl,HF,by omega,hid (ht.out.alloc _)⟩
  ·have ix:=idx2 (L 0).1 (L 1).1 (L 2).1 (L 3).1 (L 4).1 (L 5).1 (L 6).1 (L 7).1 (L 0).2 (L 1).2 (L 2).2 (L 3).2 (L 4).2 (L 5).2 (L 6).2 (L 7).2 wr
   by_cases hz:0 < (L 2).1
   ·have HF:Hid ((m+1)+usedFrom L (7 - 2) (2+1)=R):=hid (by rw [← hf.out]; show _=m+((if 0 < (L 2).1 then 1 else 0)+_); rw [if_pos hz]; show m+1+_=m+(1+usedFrom L (7 - 2) (2+1)); omega)
    go_wp2_with fail
    go_roundg (7 - 2)
    case measure => omega
    case rel => exact ⟨2+1,m+1,by omega,by go_num,by go_num,HF,by omega,hid (ht.out.alloc _)⟩
   ·have HF:Hid (m+usedFrom L (7 - 2) (2+1)=R):=hid (by rw [← hf.out]; show _=m+((if 0 < (L 2).1 then 1 else 0)+_); rw [if_neg hz]; show m+_=m+(0+usedFrom L (7 - 2) (2+1)); omega)
    go_wp2_with fail
    go_roundg (7 - 2)
    case measure => omega
    case rel => exact ⟨2+1,m,by omega,by go_num,rfl,HF,by omega,hid (ht.out.alloc _)⟩
  ·have ix:=idx3 (L 0).1 (L 1).1 (L 2).1 (L 3).1 (L 4).1 (L 5).1 (L 6).1 (L 7).1 (L 0).2 (L 1).2 (L 2).2 (L 3).2 (L 4).2 (L 5).2 (L 6).2 (L 7).2 wr
   by_cases hz:0 < (L 3).1
   ·have HF:Hid ((m+1)+usedFrom L (7 - 3) (3+1)=R):=hid (by rw [← hf.out]; show _=m+((if 0 < (L 3).1 then 1 else 0)+_); rw [if_pos hz]; show m+1+_=m+(1+usedFrom L (7 - 3) (3+1)); omega)
    go_wp2_with fail
    go_roundg (7 - 3)
    case measure => omega
    case rel => exact ⟨3+1,m+1,by omega,by go_num,by go_num,HF,by omega,hid (ht.out.alloc _)⟩
   ·have HF:Hid (m+usedFrom L (7 - 3) (3+1)=R):=hid (by rw [← hf.out]; show _=m+((if 0 < (L 3).1 then 1 else 0)+_); rw [if_neg hz]; show m+_=m+(0+usedFrom L (7 - 3) (3+1)); omega)
    go_wp2_with fail
    go_roundg (7 - 3)
    case measure => omega
    case rel => exact ⟨3+1,m,by omega,by go_num,rfl,HF,by omega,hid (ht.out.alloc _)⟩
  ·have ix:=idx4 (L 0).1 (L 1).1 (L 2).1 (L 3).1 (L 4).1 (L 5).1 (L 6).1 (L 7).1 (L 0).2 (L 1).2 (L 2).2 (L 3).2 (L 4).2 (L 5).2 (L 6).2 (L 7).2 wr
   by_cases hz:0 < (L 4).1
   ·have HF:Hid ((m+1)+usedFrom L (7 - 4) (4+1)=R):=hid (by rw [← hf.out]; show _=m+((if 0 < (L 4).1 then 1 else 0)+_); rw [if_pos hz]; show m+1+_=m+(1+usedFrom L (7 - 4) (4+1)); omega)
    go_wp2_with fail
    go_roundg (7 - 4)
    case measure => omega
    case rel => exact ⟨4+1,m+1,by omega,by go_num,by go_num,HF,by omega,hid (ht.out.alloc _)⟩
   ·have HF:Hid (m+usedFrom L (7 - 4) (4+1)=R):=hid (by rw [← hf.out]; show _=m+((if 0 < (L 4).1 then 1 else 0)+_); rw [if_neg hz]; show m+_=m+(0+usedFrom L (7 - 4) (4+1)); omega)
    go_wp2_with fail
    go_roundg (7 - 4)
    case measure => omega
    case rel => exact ⟨4+1,m,by omega,by go_num,rfl,HF,by omega,hid (ht.out.alloc _)⟩
  ·have ix:=idx5 (L 0).1 (L 1).1 (L 2).1 (L 3).1 (L 4).1 (L 5).1 (L 6).1 (L 7).1 (L 0).2 (L 1).2 (L 2).2 (L 3).2 (L 4).2 (L 5).2 (L 6).2 (L 7).2 wr
   by_cases hz:0 < (L 5).1
   ·have HF:Hid ((m+1)+usedFrom L (7 - 5) (5+1)=R):=hid (by rw [← hf.out]; show _=m+((if 0 < (L 5).1 then 1 else 0)+_); rw [if_pos hz]; show m+1+_=m+(1+usedFrom L (7 - 5) (5+1)); omega)
    go_wp2_with fail
    go_roundg (7 - 5)
    case measure => omega
    case rel => exact ⟨5+1,m+1,by omega,by go_num,by go_num,HF,by omega,hid (ht.out.alloc _)⟩
   ·have HF:Hid (m+usedFrom L (7 - 5) (5+1)=R):=hid (by rw [← hf.out]; show _=m+((if 0 < (L 5).1 then 1 else 0)+_); rw [if_neg hz]; show m+_=m+(0+usedFrom L (7 - 5) (5+1)); omega)
    go_wp2_with fail
    go_roundg (7 - 5)
    case measure => omega
    case rel => exact ⟨5+1,m,by omega,by go_num,rfl,HF,by omega,hid (ht.out.alloc _)⟩
  ·have ix:=idx6 (L 0).1 (L 1).1 (L 2).1 (L 3).1 (L 4).1 (L 5).1 (L 6).1 (L 7).1 (L 0).2 (L 1).2 (L 2).2 (L 3).2 (L 4).2 (L 5).2 (L 6).2 (L 7).2 wr
   by_cases hz:0 < (L 6).1
   ·have HF:Hid ((m+1)+usedFrom L (7 - 6) (6+1)=R):=hid (by rw [← hf.out]; show _=m+((if 0 < (L 6).1 then 1 else 0)+_); rw [if_pos hz]; show m+1+_=m+(1+usedFrom L (7 - 6) (6+1)); omega)
    go_wp2_with fail
    go_roundg (7 - 6)
    case measure => omega
    case rel => exact ⟨6+1,m+1,by omega,by go_num,by go_num,HF,by omega,hid (ht.out.alloc _)⟩
   ·have HF:Hid (m+usedFrom L (7 - 6) (6+1)=R):=hid (by rw [← hf.out]; show _=m+((if 0 < (L 6).1 then 1 else 0)+_); rw [if_neg hz]; show m+_=m+(0+usedFrom L (7 - 6) (6+1)); omega)
    go_wp2_with fail
    go_roundg (7 - 6)
    case measure => omega
    case rel => exact ⟨6+1,m,by omega,by go_num,rfl,HF,by omega,hid (ht.out.alloc _)⟩
  ·have ix:=idx7 (L 0).1 (L 1).1 (L 2).1 (L 3).1 (L 4).1 (L 5).1 (L 6).1 (L 7).1 (L 0).2 (L 1).2 (L 2).2 (L 3).2 (L 4).2 (L 5).2 (L 6).2 (L 7).2 wr
   by_cases hz:0 < (L 7).1
   ·have HF:Hid ((m+1)+usedFrom L (7 - 7) (7+1)=R):=hid (by rw [← hf.out]; show _=m+((if 0 < (L 7).1 then 1 else 0)+_); rw [if_pos hz]; show m+1+_=m+(1+usedFrom L (7 - 7) (7+1)); omega)
    go_wp2_with fail
    go_roundg (7 - 7)
    case measure => omega
    case rel => exact ⟨7+1,m+1,by omega,by go_num,by go_num,HF,by omega,hid (ht.out.alloc _)⟩
   ·have HF:Hid (m+usedFrom L (7 - 7) (7+1)=R):=hid (by rw [← hf.out]; show _=m+((if 0 < (L 7).1 then 1 else 0)+_); rw [if_neg hz]; show m+_=m+(0+usedFrom L (7 - 7) (7+1)); omega)
    go_wp2_with fail
    go_roundg (7 - 7)
    case measure => omega
    case rel => exact ⟨7+1,m,by omega,by go_num,rfl,HF,by omega,hid (ht.out.alloc _)⟩
  ·have HF:Hid ((m:Int)=R):=hid (by rw [← hf.out]; exact congrArg Nat.cast (Nat.add_zero m).symm)
   go_wp2_with fail
   go_ret
   exact ⟨ret_int HF.out,ht.out⟩
end
end Go.Proofs.YtncfmlifponjdaaGreatDoor
