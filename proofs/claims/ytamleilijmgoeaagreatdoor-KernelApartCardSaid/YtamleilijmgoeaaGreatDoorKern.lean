/- Package kernel: what a kernel has, in memory: its store and the spaces, its files and the tables, its processes, their ledgers, and who has what. Conditions: each theorem's own premises. Package kernel: what a kernel keeps, plain; who; what is seen of it. Conditions: each theorem's own premises. Package kernel: Has, Pids; charging a ledger by one ask; an error without a place. Conditions: each theorem's own premises; the variable errors.errorType holds what is laid. Package kernel: Protect, Load, Unmap, Map. Conditions: each theorem's own premises; the variable errors.errorType holds what is laid. Package kernel: whatever is asked by who does not run: ErrMissing, and nothing turns. Conditions: each theorem's own premises. Package kernel: Protect, Unmap, Map. Conditions: each theorem's own premises; the variable errors.errorType holds what is laid. Package kernel: Limit, Adjust, Kill, Ignore, Wait, Pids. Conditions: each theorem's own premises. Package kernel: Kill, Ignore, Wait, Nodes, Pids. Conditions: each theorem's own premises. Package kernel: Exit. Conditions: each theorem's own premises. Package kernel: Read, Seek, Mark. Conditions: each theorem's own premises. Package kernel: Close. Conditions: each theorem's own premises. Package kernel: Exec. Conditions: each theorem's own premises. Package kernel: what Take does to the whole. Conditions: each theorem's own premises. Package kernel: cands: all that may go. Conditions: each theorem's own premises. Package kernel: Write. Conditions: each theorem's own premises; the variable errors.errorType holds what is laid. -/
import Derived.Test.YtamleilijmgoeaaGreatDoorVm
import Derived.Test.YtamleilijmgoeaaGreatDoorProcWait
import Derived.Test.YtamleilijmgoeaaGreatDoorBase
import Derived.Test.YtamleilijmgoeaaGreatDoorDescLaw
import Derived.Test.YtamleilijmgoeaaGreatDoorDescTab
import Derived.Test.YtamleilijmgoeaaGreatDoorProcPids
import Derived.Deep.RegionHeld3
import Derived.Test.YtamleilijmgoeaaGreatDoorProc
import Derived.Test.YtamleilijmgoeaaGreatDoorVmClear
namespace Go.Proofs.YtamleilijmgoeaaGreatDoor
open Go.RowKit
set_option linter.unusedVariables false
set_option maxHeartbeats 4000000
set_option maxRecDepth 100000
structure KO where
 ob:Nat
 lb:Nat
 u:Nat→Int
 m:Nat→Int
 adj:Int
structure KA where
 kb:Nat
 s:SB
 n:Nat
 tb:Nat
 fb:Nat
 pb:Nat
 pm:Nat
 om:Nat
structure KS where
 t:St
 l:List Spc
 S:PS
 ts:List (Nat×PTab)
 os:List KO
 ow:List (Int×Nat)
 pl:List (Int×Nat)
 pf:Nat→Pr
structure OwnAt (w:World) (ob sp tab lb:Nat) (adj:Int):Prop where
 c0:w.cell? ⟨ob,0,none⟩=some (.pointer (some ⟨sp,0,none⟩))
 c1:w.cell? ⟨ob,1,none⟩=some (.pointer (some ⟨tab,0,none⟩))
 c2:w.cell? ⟨ob,2,none⟩=some (.pointer (some ⟨lb,0,none⟩))
 c3:w.cell? ⟨ob,3,none⟩=some (.int .i64 adj)
 fz:∀ i,w.frozen? ⟨ob,i,none⟩=false
def obOf (os:List KO) (i:Nat):Nat:=(os[i]?).elim 0 (·.ob)
def keysK (os:List KO) (ow:List (Int×Nat)):List (Int×Nat):=ow.map fun t => (t.1,obOf os t.2)
structure KIn (W w:World) (a:KA) (k:KS) (C:Nat→Nat×Nat):Prop where
 c0:w.cell? ⟨a.kb,0,none⟩=some (.pointer (some ⟨a.s.sb,0,none⟩))
 c1:w.cell? ⟨a.kb,1,none⟩=some (.pointer (some ⟨a.tb,0,none⟩))
 c2:w.cell? ⟨a.kb,2,none⟩=some (.pointer (some ⟨a.fb,0,none⟩))
 c3:w.cell? ⟨a.kb,3,none⟩=some (.pointer (some ⟨a.pb,0,none⟩))
 c4:w.cell? ⟨a.kb,4,none⟩=some (.map (some a.om))
 own:∀ (i:Nat) o,k.os[i]?=some o→∃ x y,k.l[i]?=some x∧k.ts[i]?=some y∧OwnAt w o.ob x.sp y.1 o.lb o.adj∧LedgerIs w o.lb o.u o.m
 mp:MapIs w a.om (.int .i64) encI ptr (keysK k.os k.ow)
 has:∀ t∈k.ow,∃ o,k.os[t.2]?=some o
 vm:VmAll w a.s a.n k.t k.l
 pr:PrTab w a.pb a.pm k.pl k.pf
 desc:DLawB ⟨w,fun j => j < W.heap.size∨C j≠(0,0)⟩ w a.fb a.tb k.S k.ts
 ckb:C a.kb=(1,0)
 com:C a.om=(2,0)
 cob:∀ (i:Nat) o,k.os[i]?=some o→C o.ob=(3,i)
 clb:∀ (i:Nat) o,k.os[i]?=some o→C o.lb=(4,i)
 cvm:∀ j,AllFoot a.s k.t.vs k.l j→C j=(5,0)
 cpr:∀ j,TFoot a.pb a.pm k.pl j→C j=(6,0)
 low:∀ j,C j≠(0,0)→W.heap.size≤j∧j < w.heap.size
 turn:Turn (fun _ => False) W w
def KIs (W w:World) (a:KA) (k:KS):Prop:=∃ C,KIn W w a k C
section
variable {W w w' w1:World} {a:KA} {k:KS} {C C':Nat→Nat×Nat}
theorem OwnAt.lt {ob sp tab lb:Nat} {adj:Int} (h:OwnAt w ob sp tab lb adj):ob < w.heap.size:=lt_of_cell h.c0
theorem OwnAt.turned {ob sp tab lb:Nat} {adj:Int} {X:Nat→Prop} (h:OwnAt w ob sp tab lb adj) (t:Turn X w w') (hn:¬ X ob):OwnAt w' ob sp tab lb adj :=
 ⟨(t.cell (a:=⟨ob,0,none⟩) h.lt hn).trans h.c0,(t.cell (a:=⟨ob,1,none⟩) h.lt hn).trans h.c1,(t.cell (a:=⟨ob,2,none⟩) h.lt hn).trans h.c2,(t.cell (a:=⟨ob,3,none⟩) h.lt hn).trans h.c3,fun i => (t.frozen (a:=⟨ob,i,none⟩) h.lt hn).trans (h.fz i)⟩
theorem DLawB.rebase {B:Base} {old':Nat→Prop} {fb tb:Nat} {S:PS} {ts:List (Nat×PTab)} (h:DLawB B w fb tb S ts) (t:Turn B.old w w') (hnew:∀ j,old' j→B.old j∨w.heap.size≤j) (hlow:∀ j,old' j→j < w'.heap.size):DLawB ⟨w',old'⟩ w' fb tb S ts:=by
 obtain ⟨F,h1,h2,h3⟩:=h.files
 refine ⟨⟨F,h1.turned t h2,fun j hj ho => ?_,h3⟩,fun j x hx => ?_,h.apart,Turn.refl _ _,hlow⟩
 ·rcases hnew j ho with h4 | h4
  ·exact h2 j hj h4
  ·have:=h1.low j hj; omega
 ·obtain ⟨h5,h6⟩:=h.tabs j x hx
  refine ⟨h5.turned t h6,fun ho => ?_⟩
  rcases hnew x.1 ho with h4 | h4
  ·exact h6 h4
  ·have:=h5.lt; omega
theorem KIn.still (h:KIn W w a k C) (t:Turn (fun _ => False) w w'):KIn W w' a k C :=
  { h with
    c0:=(t.cell (lt_of_cell h.c0) id).trans h.c0
    c1:=(t.cell (lt_of_cell h.c1) id).trans h.c1
    c2:=(t.cell (lt_of_cell h.c2) id).trans h.c2
    c3:=(t.cell (lt_of_cell h.c3) id).trans h.c3
    c4:=(t.cell (lt_of_cell h.c4) id).trans h.c4
    own:=fun i o ho => by
      obtain ⟨x,y,h1,h2,h3,h4⟩:=h.own i o ho
      exact ⟨x,y,h1,h2,h3.turned t id,h4.turned t id⟩
    mp:=h.mp.turned t id
    vm:=h.vm.turned t (fun _ _ => id)
    pr:=h.pr.turned t (fun _ _ => id)
    desc:=h.desc.rebase (t.mono (fun _ _ h => h.elim)) (fun j hj => .inl hj) (fun j hj => Nat.lt_of_lt_of_le (h.desc.low j hj) t.size)
    low:=fun j hj => ⟨(h.low j hj).1,Nat.lt_of_lt_of_le (h.low j hj).2 t.size⟩
    turn:=h.turn.trans t }
theorem KIs.still (h:KIs W w a k) (t:Turn (fun _ => False) w w'):KIs W w' a k:=by
 obtain ⟨C,h⟩:=h
 exact ⟨C,h.still t⟩
theorem KIs.turn (h:KIs W w a k):Turn (fun _ => False) W w:=by
 obtain ⟨C,h⟩:=h
 exact h.turn
theorem kmark {x y:Nat×Nat} {i j:Nat} (h1:C i=x) (h2:C j=y) (h:x≠y):i≠j:=fun e => h (by rw [← h1,← h2,e])
theorem KIn.others {z:Nat×Nat} (h:KIn W w a k C) (t:Turn (fun j => C j=z) w w') (hz:z≠(0,0)) :
  (z≠(1,0)→w'.cell? ⟨a.kb,0,none⟩=some (.pointer (some ⟨a.s.sb,0,none⟩))∧w'.cell? ⟨a.kb,1,none⟩=some (.pointer (some ⟨a.tb,0,none⟩))∧w'.cell? ⟨a.kb,2,none⟩=some (.pointer (some ⟨a.fb,0,none⟩))∧w'.cell? ⟨a.kb,3,none⟩=some (.pointer (some ⟨a.pb,0,none⟩))∧w'.cell? ⟨a.kb,4,none⟩=some (.map (some a.om))) ∧
  (z≠(2,0)→MapIs w' a.om (.int .i64) encI ptr (keysK k.os k.ow)) ∧
  (∀ (i:Nat) o,k.os[i]?=some o→∃ x y,k.l[i]?=some x∧k.ts[i]?=some y∧(z≠(3,i)→OwnAt w' o.ob x.sp y.1 o.lb o.adj)∧(z≠(4,i)→LedgerIs w' o.lb o.u o.m)) ∧
  (z≠(5,0)→VmAll w' a.s a.n k.t k.l)∧(z≠(6,0)→PrTab w' a.pb a.pm k.pl k.pf)∧Turn (fun _ => False) W w':=by
 refine ⟨fun hn => ?_,fun hn => ?_,fun i o ho => ?_,fun hn => ?_,fun hn => ?_,?_⟩
 ·have hk:¬ C a.kb=z:=fun e => hn (e.symm.trans h.ckb)
  exact ⟨(t.cell (lt_of_cell h.c0) hk).trans h.c0,(t.cell (lt_of_cell h.c1) hk).trans h.c1,(t.cell (lt_of_cell h.c2) hk).trans h.c2,(t.cell (lt_of_cell h.c3) hk).trans h.c3,(t.cell (lt_of_cell h.c4) hk).trans h.c4⟩
 ·exact h.mp.turned t (fun e => hn (e.symm.trans h.com))
 ·obtain ⟨x,y,h1,h2,h3,h4⟩:=h.own i o ho
  exact ⟨x,y,h1,h2,fun hn => h3.turned t (fun e => hn (e.symm.trans (h.cob i o ho))),fun hn => h4.turned t (fun e => hn (e.symm.trans (h.clb i o ho)))⟩
 ·exact h.vm.turned t (fun j hj e => hn (e.symm.trans (h.cvm j hj)))
 ·exact h.pr.turned t (fun j hj e => hn (e.symm.trans (h.cpr j hj)))
 ·exact h.turn.trans' t (fun j hj e => by have:=(h.low j (by rw [e]; exact hz)).1; omega)
open Classical in
noncomputable def markF (C:Nat→Nat×Nat) (F':Nat→Prop) (z:Nat×Nat):Nat→Nat×Nat:=fun j => if F' j then z else C j
theorem markF_in {F':Nat→Prop} {z:Nat×Nat} {j:Nat} (h:F' j):markF C F' z j=z:=if_pos h
theorem markF_out {F':Nat→Prop} {z:Nat×Nat} {j:Nat} (h:¬ F' j):markF C F' z j=C j:=if_neg h
theorem markF_keep {F':Nat→Prop} {z y:Nat×Nat} {j:Nat} (hF:∀ j,F' j→C j=z∨w.heap.size≤j) (hl:∀ j,C j≠(0,0)→j < w.heap.size) (hj:C j=y) (hy:y≠(0,0)) (hne:y≠z):markF C F' z j=y:=by
 rw [markF_out (fun hf => ?_)]
 ·exact hj
 ·rcases hF j hf with e | e
  ·exact hne (hj.symm.trans e)
  ·have:=hl j (by rw [hj]; exact hy); omega
theorem markF_old {F':Nat→Prop} {z:Nat×Nat} {j:Nat} (hF:∀ j,F' j→C j=z∨w.heap.size≤j) (hz:z≠(0,0)) (h:markF C F' z j≠(0,0)):C j≠(0,0)∨w.heap.size≤j:=by
 by_cases hf:F' j
 ·rcases hF j hf with e | e
  ·exact .inl (by rw [e]; exact hz)
  ·exact .inr e
 ·rw [markF_out hf] at h; exact .inl h
def Own7 (C C':Nat→Nat×Nat) (w w':World):Prop:=(∀ j,C j=(7,0)→C' j=(7,0))∧Turn (fun j => C j≠(7,0)) w w'
theorem Own7.trans {C1 C2:Nat→Nat×Nat} {w2:World} (h1:Own7 C C1 w w1) (h2:Own7 C1 C2 w1 w2):Own7 C C2 w w2 :=
 ⟨fun j hj => h2.1 j (h1.1 j hj),h1.2.trans (h2.2.mono (fun j _ hn e => hn (h1.1 j e)))⟩
theorem Own7.still (t:Turn (fun _ => False) w w'):Own7 C C w w':=⟨fun _ h => h,t.mono (fun _ _ h => h.elim)⟩
theorem own7_mark {F':Nat→Prop} {z:Nat×Nat} (hF:∀ j,F' j→C j=z∨w.heap.size≤j) (hl:∀ j,C j≠(0,0)→j < w.heap.size) (hz:z≠(7,0)) (t:Turn (fun j => C j=z) w w') (h7:((7,0):Nat×Nat)≠(0,0)):Own7 C (markF C F' z) w w' :=
 ⟨fun j hj => markF_keep hF hl hj h7 (fun e => hz e.symm),t.mono (fun j _ hj e => hz (hj.symm.trans e))⟩
theorem KIn.vmStepC (h:KIn W w a k C) {t':St} {l':List Spc} (hA:AllAfter a.s a.n k.t k.l w w' t' l') (hl:∀ (i:Nat) x,k.l[i]?=some x→∃ x',l'[i]?=some x'∧x'.sp=x.sp):KIn W w' a { k with t:=t',l:=l' } (markF C (AllFoot a.s t'.vs l') (5,0))∧Own7 C (markF C (AllFoot a.s t'.vs l') (5,0)) w w':=by
 obtain ⟨hv,t,hf⟩:=hA
 have tC:Turn (fun j => C j=(5,0)) w w':=t.mono (fun j _ hj => h.cvm j hj)
 obtain ⟨o1,o2,o3,_,o5,o6⟩:=h.others tC (by decide)
 obtain ⟨k0,k1,k2,k3,k4⟩:=o1 (by decide)
 have hF:∀ j,AllFoot a.s t'.vs l' j→C j=(5,0)∨w.heap.size≤j:=fun j hj => (hf j hj).imp (h.cvm j) id
 have hlo:∀ j,C j≠(0,0)→j < w.heap.size:=fun j hj => (h.low j hj).2
 have keep:∀ {j:Nat} {y:Nat×Nat},C j=y→y≠(0,0)→y≠(5,0)→markF C (AllFoot a.s t'.vs l') (5,0) j=y:=fun h1 h2 h3 => markF_keep hF hlo h1 h2 h3
 refine ⟨⟨k0,k1,k2,k3,k4,fun i o ho => ?_,o2 (by decide),h.has,hv,o5 (by decide),?_,keep h.ckb (by decide) (by decide),keep h.com (by decide) (by decide),fun i o ho => keep (h.cob i o ho) (by simp) (by simp),fun i o ho => keep (h.clb i o ho) (by simp) (by simp),fun j hj => markF_in hj,fun j hj => keep (h.cpr j hj) (by decide) (by decide),fun j hj => ?_,o6⟩,own7_mark hF hlo (by decide) tC (by decide)⟩
 ·obtain ⟨x,y,h1,h2,h3,h4⟩:=o3 i o ho
  obtain ⟨x',h5,h6⟩:=hl i x h1
  exact ⟨x',y,h5,h2,by rw [h6]; exact h3 (by simp),h4 (by simp)⟩
 ·refine h.desc.rebase (tC.mono (fun j _ hj => .inr (by rw [hj]; decide))) (fun j hj => ?_) (fun j hj => ?_)
  ·rcases hj with hj | hj
   ·exact .inl (.inl hj)
   ·exact (markF_old hF (by decide) hj).imp .inr id
  ·rcases hj with hj | hj
   ·exact Nat.lt_of_lt_of_le hj o6.size
   ·by_cases hg:AllFoot a.s t'.vs l' j
    ·exact hv.foot_lt j hg
    ·rw [markF_out hg] at hj; exact Nat.lt_of_lt_of_le (hlo j hj) t.size
 ·by_cases hg:AllFoot a.s t'.vs l' j
  ·refine ⟨?_,hv.foot_lt j hg⟩
   rcases hF j hg with e | e
   ·exact (h.low j (by rw [e]; decide)).1
   ·exact Nat.le_trans h.turn.size e
  ·rw [markF_out hg] at hj
   exact ⟨(h.low j hj).1,Nat.lt_of_lt_of_le (hlo j hj) t.size⟩
theorem KIn.prStepC (h:KIn W w a k C) {pl':List (Int×Nat)} {pf':Nat→Pr} (hp:PrTab w' a.pb a.pm pl' pf') (t:Turn (TFoot a.pb a.pm k.pl) w w') (hf:∀ j,TFoot a.pb a.pm pl' j→TFoot a.pb a.pm k.pl j∨w.heap.size≤j):KIn W w' a { k with pl:=pl',pf:=pf' } (markF C (TFoot a.pb a.pm pl') (6,0))∧Own7 C (markF C (TFoot a.pb a.pm pl') (6,0)) w w':=by
 have tC:Turn (fun j => C j=(6,0)) w w':=t.mono (fun j _ hj => h.cpr j hj)
 obtain ⟨o1,o2,o3,o4,_,o6⟩:=h.others tC (by decide)
 obtain ⟨k0,k1,k2,k3,k4⟩:=o1 (by decide)
 have hF:∀ j,TFoot a.pb a.pm pl' j→C j=(6,0)∨w.heap.size≤j:=fun j hj => (hf j hj).imp (h.cpr j) id
 have hlo:∀ j,C j≠(0,0)→j < w.heap.size:=fun j hj => (h.low j hj).2
 have keep:∀ {j:Nat} {y:Nat×Nat},C j=y→y≠(0,0)→y≠(6,0)→markF C (TFoot a.pb a.pm pl') (6,0) j=y:=fun h1 h2 h3 => markF_keep hF hlo h1 h2 h3
 refine ⟨⟨k0,k1,k2,k3,k4,fun i o ho => ?_,o2 (by decide),h.has,o4 (by decide),hp,?_,keep h.ckb (by decide) (by decide),keep h.com (by decide) (by decide),fun i o ho => keep (h.cob i o ho) (by simp) (by simp),fun i o ho => keep (h.clb i o ho) (by simp) (by simp),fun j hj => keep (h.cvm j hj) (by decide) (by decide),fun j hj => markF_in hj,fun j hj => ?_,o6⟩,own7_mark hF hlo (by decide) tC (by decide)⟩
 ·obtain ⟨x,y,h1,h2,h3,h4⟩:=o3 i o ho
  exact ⟨x,y,h1,h2,h3 (by simp),h4 (by simp)⟩
 ·refine h.desc.rebase (tC.mono (fun j _ hj => .inr (by rw [hj]; decide))) (fun j hj => ?_) (fun j hj => ?_)
  ·rcases hj with hj | hj
   ·exact .inl (.inl hj)
   ·exact (markF_old hF (by decide) hj).imp .inr id
  ·rcases hj with hj | hj
   ·exact Nat.lt_of_lt_of_le hj o6.size
   ·by_cases hg:TFoot a.pb a.pm pl' j
    ·exact hp.foot_lt j hg
    ·rw [markF_out hg] at hj; exact Nat.lt_of_lt_of_le (hlo j hj) t.size
 ·by_cases hg:TFoot a.pb a.pm pl' j
  ·refine ⟨?_,hp.foot_lt j hg⟩
   rcases hF j hg with e | e
   ·exact (h.low j (by rw [e]; decide)).1
   ·exact Nat.le_trans h.turn.size e
  ·rw [markF_out hg] at hj
   exact ⟨(h.low j hj).1,Nat.lt_of_lt_of_le (hlo j hj) t.size⟩
theorem KIn.prStep (h:KIn W w a k C) {pl':List (Int×Nat)} {pf':Nat→Pr} (hp:PrTab w' a.pb a.pm pl' pf') (t:Turn (TFoot a.pb a.pm k.pl) w w') (hf:∀ j,TFoot a.pb a.pm pl' j→TFoot a.pb a.pm k.pl j∨w.heap.size≤j):KIs W w' a { k with pl:=pl',pf:=pf' }:=⟨_,(h.prStepC hp t hf).1⟩
theorem KIn.descStepC (h:KIn W w a k C) {S':PS} {ts':List (Nat×PTab)} (hd:DLawB ⟨w,fun j => j < W.heap.size∨C j≠(0,0)⟩ w' a.fb a.tb S' ts') (hl:∀ (i:Nat) y,k.ts[i]?=some y→∃ y',ts'[i]?=some y'∧y'.1=y.1):KIn W w' a { k with S:=S',ts:=ts' } C:=by
 have t:=hd.turn
 have tt:∀ {j:Nat},C j≠(0,0)→¬ ¬ (j < W.heap.size∨C j≠(0,0)):=fun hj hn => hn (.inr hj)
 have hkb:¬ ¬ (a.kb < W.heap.size∨C a.kb≠(0,0)):=tt (by rw [h.ckb]; decide)
 refine ⟨(t.cell (a:=⟨a.kb,0,none⟩) (lt_of_cell h.c0) hkb).trans h.c0,(t.cell (a:=⟨a.kb,1,none⟩) (lt_of_cell h.c1) hkb).trans h.c1,(t.cell (a:=⟨a.kb,2,none⟩) (lt_of_cell h.c2) hkb).trans h.c2,(t.cell (a:=⟨a.kb,3,none⟩) (lt_of_cell h.c3) hkb).trans h.c3,(t.cell (a:=⟨a.kb,4,none⟩) (lt_of_cell h.c4) hkb).trans h.c4,fun i o ho => ?_,h.mp.turned t (tt (by rw [h.com]; decide)),h.has,h.vm.turned t (fun j hj => tt (by rw [h.cvm j hj]; decide)),h.pr.turned t (fun j hj => tt (by rw [h.cpr j hj]; decide)),?_,h.ckb,h.com,h.cob,h.clb,h.cvm,h.cpr,fun j hj => ⟨(h.low j hj).1,Nat.lt_of_lt_of_le (h.low j hj).2 t.size⟩,h.turn.trans' t (fun j hj hn => (hn (.inl hj)).elim)⟩
 ·obtain ⟨x,y,h1,h2,h3,h4⟩:=h.own i o ho
  obtain ⟨y',h5,h6⟩:=hl i y h2
  exact ⟨x,y',h1,h5,by rw [h6]; exact h3.turned t (tt (by rw [h.cob i o ho]; simp)),h4.turned t (tt (by rw [h.clb i o ho]; simp))⟩
 ·exact hd.rebase (Turn.refl _ _) (fun j hj => .inl hj) (fun j hj => Nat.lt_of_lt_of_le (h.desc.low j hj) t.size)
theorem KIn.descStep (h:KIn W w a k C) {S':PS} {ts':List (Nat×PTab)} (hd:DLawB ⟨w,fun j => j < W.heap.size∨C j≠(0,0)⟩ w' a.fb a.tb S' ts') (hl:∀ (i:Nat) y,k.ts[i]?=some y→∃ y',ts'[i]?=some y'∧y'.1=y.1):KIs W w' a { k with S:=S',ts:=ts' }:=⟨C,h.descStepC hd hl⟩
theorem keysK_set {os:List KO} {i:Nat} {o o':KO} (ho:os[i]?=some o) (e:o'.ob=o.ob) (ow:List (Int×Nat)):keysK (os.set i o') ow=keysK os ow:=by
 unfold keysK
 refine List.map_congr_left fun t _ => ?_
 have:obOf (os.set i o') t.2=obOf os t.2:=by
  unfold obOf
  rw [List.getElem?_set]
  by_cases h:i=t.2
  ·subst h
   have hl:=(List.getElem?_eq_some_iff.1 ho).1
   rw [if_pos rfl,if_pos hl,ho]
   exact e
  ·rw [if_neg h]
 rw [this]
theorem has_set {os:List KO} {i:Nat} {o o':KO} {ow:List (Int×Nat)} (ho:os[i]?=some o) (h:∀ t∈ow,∃ o,os[t.2]?=some o):∀ t∈ow,∃ p,(os.set i o')[t.2]?=some p:=fun t ht => by
 obtain ⟨p,hp⟩:=h t ht
 by_cases e:i=t.2
 ·subst e
  exact ⟨o',by rw [List.getElem?_set,if_pos rfl,if_pos (List.getElem?_eq_some_iff.1 ho).1]⟩
 ·exact ⟨p,by rw [List.getElem?_set,if_neg e]; exact hp⟩
theorem os_set {os:List KO} {i j:Nat} {o o' p:KO} (ho:os[i]?=some o) (h:(os.set i o')[j]?=some p):(j=i∧p=o')∨(j≠i∧os[j]?=some p):=by
 rw [List.getElem?_set] at h
 by_cases e:i=j
 ·subst e
  rw [if_pos rfl,if_pos (List.getElem?_eq_some_iff.1 ho).1] at h
  cases h
  exact .inl ⟨rfl,rfl⟩
 ·rw [if_neg e] at h
  exact .inr ⟨fun e2 => e e2.symm,h⟩
theorem KIn.ownStepC {z:Nat×Nat} (h:KIn W w a k C) {i:Nat} {o o':KO} (ho:k.os[i]?=some o) (t:Turn (fun j => C j=z) w w') (hz:z=(3,i)∨z=(4,i)) (e1:o'.ob=o.ob) (e2:o'.lb=o.lb)
  (hO:∀ x y,k.l[i]?=some x→k.ts[i]?=some y→OwnAt w' o.ob x.sp y.1 o.lb o'.adj∧LedgerIs w' o.lb o'.u o'.m):KIn W w' a { k with os:=k.os.set i o' } C:=by
 have hz0:z≠(0,0):=by rcases hz with e | e <;> rw [e] <;> simp
 have hz1:z≠(1,0):=by rcases hz with e | e <;> rw [e] <;> simp
 have hz2:z≠(2,0):=by rcases hz with e | e <;> rw [e] <;> simp
 have hz5:z≠(5,0):=by rcases hz with e | e <;> rw [e] <;> simp
 have hz6:z≠(6,0):=by rcases hz with e | e <;> rw [e] <;> simp
 obtain ⟨o1,o2,o3,o4,o5,o6⟩:=h.others t hz0
 obtain ⟨k0,k1,k2,k3,k4⟩:=o1 hz1
 refine ⟨k0,k1,k2,k3,k4,fun j p hp => ?_,by rw [show keysK (k.os.set i o') k.ow=keysK k.os k.ow from keysK_set ho e1 _]; exact o2 hz2,has_set ho h.has,o4 hz5,o5 hz6,?_,h.ckb,h.com,fun j p hp => ?_,fun j p hp => ?_,h.cvm,h.cpr,fun j hj => ⟨(h.low j hj).1,Nat.lt_of_lt_of_le (h.low j hj).2 t.size⟩,o6⟩
 ·rcases os_set ho hp with ⟨rfl,rfl⟩ | ⟨hne,hp'⟩
  ·obtain ⟨x,y,h1,h2,_⟩:=h.own _ o ho
   obtain ⟨h3,h4⟩:=hO x y h1 h2
   exact ⟨x,y,h1,h2,by rw [e1,e2]; exact h3,by rw [e2]; exact h4⟩
  ·obtain ⟨x,y,h1,h2,h3,h4⟩:=o3 j p hp'
   have h8:z≠(3,j):=by rcases hz with e | e <;> rw [e] <;> simp <;> exact fun e3 => hne e3.symm
   have h9:z≠(4,j):=by rcases hz with e | e <;> rw [e] <;> simp <;> exact fun e3 => hne e3.symm
   exact ⟨x,y,h1,h2,h3 h8,h4 h9⟩
 ·exact h.desc.rebase (t.mono (fun j _ hj => .inr (by rw [hj]; exact hz0))) (fun j hj => .inl hj) (fun j hj => Nat.lt_of_lt_of_le (h.desc.low j hj) t.size)
 ·rcases os_set ho hp with ⟨rfl,rfl⟩ | ⟨hne,hp'⟩
  ·rw [e1]; exact h.cob _ o ho
  ·exact h.cob j p hp'
 ·rcases os_set ho hp with ⟨rfl,rfl⟩ | ⟨hne,hp'⟩
  ·rw [e2]; exact h.clb _ o ho
  ·exact h.clb j p hp'
theorem KIn.ownStep {z:Nat×Nat} (h:KIn W w a k C) {i:Nat} {o o':KO} (ho:k.os[i]?=some o) (t:Turn (fun j => C j=z) w w') (hz:z=(3,i)∨z=(4,i)) (e1:o'.ob=o.ob) (e2:o'.lb=o.lb)
  (hO:∀ x y,k.l[i]?=some x→k.ts[i]?=some y→OwnAt w' o.ob x.sp y.1 o.lb o'.adj∧LedgerIs w' o.lb o'.u o'.m):KIs W w' a { k with os:=k.os.set i o' }:=⟨C,h.ownStepC ho t hz e1 e2 hO⟩
theorem KIn.ledgerC (h:KIn W w a k C) {i:Nat} {o:KO} (ho:k.os[i]?=some o) {u' m':Nat→Int} (hL:LedgerIs w' o.lb u' m') (t:Turn (fun j => j=o.lb) w w'):KIn W w' a { k with os:=k.os.set i { o with u:=u',m:=m' } } C:=by
 refine h.ownStepC (z:=(4,i)) (o':={ o with u:=u',m:=m' }) ho (t.mono (fun j _ e => by subst e; exact h.clb i o ho)) (.inr rfl) rfl rfl (fun x y h1 h2 => ⟨?_,hL⟩)
 obtain ⟨x',y',h3,h4,h5,_⟩:=h.own i o ho
 rw [h1] at h3; rw [h2] at h4
 cases h3; cases h4
 exact h5.turned t (kmark (h.cob i o ho) (h.clb i o ho) (by simp))
theorem KIn.ledger (h:KIn W w a k C) {i:Nat} {o:KO} (ho:k.os[i]?=some o) {u' m':Nat→Int} (hL:LedgerIs w' o.lb u' m') (t:Turn (fun j => j=o.lb) w w'):KIs W w' a { k with os:=k.os.set i { o with u:=u',m:=m' } }:=⟨C,h.ledgerC ho hL t⟩
theorem KIn.marked (h:KIn W w a k C) (t:Turn (fun _ => False) w w') (P:Nat→Prop) (hP:∀ j,P j→w.heap.size≤j∧j < w'.heap.size):KIn W w' a k (markF C P (7,0)):=by
 have g:=h.still t
 have hF:∀ j,P j→C j=(7,0)∨w.heap.size≤j:=fun j hj => .inr (hP j hj).1
 have hlo:∀ j,C j≠(0,0)→j < w.heap.size:=fun j hj => (h.low j hj).2
 have keep:∀ {j:Nat} {y:Nat×Nat},C j=y→y≠(0,0)→markF C P (7,0) j=y:=fun {j y} h1 h2 => by
  rw [markF_out (fun hp => ?_)]
  ·exact h1
  ·have:=hlo j (by rw [h1]; exact h2)
   have:=(hP j hp).1
   omega
 refine ⟨g.c0,g.c1,g.c2,g.c3,g.c4,g.own,g.mp,g.has,g.vm,g.pr,?_,keep h.ckb (by decide),keep h.com (by decide),fun i o ho => keep (h.cob i o ho) (by simp),fun i o ho => keep (h.clb i o ho) (by simp),fun j hj => keep (h.cvm j hj) (by decide),fun j hj => keep (h.cpr j hj) (by decide),fun j hj => ?_,g.turn⟩
 ·refine h.desc.rebase (t.mono (fun j _ hj => hj.elim)) (fun j hj => ?_) (fun j hj => ?_)
  ·rcases hj with hj | hj
   ·exact .inl (.inl hj)
   ·exact (markF_old hF (by decide) hj).imp .inr id
  ·rcases hj with hj | hj
   ·exact Nat.lt_of_lt_of_le hj g.turn.size
   ·by_cases hg:P j
    ·exact (hP j hg).2
    ·rw [markF_out hg] at hj; exact Nat.lt_of_lt_of_le (hlo j hj) t.size
 ·by_cases hg:P j
  ·exact ⟨Nat.le_trans h.turn.size (hP j hg).1,(hP j hg).2⟩
  ·rw [markF_out hg] at hj
   exact ⟨(h.low j hj).1,Nat.lt_of_lt_of_le (hlo j hj) t.size⟩
theorem KIn.weigh (h:KIn W w a k C) {i:Nat} {o:KO} (ho:k.os[i]?=some o) {z:Int} (hO:∀ sp tab,OwnAt w o.ob sp tab o.lb o.adj→OwnAt w' o.ob sp tab o.lb z) (t:Turn (fun j => j=o.ob) w w'):KIs W w' a { k with os:=k.os.set i { o with adj:=z } }:=by
 refine h.ownStep (z:=(3,i)) (o':={ o with adj:=z }) ho (t.mono (fun j _ e => by subst e; exact h.cob i o ho)) (.inl rfl) rfl rfl (fun x y h1 h2 => ?_)
 obtain ⟨x',y',h3,h4,h5,h6⟩:=h.own i o ho
 rw [h1] at h3; rw [h2] at h4
 cases h3; cases h4
 exact ⟨hO _ _ h5,h6.turned t (kmark (h.clb i o ho) (h.cob i o ho) (by simp))⟩
theorem KIn.ownsC (h:KIn W w a k C) {ow':List (Int×Nat)} (hm:MapIs w' a.om (.int .i64) encI ptr (keysK k.os ow')) (hh:∀ t∈ow',∃ o,k.os[t.2]?=some o) (t:Turn (fun j => j=a.om) w w'):KIn W w' a { k with ow:=ow' } C:=by
 obtain ⟨o1,o2,o3,o4,o5,o6⟩:=h.others (z:=(2,0)) (t.mono (fun j _ e => by subst e; exact h.com)) (by decide)
 obtain ⟨k0,k1,k2,k3,k4⟩:=o1 (by decide)
 refine ⟨k0,k1,k2,k3,k4,fun i o ho => ?_,hm,hh,o4 (by decide),o5 (by decide),?_,h.ckb,h.com,h.cob,h.clb,h.cvm,h.cpr,fun j hj => ⟨(h.low j hj).1,Nat.lt_of_lt_of_le (h.low j hj).2 t.size⟩,o6⟩
 ·obtain ⟨x,y,h1,h2,h3,h4⟩:=o3 i o ho
  exact ⟨x,y,h1,h2,h3 (by simp),h4 (by simp)⟩
 ·exact h.desc.rebase (t.mono (fun j _ hj => .inr (by rw [hj,h.com]; decide))) (fun j hj => .inl hj) (fun j hj => Nat.lt_of_lt_of_le (h.desc.low j hj) t.size)
theorem KIn.owns (h:KIn W w a k C) {ow':List (Int×Nat)} (hm:MapIs w' a.om (.int .i64) encI ptr (keysK k.os ow')) (hh:∀ t∈ow',∃ o,k.os[t.2]?=some o) (t:Turn (fun j => j=a.om) w w'):KIs W w' a { k with ow:=ow' }:=⟨C,h.ownsC hm hh t⟩
theorem own7_desc {S':PS} {ts':List (Nat×PTab)} {fb tb:Nat} (hd:DLawB ⟨w,fun j => j < W.heap.size∨C j≠(0,0)⟩ w' fb tb S' ts'):Own7 C C w w' :=
 ⟨fun _ h => h,hd.turn.mono (fun j _ hn e => hn (.inr (by rw [e]; decide)))⟩
theorem own7_at {b:Nat} {z:Nat×Nat} (hb:C b=z) (hz:z≠(7,0)) (t:Turn (fun j => j=b) w w'):Own7 C C w w' :=
 ⟨fun _ h => h,t.mono (fun j _ e h => hz (by rw [← hb,← e]; exact h))⟩
theorem keysK_more {os:List KO} {ow:List (Int×Nat)} (h:∀ t∈ow,∃ o,os[t.2]?=some o) (p:KO):keysK (os ++ [p]) ow=keysK os ow:=by
 unfold keysK
 refine List.map_congr_left fun t ht => ?_
 obtain ⟨o,ho⟩:=h t ht
 have:obOf (os ++ [p]) t.2=obOf os t.2:=by
  unfold obOf
  rw [List.getElem?_append_left (List.getElem?_eq_some_iff.1 ho).1]
 rw [this]
theorem KIn.more (h:KIn W w a k C) {x:Spc} {y:Nat×PTab} {p:KO} (hx:k.l[k.os.length]?=some x) (hy:k.ts[k.os.length]?=some y) (t:Turn (fun _ => False) w w') (h1:w.heap.size≤p.ob∧p.ob < w'.heap.size) (h2:w.heap.size≤p.lb∧p.lb < w'.heap.size) (hne:p.ob≠p.lb)
  (hO:OwnAt w' p.ob x.sp y.1 p.lb p.adj) (hL:LedgerIs w' p.lb p.u p.m):KIs W w' a { k with os:=k.os ++ [p] }:=by
 have g:=h.still t
 have hlo:∀ j,C j≠(0,0)→j < w.heap.size:=fun j hj => (h.low j hj).2
 let C':Nat→Nat×Nat:=fun j => if j=p.ob then (3,k.os.length) else if j=p.lb then (4,k.os.length) else C j
 have keep:∀ {j:Nat} {z:Nat×Nat},C j=z→z≠(0,0)→C' j=z:=fun {j z} e hz => by
  have hj:=hlo j (by rw [e]; exact hz)
  show (if j=p.ob then _ else if j=p.lb then _ else C j)=z
  rw [if_neg (by omega),if_neg (by omega)]; exact e
 have old:∀ j,C' j≠(0,0)→C j≠(0,0)∨(w.heap.size≤j∧j < w'.heap.size):=fun j hj => by
  by_cases e1:j=p.ob
  ·exact .inr (by rw [e1]; exact h1)
  ·by_cases e2:j=p.lb
   ·exact .inr (by rw [e2]; exact h2)
   ·have hj:(if j=p.ob then (3,k.os.length) else if j=p.lb then (4,k.os.length) else C j)≠(0,0):=hj
    rw [if_neg e1,if_neg e2] at hj; exact .inl hj
 have get:∀ (i:Nat) o,(k.os ++ [p])[i]?=some o→k.os[i]?=some o∨(i=k.os.length∧o=p):=fun i o ho => by
  by_cases e:i < k.os.length
  ·rw [List.getElem?_append_left e] at ho; exact .inl ho
  ·rw [List.getElem?_append_right (by omega)] at ho
   have e2:=(List.getElem?_eq_some_iff.1 ho).1
   simp at e2
   have e3:i=k.os.length:=by omega
   subst e3
   simp at ho
   exact .inr ⟨rfl,ho.symm⟩
 refine ⟨C',g.c0,g.c1,g.c2,g.c3,g.c4,fun i o ho => ?_,by rw [show keysK (k.os ++ [p]) k.ow=keysK k.os k.ow from keysK_more h.has p]; exact g.mp,fun t ht => ?_,g.vm,g.pr,?_,keep h.ckb (by decide),keep h.com (by decide),fun i o ho => ?_,fun i o ho => ?_,fun j hj => keep (h.cvm j hj) (by decide),fun j hj => keep (h.cpr j hj) (by decide),fun j hj => ?_,g.turn⟩
 ·rcases get i o ho with ho | ⟨rfl,rfl⟩
  ·exact g.own i o ho
  ·exact ⟨x,y,hx,hy,hO,hL⟩
 ·obtain ⟨o,ho⟩:=h.has t ht
  exact ⟨o,by show (k.os ++ [p])[t.2]?=_; rw [List.getElem?_append_left (List.getElem?_eq_some_iff.1 ho).1]; exact ho⟩
 ·refine h.desc.rebase (t.mono (fun _ _ h => h.elim)) (fun j hj => ?_) (fun j hj => ?_)
  ·rcases hj with hj | hj
   ·exact .inl (.inl hj)
   ·exact (old j hj).imp .inr (fun e => e.1)
  ·rcases hj with hj | hj
   ·exact Nat.lt_of_lt_of_le hj g.turn.size
   ·rcases old j hj with e | e
    ·exact Nat.lt_of_lt_of_le (hlo j e) t.size
    ·exact e.2
 ·rcases get i o ho with ho | ⟨rfl,rfl⟩
  ·exact keep (h.cob i o ho) (by simp)
  ·show (if o.ob=o.ob then _ else _)=_; rw [if_pos rfl]
 ·rcases get i o ho with ho | ⟨rfl,rfl⟩
  ·exact keep (h.clb i o ho) (by simp)
  ·show (if o.lb=o.ob then _ else if o.lb=o.lb then _ else _)=_; rw [if_neg (fun e => hne e.symm),if_pos rfl]
 ·rcases old j hj with e | e
  ·exact ⟨(h.low j e).1,Nat.lt_of_lt_of_le (hlo j e) t.size⟩
  ·exact ⟨Nat.le_trans h.turn.size e.1,e.2⟩
theorem KIn.grow7 (h:KIn W w a k C) (t:Turn (fun j => C j=(7,0)) w w') (P:Nat→Prop) (hP:∀ j,P j→w.heap.size≤j∧j < w'.heap.size):KIn W w' a k (markF C P (7,0)):=by
 obtain ⟨o1,o2,o3,o4,o5,o6⟩:=h.others t (by decide)
 obtain ⟨k0,k1,k2,k3,k4⟩:=o1 (by decide)
 have hF:∀ j,P j→C j=(7,0)∨w.heap.size≤j:=fun j hj => .inr (hP j hj).1
 have hlo:∀ j,C j≠(0,0)→j < w.heap.size:=fun j hj => (h.low j hj).2
 have keep:∀ {j:Nat} {y:Nat×Nat},C j=y→y≠(0,0)→markF C P (7,0) j=y:=fun {j y} h1 h2 => by
  rw [markF_out (fun hp => ?_)]
  ·exact h1
  ·have:=hlo j (by rw [h1]; exact h2)
   have:=(hP j hp).1
   omega
 refine ⟨k0,k1,k2,k3,k4,fun i o ho => ?_,o2 (by decide),h.has,o4 (by decide),o5 (by decide),?_,keep h.ckb (by decide),keep h.com (by decide),fun i o ho => keep (h.cob i o ho) (by simp),fun i o ho => keep (h.clb i o ho) (by simp),fun j hj => keep (h.cvm j hj) (by decide),fun j hj => keep (h.cpr j hj) (by decide),fun j hj => ?_,o6⟩
 ·obtain ⟨x,y,h1,h2,h3,h4⟩:=o3 i o ho
  exact ⟨x,y,h1,h2,h3 (by simp),h4 (by simp)⟩
 ·refine h.desc.rebase (t.mono (fun j _ hj => .inr (by rw [hj]; decide))) (fun j hj => ?_) (fun j hj => ?_)
  ·rcases hj with hj | hj
   ·exact .inl (.inl hj)
   ·exact (markF_old hF (by decide) hj).imp .inr id
  ·rcases hj with hj | hj
   ·exact Nat.lt_of_lt_of_le hj o6.size
   ·by_cases hg:P j
    ·exact (hP j hg).2
    ·rw [markF_out hg] at hj; exact Nat.lt_of_lt_of_le (hlo j hj) t.size
 ·by_cases hg:P j
  ·exact ⟨Nat.le_trans h.turn.size (hP j hg).1,(hP j hg).2⟩
  ·rw [markF_out hg] at hj
   exact ⟨(h.low j hj).1,Nat.lt_of_lt_of_le (hlo j hj) t.size⟩
theorem KIn.more7 (h:KIn W w a k C) {x:Spc} {y:Nat×PTab} {p:KO} (hx:k.l[k.os.length]?=some x) (hy:k.ts[k.os.length]?=some y) (t:Turn (fun _ => False) w w') (h1:w.heap.size≤p.ob∧p.ob < w'.heap.size) (h2:C p.lb=(7,0))
  (hO:OwnAt w' p.ob x.sp y.1 p.lb p.adj) (hL:LedgerIs w' p.lb p.u p.m):∃ C',KIn W w' a { k with os:=k.os ++ [p] } C':=by
 have g:=h.still t
 have hlo:∀ j,C j≠(0,0)→j < w.heap.size:=fun j hj => (h.low j hj).2
 have hlb:=hlo p.lb (by rw [h2]; decide)
 have hne:p.ob≠p.lb:=by omega
 let C':Nat→Nat×Nat:=fun j => if j=p.ob then (3,k.os.length) else if j=p.lb then (4,k.os.length) else C j
 have keep:∀ {j:Nat} {z:Nat×Nat},C j=z→z≠(0,0)→z≠(7,0)→C' j=z:=fun {j z} e hz hz7 => by
  have hj:=hlo j (by rw [e]; exact hz)
  show (if j=p.ob then _ else if j=p.lb then _ else C j)=z
  rw [if_neg (by omega),if_neg (fun e2 => hz7 (by rw [← e,e2,h2]))]; exact e
 have old:∀ j,C' j≠(0,0)→C j≠(0,0)∨(w.heap.size≤j∧j < w'.heap.size):=fun j hj => by
  by_cases e1:j=p.ob
  ·exact .inr (by rw [e1]; exact h1)
  ·by_cases e2:j=p.lb
   ·exact .inl (by rw [e2,h2]; decide)
   ·have hj:(if j=p.ob then (3,k.os.length) else if j=p.lb then (4,k.os.length) else C j)≠(0,0):=hj
    rw [if_neg e1,if_neg e2] at hj; exact .inl hj
 have get:∀ (i:Nat) o,(k.os ++ [p])[i]?=some o→k.os[i]?=some o∨(i=k.os.length∧o=p):=fun i o ho => by
  by_cases e:i < k.os.length
  ·rw [List.getElem?_append_left e] at ho; exact .inl ho
  ·rw [List.getElem?_append_right (by omega)] at ho
   have e2:=(List.getElem?_eq_some_iff.1 ho).1
   simp at e2
   have e3:i=k.os.length:=by omega
   subst e3
   simp at ho
   exact .inr ⟨rfl,ho.symm⟩
 refine ⟨C',g.c0,g.c1,g.c2,g.c3,g.c4,fun i o ho => ?_,by rw [show keysK (k.os ++ [p]) k.ow=keysK k.os k.ow from keysK_more h.has p]; exact g.mp,fun t ht => ?_,g.vm,g.pr,?_,keep h.ckb (by decide) (by decide),keep h.com (by decide) (by decide),fun i o ho => ?_,fun i o ho => ?_,fun j hj => keep (h.cvm j hj) (by decide) (by decide),fun j hj => keep (h.cpr j hj) (by decide) (by decide),fun j hj => ?_,g.turn⟩
 ·rcases get i o ho with ho | ⟨rfl,rfl⟩
  ·exact g.own i o ho
  ·exact ⟨x,y,hx,hy,hO,hL⟩
 ·obtain ⟨o,ho⟩:=h.has t ht
  exact ⟨o,by show (k.os ++ [p])[t.2]?=_; rw [List.getElem?_append_left (List.getElem?_eq_some_iff.1 ho).1]; exact ho⟩
 ·refine h.desc.rebase (t.mono (fun _ _ h => h.elim)) (fun j hj => ?_) (fun j hj => ?_)
  ·rcases hj with hj | hj
   ·exact .inl (.inl hj)
   ·exact (old j hj).imp .inr (fun e => e.1)
  ·rcases hj with hj | hj
   ·exact Nat.lt_of_lt_of_le hj g.turn.size
   ·rcases old j hj with e | e
    ·exact Nat.lt_of_lt_of_le (hlo j e) t.size
    ·exact e.2
 ·rcases get i o ho with ho | ⟨rfl,rfl⟩
  ·exact keep (h.cob i o ho) (by simp) (by simp)
  ·show (if o.ob=o.ob then _ else _)=_; rw [if_pos rfl]
 ·rcases get i o ho with ho | ⟨rfl,rfl⟩
  ·exact keep (h.clb i o ho) (by simp) (by simp)
  ·show (if o.lb=o.ob then _ else if o.lb=o.lb then _ else _)=_; rw [if_neg (fun e => hne e.symm),if_pos rfl]
 ·rcases old j hj with e | e
  ·exact ⟨(h.low j e).1,Nat.lt_of_lt_of_le (hlo j e) t.size⟩
  ·exact ⟨Nat.le_trans h.turn.size e.1,e.2⟩
end
def Owned (k:KS) (i:Nat):Prop:=∃ pid,mget k.ow pid=some i
structure KOk (k:KS):Prop where
 kin:Kin k.pl k.pf
 dok:DOk k.S
 joint:Joint k.S k.ts
 len:k.l.length=k.os.length∧k.ts.length=k.os.length∧k.os.length≤100
 run:∀ pid,RunsIn k.pl k.pf pid ↔ (mget k.ow pid).isSome=true
 nd:MNodup k.ow
 inj:∀ p q i,mget k.ow p=some i→mget k.ow q=some i→p=q
 live:∀ (i:Nat) o x y,k.os[i]?=some o→k.l[i]?=some x→k.ts[i]?=some y→Owned k i→o.u 0=lenP x.P∧o.u 1=usedL y.2∧o.u 2=0
 fit:∀ (i:Nat) o,k.os[i]?=some o→Fit o.u o.m∧-100≤o.adj∧o.adj≤100
 dead:∀ (i:Nat) x y,k.l[i]?=some x→k.ts[i]?=some y→¬ Owned k i→(x.P=fun _ => none)∧usedL y.2=0
 lt:∀ pid i,mget k.ow pid=some i→i < k.os.length
section
variable {W w w' w1:World} {a:KA} {k:KS} {C C':Nat→Nat×Nat} {pid:Int} {i:Nat} {o:KO}
theorem mget_keysK (os:List KO):∀ (ow:List (Int×Nat)) (pid:Int),mget (keysK os ow) pid=(mget ow pid).map (obOf os)
 | [],_ => rfl
 | t :: ow,pid => by
  have ih:=mget_keysK os ow pid
  unfold keysK mget at *
  rw [List.map_cons,List.find?_cons,List.find?_cons]
  by_cases e:t.1=pid
  ·simp only [e,decide_true]; rfl
  ·simp only [e,decide_false]; exact ih
theorem zeroOwn (w:World):(zeroValue 107).run Tryz.prog w=.ok (.pointer none) w:=by kernel_rfl
theorem KIn.look (h:KIn W w a k C) (hi:mget k.ow pid=some i) (ho:k.os[i]?=some o):(Instr.lookup 116 (.map (some a.om)) (.int .i64 pid) false).run Tryz.prog w=.ok (.pointer (some ⟨o.ob,0,none⟩)) w:=by
 have h1:=h.mp.run_lookup (P:=Tryz.prog) keyI Tryz.underlying116 Tryz.underlying3 (zeroOwn w) pid false
 rw [mget_keysK,hi] at h1
 have e:obOf k.os i=o.ob:=by unfold obOf; rw [ho]; rfl
 rw [Option.map_some,e] at h1
 exact h1
theorem who_yes (h:KIn W w a k C) (hok:KOk k) (hi:mget k.ow pid=some i) (ho:k.os[i]?=some o) :
  Calls Tryz.prog 52 #[.pointer (some ⟨a.kb,0,none⟩),.int .i64 pid] w fun e w' => e=.returned (.tuple #[.pointer (some ⟨o.ob,0,none⟩),.nilIface])∧w'=w:=by
 have hr:RunsIn k.pl k.pf pid:=(hok.run pid).2 (by rw [hi]; rfl)
 have HR:=hid (runs_yes h.pr pid hr)
 have lk:=h.look hi ho
 have c3:=h.c3
 have c4:=h.c4
 clear h hok hi ho hr
 go_enter Tryz.func52,Tryz.ntmps52
 go_wp2_with fail
 refine HR.out.mono ?_
 rintro e w1 ⟨rfl,rfl⟩
 go_wp2_with fail
 go_returns
 exact ⟨rfl,rfl⟩
theorem who_no (h:KIn W w a k C) (hok:KOk k) (hi:mget k.ow pid=none) :
  Calls Tryz.prog 52 #[.pointer (some ⟨a.kb,0,none⟩),.int .i64 pid] w fun e w' => e=.returned (.tuple #[.pointer none,.iface 36 (.int .i64 7)])∧w'=w:=by
 have hr:¬ RunsIn k.pl k.pf pid:=fun hr => by have:=(hok.run pid).1 hr; rw [hi] at this; cases this
 have HR:=hid (runs_no h.pr pid hr)
 have c3:=h.c3
 clear h hok hi hr
 go_enter Tryz.func52,Tryz.ntmps52
 go_wp2_with fail
 refine HR.out.mono ?_
 rintro e w1 ⟨rfl,rfl⟩
 go_wp2_with fail
 go_returns
 exact ⟨rfl,rfl⟩
def kUsed (a:KA) (k:KS):Nat:=usedN k.t.R a.n
theorem kleft_is (h:KIn W w a k C):Calls Tryz.prog 27 #[.pointer (some ⟨a.kb,0,none⟩)] w fun e w' => e=.returned (.int .i64 ((a.n:Int) - kUsed a k))∧w'=w:=by
 have HL:=hid (vmLeft_is h.vm.store)
 have c0:=h.c0
 clear h
 go_enter Tryz.func27,Tryz.ntmps27
 go_wp2_with fail
 refine HL.out.mono ?_
 rintro e w1 ⟨rfl,rfl⟩
 go_wp2_with fail
 go_returns
 exact ⟨rfl,rfl⟩
theorem kopen_is (h:KIn W w a k C):Calls Tryz.prog 21 #[.pointer (some ⟨a.kb,0,none⟩)] w fun e w' => e=.returned (.int .i64 (k.S.es.length:Int))∧w'=w:=by
 have HL:=hid (law_open h.desc)
 have c2:=h.c2
 clear h
 go_enter Tryz.func21,Tryz.ntmps21
 go_wp2_with fail
 refine HL.out.mono ?_
 rintro e w1 ⟨rfl,hw⟩; subst w1
 go_wp2_with fail
 go_returns
 exact ⟨rfl,rfl⟩
theorem kstate_is (h:KIn W w a k C) (pid:Int):Calls Tryz.prog 29 #[.pointer (some ⟨a.kb,0,none⟩),.int .i64 pid] w fun e w' => e=.returned (.int .i64 (stR k.pl k.pf pid))∧w'=w:=by
 have HL:=hid (state_is h.pr pid)
 have c3:=h.c3
 clear h
 go_enter Tryz.func29,Tryz.ntmps29
 go_wp2_with fail
 refine HL.out.mono ?_
 rintro e w1 ⟨rfl,rfl⟩
 go_wp2_with fail
 go_returns
 exact ⟨rfl,rfl⟩
end
section
variable {W w w' w1:World} {a:KA} {k:KS} {C C':Nat→Nat×Nat} {pid:Int} {i:Nat} {o:KO} {x:Spc} {y:Nat×PTab}
structure Mine (k:KS) (pid:Int) (i:Nat) (o:KO) (x:Spc) (y:Nat×PTab):Prop where
 own:mget k.ow pid=some i
 ko:k.os[i]?=some o
 sp:k.l[i]?=some x
 tab:k.ts[i]?=some y
theorem KIn.mine (h:KIn W w a k C) (hok:KOk k) (hi:mget k.ow pid=some i):∃ o x y,Mine k pid i o x y:=by
 have hl:=hok.lt pid i hi
 obtain ⟨o,ho⟩:∃ o,k.os[i]?=some o:=⟨_,List.getElem?_eq_getElem hl⟩
 obtain ⟨x,y,h1,h2,_⟩:=h.own i o ho
 exact ⟨o,x,y,hi,ho,h1,h2⟩
theorem KIn.at_ (h:KIn W w a k C) (hm:Mine k pid i o x y):OwnAt w o.ob x.sp y.1 o.lb o.adj∧LedgerIs w o.lb o.u o.m:=by
 obtain ⟨x',y',h1,h2,h3,h4⟩:=h.own i o hm.ko
 rw [hm.sp] at h1; rw [hm.tab] at h2
 cases h1; cases h2
 exact ⟨h3,h4⟩
def HasIs (k:KS) (pid:Int) (e:Ending):Prop :=
 (mget k.ow pid=none∧e=.returned (.tuple #[.int .i64 0,.int .i64 0,.int .i64 0,.iface 36 (.int .i64 7)])) ∨
 ∃ i o x y,Mine k pid i o x y∧e=.returned (.tuple #[.int .i64 (lenP x.P:Int),.int .i64 (resP x.P:Int),.int .i64 (usedL y.2:Int),.nilIface])
theorem khas_no (h:KIn W w a k C) (hok:KOk k) (hi:mget k.ow pid=none) :
  Calls Tryz.prog 26 #[.pointer (some ⟨a.kb,0,none⟩),.int .i64 pid] w fun e w' => e=.returned (.tuple #[.int .i64 0,.int .i64 0,.int .i64 0,.iface 36 (.int .i64 7)])∧w'=w:=by
 have HW:=hid (who_no h hok hi)
 clear h hok hi
 go_enter Tryz.func26,Tryz.ntmps26
 go_wp2_with fail
 refine HW.out.mono ?_
 rintro e w1 ⟨rfl,hw⟩; subst w1
 go_wp2_with fail
 go_returns
 exact ⟨rfl,rfl⟩
theorem khas_yes (h:KIn W w a k C) (hok:KOk k) (hm:Mine k pid i o x y) :
  Calls Tryz.prog 26 #[.pointer (some ⟨a.kb,0,none⟩),.int .i64 pid] w fun e w' => e=.returned (.tuple #[.int .i64 (lenP x.P:Int),.int .i64 (resP x.P:Int),.int .i64 (usedL y.2:Int),.nilIface])∧Turn (fun _ => False) w w':=by
 have HW:=hid (who_yes h hok hm.own hm.ko)
 obtain ⟨hO,hL⟩:=h.at_ hm
 have HLen:=hid (fun w' (tt:Turn (fun _ => False) w w') => vmLen_is (((h.still tt).vm.sps i x hm.sp)))
 have HRes:=hid (fun w' (tt:Turn (fun _ => False) w w') => vmRes_is (((h.still tt).vm.sps i x hm.sp)))
 have HUs:=hid (fun w' (tt:Turn (fun _ => False) w w') => used_is (((h.still tt).desc.tabs i y hm.tab).1))
 have c0:=hO.c0
 have c1:=hO.c1
 clear h hok hm hO hL
 obtain ⟨A,hA⟩:∃ A,lenP x.P=A:=⟨_,rfl⟩
 obtain ⟨B,hB⟩:∃ B,resP x.P=B:=⟨_,rfl⟩
 obtain ⟨D,hD⟩:∃ D,usedL y.2=D:=⟨_,rfl⟩
 obtain ⟨sp,hsp⟩:∃ sp,x.sp=sp:=⟨_,rfl⟩
 obtain ⟨tab,htab⟩:∃ tab,y.1=tab:=⟨_,rfl⟩
 obtain ⟨ob,hob⟩:∃ ob,o.ob=ob:=⟨_,rfl⟩
 rw [hA,hsp] at HLen
 rw [hB,hsp] at HRes
 rw [hD,htab] at HUs
 rw [hA,hB,hD]
 rw [hob,hsp] at c0
 rw [hob,htab] at c1
 rw [hob] at HW
 clear hA hB hD hsp htab hob
 have td:Turn (fun _ => False) w w.drew:=(Turn.refl _ _).drew
 have HTd:=hid td
 have k0:=(td.cell (lt_of_cell c0) id).trans c0
 have k1:=(td.cell (lt_of_cell c1) id).trans c1
 clear td
 go_enter Tryz.func26,Tryz.ntmps26
 go_wp2_with fail
 refine HW.out.mono ?_
 rintro e w1 ⟨rfl,hw⟩; subst w1
 go_wp2_with fail
 go_region_held3 (fun w' => w'.cell? ⟨ob,0,none⟩=some (.pointer (some ⟨sp,0,none⟩))∧w'.cell? ⟨ob,1,none⟩=some (.pointer (some ⟨tab,0,none⟩)))
  (first | exact ⟨k0,k1⟩ | exact ⟨k06,k16⟩ | exact ⟨k07,k17⟩ | go_keep)
  (first
   | (go_at_call 76; refine (HLen.out _ HTd.out).mono ?_; rintro e w5 ⟨rfl,rfl⟩)
   | (go_at_call 77; refine (HRes.out _ HTd.out).mono ?_; rintro e w6 ⟨rfl,t6⟩; have HT6:=hid (HTd.out.trans t6); have k06:=(t6.cell (lt_of_cell k0) id).trans k0; have k16:=(t6.cell (lt_of_cell k1) id).trans k1; clear t6)
   | (go_at_call 78; refine (HUs.out _ HT6.out).mono ?_; rintro e w7 ⟨rfl,t7⟩; have HT7:=hid (HT6.out.trans t7); have k07:=(t7.cell (lt_of_cell k06) id).trans k06; have k17:=(t7.cell (lt_of_cell k16) id).trans k16; clear t7))
 all_goals go_wp2_with fail
 all_goals go_returns
 all_goals exact ⟨rfl,HT7.out⟩
theorem khas_is (h:KIn W w a k C) (hok:KOk k) (pid:Int) :
  Calls Tryz.prog 26 #[.pointer (some ⟨a.kb,0,none⟩),.int .i64 pid] w fun e w' => HasIs k pid e∧Turn (fun _ => False) w w':=by
 cases hi:mget k.ow pid with
 | none =>
  refine (khas_no h hok hi).mono ?_
  rintro e w' ⟨rfl,rfl⟩
  exact ⟨.inl ⟨hi,rfl⟩,Turn.refl _ _⟩
 | some i =>
  obtain ⟨o,x,y,hm⟩:=h.mine hok hi
  refine (khas_yes h hok hm).mono ?_
  rintro e w' ⟨rfl,t⟩
  exact ⟨.inr ⟨i,o,x,y,hm,rfl⟩,t⟩
def Charged1 (lb:Nat) (u m:Nat→Int) (kind n:Int) (w:World) (e:Ending) (w':World):Prop :=
 (why u m (kind,n)=0∧e=.returned .nilIface∧LedgerIs w' lb (done u (kind,n)) m∧Fit (done u (kind,n)) m∧Turn (fun j => j=lb) w w') ∨
 (why u m (kind,n)≠0∧∃ b,e=.returned (.iface 246 (.pointer (some ⟨b,0,none⟩)))∧w'.cell? ⟨b,0,none⟩=some (.int .i64 (why u m (kind,n)))∧Turn (fun _ => False) w w'∧w.heap.size≤b)
theorem charge_one {lb:Nat} {u m:Nat→Int} (h:LedgerIs w lb u m) (hf:Fit u m) (kind n:Int) :
  Calls Tryz.prog 60 #[.pointer (some ⟨lb,0,none⟩),.slice (some ⟨w.heap.size,0,none⟩) 1 1] (w.alloc (.cells #[.int .i64 kind,.int .i64 n] 129)) (Charged1 lb u m kind n w):=by
 have ta:Turn (fun _ => False) w (w.alloc (.cells #[.int .i64 kind,.int .i64 n] 129)):=(Turn.refl _ _).alloc _
 refine (charge_any (h.turned ta id) hf (some ⟨w.heap.size,0,none⟩) [(kind,n)] 1 (by simp) (fun _ => ⟨w.heap.size,0,rfl,fun j z hz => ?_,by simp⟩)).mono ?_
 ·cases j with
  | zero => simp at hz; subst hz; simp
  | succ j => simp at hz
 ·rintro e w' (⟨v,hc,hfit,rfl,hl,t⟩ | ⟨er,i,b,hc,hne,rfl,h0,h1,hb,t⟩)
  ·unfold chg at hc
   by_cases e:why u m (kind,n)=0
   ·rw [if_pos e] at hc
    unfold chg at hc
    cases hc
    exact .inl ⟨e,rfl,hl,hfit,(ta.mono (fun _ _ h => h.elim)).trans t⟩
   ·rw [if_neg e] at hc; cases hc
  ·unfold chg at hc
   by_cases e:why u m (kind,n)=0
   ·rw [if_pos e] at hc
    unfold chg at hc
    cases hc
   ·rw [if_neg e] at hc
    cases hc
    exact .inr ⟨e,b,rfl,h0,ta.trans t,Nat.le_trans ta.size hb⟩
theorem kbare_at (z:Int) (b:Nat) (w:World) (hg:Laid w) (hat:w.cell? ⟨b,0,none⟩=some (.int .i64 z)) :
  Calls Tryz.prog 130 #[.iface 246 (.pointer (some ⟨b,0,none⟩))] w fun e w' => e=.returned (.iface 36 (.int .i64 z))∧Turn (fun _ => False) w w':=by
 have HT:=hid (tell_at z b w hg hat)
 clear hg hat
 go_enter Tryz.func130,Tryz.ntmps130
 go_wp2_with fail
 refine HT.out.mono ?_
 rintro e w1 ⟨rfl,t⟩
 have HT1:=hid t
 clear t
 go_wp2_with fail
 go_returns
 exact ⟨rfl,HT1.out⟩
end
section
variable {W w w' w1:World} {a:KA} {k:KS} {C C':Nat→Nat×Nat} {pid:Int} {i:Nat} {o:KO} {x:Spc} {y:Nat×PTab} {P P':Int→Option Pg} {t':St} {u':Nat→Int}
/-! ### how many pages -/
theorem lenP_set (P:Int→Option Pg) (i:Int) (q:Option Pg) (h0:0≤i) (h:i < 64):lenP (setP P i q)+(if (P i).isSome then 1 else 0)=lenP P+(if q.isSome then 1 else 0):=by
 obtain ⟨j,rfl⟩:∃ j:Nat,i=j:=⟨i.toNat,by omega⟩
 have h1:=sumN_upd (fun i:Nat => if (P (i:Int)).isSome then 1 else 0) j (if q.isSome then 1 else 0) 64 (by omega)
 have h2:(fun i:Nat => if (setP P (j:Int) q (i:Int)).isSome then 1 else 0)=fun i:Nat => if i=j then (if q.isSome then 1 else 0) else if (P (i:Int)).isSome then 1 else 0:=by
  funext i
  unfold setP
  by_cases e:i=j
  ·subst e; rw [if_pos rfl,if_pos rfl]
  ·rw [if_neg e]
   have e2:(if ((i:Nat):Int)=(j:Int) then q else P (i:Int))=P (i:Int):=if_neg (by omega)
   simp only [e2]
 unfold lenP
 rw [h2]
 exact h1
theorem thereN_zero {P:Int→Option Pg} {a:Int} {n:Nat} (h:thereN P a n=0) (j:Nat) (hj:j < n):P (a+j)=none:=by
 unfold thereN at h
 induction n with
 | zero => omega
 | succ n ih =>
  rw [cntB_succ] at h
  by_cases e:j=n
  ·subst e
   cases hp:P (a+j) with
   | none => rfl
   | some q => rw [hp] at h; simp at h
  ·exact ih (by omega) (by omega)
theorem thereN_full {P:Int→Option Pg} {a:Int} {n:Nat} (h:n≤thereN P a n) (j:Nat) (hj:j < n):∃ q,P (a+j)=some q:=by
 unfold thereN at h
 induction n with
 | zero => omega
 | succ n ih =>
  rw [cntB_succ] at h
  have hle:∀ m,cntB (fun j => (P (a+(j:Int))).isSome) m≤m:=fun m => by
   induction m with
   | zero => exact Nat.le_refl _
   | succ m ih2 => rw [cntB_succ]; split <;> omega
  have hn:=hle n
  by_cases e:j=n
  ·subst e
   cases hp:P (a+j) with
   | none => rw [hp] at h; simp at h; omega
   | some q => exact ⟨q,rfl⟩
  ·refine ih ?_ (by omega)
   split at h <;> omega
theorem lenP_map {a n prot:Int} (h:mapE P a n prot=0):(lenP (mapP P a n prot):Int)=lenP P+n∧1≤n∧n≤64∧∀ i,a≤i→i < a+n→P i=none:=by
 unfold mapE at h
 by_cases h1:RightP a n
 ·rw [if_neg (fun e => e h1)] at h
  split at h
  ·cases h
  ·split at h
   ·cases h
   ·rename_i _ h3
    obtain ⟨r1,r2,r3,r4⟩:=h1
    obtain ⟨N,rfl⟩:∃ N:Nat,n=N:=⟨n.toNat,by omega⟩
    have h0:thereN P a N=0:=by simpa using h3
    have hno:=thereN_zero h0
    have key:∀ j:Nat,j≤N→lenP (mapP P a j prot)=lenP P+j:=by
     intro j
     induction j with
     | zero => intro _; rw [show ((0:Nat):Int)=0 from rfl,mapP_start]; rfl
     | succ j ih =>
      intro hj
      have e:mapP P a ((j+1:Nat):Int) prot=setP (mapP P a j prot) (a+j) (some (prot,-1)):=mapP_more P a prot j
      have hz:mapP P a j prot (a+j)=none:=by
       unfold mapP
       rw [if_neg (by omega)]
       exact hno j (by omega)
      have h5:=lenP_set (mapP P a j prot) (a+j) (some (prot,-1)) (by omega) (by omega)
      rw [hz] at h5
      rw [e]
      have h6:=ih (by omega)
      simp at h5
      omega
    refine ⟨by rw [key N (Nat.le_refl _)]; omega,r2,r3,fun i h4 h5 => ?_⟩
    have:=hno (i - a).toNat (by omega)
    rwa [show a+((i - a).toNat:Int)=i by omega] at this
 ·rw [if_pos h1] at h; cases h
theorem lenP_unmap {a n:Int} (h:unmapE P a n=0):(lenP (unmapP P a n):Int)+n=lenP P∧1≤n∧n≤64:=by
 unfold unmapE at h
 by_cases h1:RightP a n
 ·rw [if_neg (fun e => e h1)] at h
  split at h
  ·cases h
  ·rename_i h3
   obtain ⟨r1,r2,r3,r4⟩:=h1
   obtain ⟨N,rfl⟩:∃ N:Nat,n=N:=⟨n.toNat,by omega⟩
   have h0:N≤thereN P a N:=by simpa using h3
   have hf:=thereN_full h0
   have key:∀ j:Nat,j≤N→lenP (unmapP P a j)+j=lenP P:=by
    intro j
    induction j with
    | zero => intro _; rw [show ((0:Nat):Int)=0 from rfl,unmapP_start]; rfl
    | succ j ih =>
     intro hj
     obtain ⟨q,hq⟩:=hf j (by omega)
     have h5:=lenP_set (unmapP P a j) (a+j) none (by omega) (by omega)
     rw [unmapP_at,hq] at h5
     rw [unmapP_more]
     have h6:=ih (by omega)
     simp at h5
     omega
   exact ⟨by have:=key N (Nat.le_refl _); omega,r2,r3⟩
 ·rw [if_pos h1] at h; cases h
theorem lenP_prot (P:Int→Option Pg) (a n prot:Int):lenP (protP P a n prot)=lenP P:=sumN_congr fun i _ => by
 unfold protP
 split
 ·rw [Option.isSome_map]
 ·rfl
theorem lenP_none:lenP (fun _ => none)=0:=sumN_zero fun i _ => rfl
theorem unmap_map {a n prot:Int} (h:∀ i,a≤i→i < a+n→P i=none):unmapP (mapP P a n prot) a n=P:=by
 funext i
 unfold unmapP mapP
 by_cases e:a≤i∧i < a+n
 ·rw [if_pos e,h i e.1 e.2]
 ·rw [if_neg e,if_neg e]
/-! ### one process's pages turn -/
def stepK (k:KS) (i:Nat) (o:KO) (x:Spc) (P':Int→Option Pg) (t':St) (u':Nat→Int):KS:={ k with t:=t',l:=k.l.set i ⟨x.sp,x.pm,P'⟩,os:=k.os.set i { o with u:=u' } }
theorem list_set_same {α:Type} {l:List α} {i:Nat} {z:α} (h:l[i]?=some z):l.set i z=l:=by
 apply List.ext_getElem?
 intro j
 rw [List.getElem?_set]
 by_cases e:i=j
 ·subst e
  rw [if_pos rfl,if_pos (List.getElem?_eq_some_iff.1 h).1,h]
 ·rw [if_neg e]
theorem get_set_cases {α:Type} {l:List α} {i j:Nat} {z v:α} (h:(l.set i z)[j]?=some v):(j=i∧v=z∧∃ v0,l[i]?=some v0)∨(j≠i∧l[j]?=some v):=by
 rw [List.getElem?_set] at h
 by_cases e:i=j
 ·subst e
  rw [if_pos rfl] at h
  by_cases hl:i < l.length
  ·rw [if_pos hl] at h
   cases h
   exact .inl ⟨rfl,rfl,⟨_,List.getElem?_eq_getElem hl⟩⟩
  ·rw [if_neg hl] at h; cases h
 ·rw [if_neg e] at h
  exact .inr ⟨fun e2 => e e2.symm,h⟩
theorem KIn.vmAtC (h:KIn W w a k C) (hx:k.l[i]?=some x) (hA:VmAfter a.s a.n k.t x.sp x.pm (fun f => sumC (k.l.eraseIdx i) f) w w' P' t'):∃ C',KIn W w' a { k with t:=t',l:=k.l.set i ⟨x.sp,x.pm,P'⟩ } C'∧Own7 C C' w w' :=
 ⟨_,h.vmStepC (h.vm.after hx hA) (fun j z hz => by
  by_cases e:i=j
  ·subst e
   rw [hx] at hz; cases hz
   exact ⟨⟨x.sp,x.pm,P'⟩,by rw [List.getElem?_set,if_pos rfl,if_pos (List.getElem?_eq_some_iff.1 hx).1],rfl⟩
  ·exact ⟨z,by rw [List.getElem?_set,if_neg e]; exact hz,rfl⟩)⟩
theorem KIn.vmAt (h:KIn W w a k C) (hx:k.l[i]?=some x) (hA:VmAfter a.s a.n k.t x.sp x.pm (fun f => sumC (k.l.eraseIdx i) f) w w' P' t'):KIs W w' a { k with t:=t',l:=k.l.set i ⟨x.sp,x.pm,P'⟩ }:=by
 obtain ⟨C',h',_⟩:=h.vmAtC hx hA
 exact ⟨C',h'⟩
theorem KOk.step (h:KOk k) (hm:Mine k pid i o x y) (hu:u' 0=lenP P'∧u' 1=o.u 1∧u' 2=o.u 2) (hf:Fit u' o.m):KOk (stepK k i o x P' t' u'):=by
 refine ⟨h.kin,h.dok,h.joint,⟨by unfold stepK; simp only [List.length_set]; exact h.len.1,by unfold stepK; simp only [List.length_set]; exact h.len.2.1,by unfold stepK; simp only [List.length_set]; exact h.len.2.2⟩,h.run,h.nd,h.inj,fun j p v z hp hv hz hown => ?_,fun j p hp => ?_,fun j v z hv hz hno => ?_,fun q j hq => by unfold stepK; simp only [List.length_set]; exact h.lt q j hq⟩
 ·rcases get_set_cases hp with ⟨rfl,rfl,_⟩ | ⟨hne,hp⟩
  ·rcases get_set_cases hv with ⟨_,rfl,_⟩ | ⟨hne,_⟩
   ·have hz':z=y:=by have:=hm.tab; rw [show k.ts[j]?=some z from hz] at this; cases this; rfl
    subst hz'
    have hl:=h.live j o x z hm.ko hm.sp hz hown
    exact ⟨hu.1,hu.2.1.trans hl.2.1,hu.2.2.trans hl.2.2⟩
   ·exact absurd rfl hne
  ·rcases get_set_cases hv with ⟨e,_⟩ | ⟨_,hv⟩
   ·exact absurd e hne
   ·exact h.live j p v z hp hv hz hown
 ·rcases get_set_cases hp with ⟨rfl,rfl,_⟩ | ⟨hne,hp⟩
  ·exact ⟨hf,(h.fit j o hm.ko).2⟩
  ·exact h.fit j p hp
 ·rcases get_set_cases hv with ⟨rfl,rfl,_⟩ | ⟨hne,hv⟩
  ·exact absurd ⟨pid,hm.own⟩ hno
  ·exact h.dead j v z hv hz hno
theorem KOk.tst (h:KOk k) (t':St):KOk { k with t:=t' }:=⟨h.kin,h.dok,h.joint,h.len,h.run,h.nd,h.inj,h.live,h.fit,h.dead,h.lt⟩
def KTo (W:World) (a:KA) (k:KS) (z:Int) (R:KS→Prop) (w':World):Prop :=
 ∃ k',KIs W w' a k'∧KOk k'∧(z=0→R k')∧(z≠0→∃ t',t'.m=k.t.m∧k'={ k with t:=t' })
theorem KTo.no {z:Int} {R:KS→Prop} (h:KIs W w' a k) (hok:KOk k) (hz:z≠0):KTo W a k z R w':=⟨k,h,hok,fun e => absurd e hz,fun _ => ⟨k.t,rfl,rfl⟩⟩
theorem KIn.frames (h:KIn W w a k C) (hx:k.l[i]?=some x):∀ j q,x.P j=some q→0≤q.2→0 < k.t.R q.2:=fun j q hq h0 => by
 have h1:=h.vm.refs q.2 h0
 have h2:=sumC_pos hx q.2
 have h3:=cntF_ge (P:=x.P) (i:=j) (f:=q.2) ((h.vm.sps i x hx).dom j q hq).1 ((h.vm.sps i x hx).dom j q hq).2
 rw [hq,hasF_some,if_pos rfl] at h3
 omega
theorem kload_yes (h:KIn W w a k C) (hok:KOk k) (hm:Mine k pid i o x y) (p q:Int) :
  Calls Tryz.prog 31 #[.pointer (some ⟨a.kb,0,none⟩),.int .i64 pid,.int .i64 p,.int .i64 q] w (LoadIs x.P k.t.m p q w):=by
 have HW:=hid (who_yes h hok hm.own hm.ko)
 obtain ⟨hO,hL⟩:=h.at_ hm
 have HLd:=hid (vmLoad_is h.vm.store (h.vm.sps i x hm.sp) (h.frames hm.sp) p q)
 have c0:=hO.c0
 clear h hok hm hO hL
 unfold LoadIs at HLd ⊢
 go_enter Tryz.func31,Tryz.ntmps31
 go_wp2_with fail
 refine HW.out.mono ?_
 rintro e w1 ⟨rfl,hw⟩; subst w1
 go_wp2_with fail
 refine HLd.out.mono ?_
 rintro e w2 ⟨rfl,t⟩
 have HT:=hid t
 clear t
 go_wp2_with fail
 go_returns
 exact ⟨rfl,HT.out⟩
end
section
variable {W w w' w1:World} {a:KA} {k:KS} {C C':Nat→Nat×Nat} {pid:Int}
theorem ksignal_no (h:KIn W w a k C) (hok:KOk k) (hi:mget k.ow pid=none)  :
  Calls Tryz.prog 38 #[.pointer (some ⟨a.kb,0,none⟩),.int .i64 pid] w fun e w' => e=.returned (.tuple #[.bool false,.iface 36 (.int .i64 7)])∧Turn (fun _ => False) w w':=by
 have HW:=hid (fun w' (tt:Turn (fun _ => False) w w') => who_no (h.still tt) hok hi)
 clear h hok hi
 go_enter Tryz.func38,Tryz.ntmps38
 go_wp2_with fail
 refine (HW.out _ (by (repeat refine Turn.alloc ?_ _); exact Turn.refl _ _)).mono ?_
 rintro e w1 ⟨rfl,hw⟩; subst w1
 go_wp2_with fail
 go_returns
 exact ⟨rfl,by (repeat refine Turn.alloc ?_ _); exact Turn.refl _ _⟩
theorem kfork_no (h:KIn W w a k C) (hok:KOk k) (hi:mget k.ow pid=none)  :
  Calls Tryz.prog 14 #[.pointer (some ⟨a.kb,0,none⟩),.int .i64 pid] w fun e w' => e=.returned (.tuple #[.int .i64 0,.iface 36 (.int .i64 7)])∧Turn (fun _ => False) w w':=by
 have HW:=hid (fun w' (tt:Turn (fun _ => False) w w') => who_no (h.still tt) hok hi)
 clear h hok hi
 go_enter Tryz.func14,Tryz.ntmps14
 go_wp2_with fail
 refine (HW.out _ (by (repeat refine Turn.alloc ?_ _); exact Turn.refl _ _)).mono ?_
 rintro e w1 ⟨rfl,hw⟩; subst w1
 go_wp2_with fail
 go_returns
 exact ⟨rfl,by (repeat refine Turn.alloc ?_ _); exact Turn.refl _ _⟩
theorem kexit_no (h:KIn W w a k C) (hok:KOk k) (hi:mget k.ow pid=none) (c:Int) :
  Calls Tryz.prog 20 #[.pointer (some ⟨a.kb,0,none⟩),.int .i64 pid,.int .i64 c] w fun e w' => e=.returned (.iface 36 (.int .i64 7))∧Turn (fun _ => False) w w':=by
 have HW:=hid (fun w' (tt:Turn (fun _ => False) w w') => who_no (h.still tt) hok hi)
 clear h hok hi
 go_enter Tryz.func20,Tryz.ntmps20
 go_wp2_with fail
 refine (HW.out _ (by (repeat refine Turn.alloc ?_ _); exact Turn.refl _ _)).mono ?_
 rintro e w1 ⟨rfl,hw⟩; subst w1
 go_wp2_with fail
 go_returns
 exact ⟨rfl,by (repeat refine Turn.alloc ?_ _); exact Turn.refl _ _⟩
theorem kexec_no (h:KIn W w a k C) (hok:KOk k) (hi:mget k.ow pid=none)  :
  Calls Tryz.prog 33 #[.pointer (some ⟨a.kb,0,none⟩),.int .i64 pid] w fun e w' => e=.returned (.iface 36 (.int .i64 7))∧Turn (fun _ => False) w w':=by
 have HW:=hid (fun w' (tt:Turn (fun _ => False) w w') => who_no (h.still tt) hok hi)
 clear h hok hi
 go_enter Tryz.func33,Tryz.ntmps33
 go_wp2_with fail
 refine (HW.out _ (by (repeat refine Turn.alloc ?_ _); exact Turn.refl _ _)).mono ?_
 rintro e w1 ⟨rfl,hw⟩; subst w1
 go_wp2_with fail
 go_returns
 exact ⟨rfl,by (repeat refine Turn.alloc ?_ _); exact Turn.refl _ _⟩
theorem kkill_no (h:KIn W w a k C) (hok:KOk k) (hi:mget k.ow pid=none) (q s:Int) :
  Calls Tryz.prog 114 #[.pointer (some ⟨a.kb,0,none⟩),.int .i64 pid,.int .i64 q,.int .i64 s] w fun e w' => e=.returned (.iface 36 (.int .i64 7))∧Turn (fun _ => False) w w':=by
 have HW:=hid (fun w' (tt:Turn (fun _ => False) w w') => who_no (h.still tt) hok hi)
 clear h hok hi
 go_enter Tryz.func114,Tryz.ntmps114
 go_wp2_with fail
 refine (HW.out _ (by (repeat refine Turn.alloc ?_ _); exact Turn.refl _ _)).mono ?_
 rintro e w1 ⟨rfl,hw⟩; subst w1
 go_wp2_with fail
 go_returns
 exact ⟨rfl,by (repeat refine Turn.alloc ?_ _); exact Turn.refl _ _⟩
theorem klimit_no (h:KIn W w a k C) (hok:KOk k) (hi:mget k.ow pid=none) (q s:Int) :
  Calls Tryz.prog 23 #[.pointer (some ⟨a.kb,0,none⟩),.int .i64 pid,.int .i64 q,.int .i64 s] w fun e w' => e=.returned (.iface 36 (.int .i64 7))∧Turn (fun _ => False) w w':=by
 have HW:=hid (fun w' (tt:Turn (fun _ => False) w w') => who_no (h.still tt) hok hi)
 clear h hok hi
 go_enter Tryz.func23,Tryz.ntmps23
 go_wp2_with fail
 refine (HW.out _ (by (repeat refine Turn.alloc ?_ _); exact Turn.refl _ _)).mono ?_
 rintro e w1 ⟨rfl,hw⟩; subst w1
 go_wp2_with fail
 go_returns
 exact ⟨rfl,by (repeat refine Turn.alloc ?_ _); exact Turn.refl _ _⟩
theorem kadjust_no (h:KIn W w a k C) (hok:KOk k) (hi:mget k.ow pid=none) (q:Int) :
  Calls Tryz.prog 116 #[.pointer (some ⟨a.kb,0,none⟩),.int .i64 pid,.int .i64 q] w fun e w' => e=.returned (.iface 36 (.int .i64 7))∧Turn (fun _ => False) w w':=by
 have HW:=hid (fun w' (tt:Turn (fun _ => False) w w') => who_no (h.still tt) hok hi)
 clear h hok hi
 go_enter Tryz.func116,Tryz.ntmps116
 go_wp2_with fail
 refine (HW.out _ (by (repeat refine Turn.alloc ?_ _); exact Turn.refl _ _)).mono ?_
 rintro e w1 ⟨rfl,hw⟩; subst w1
 go_wp2_with fail
 go_returns
 exact ⟨rfl,by (repeat refine Turn.alloc ?_ _); exact Turn.refl _ _⟩
theorem kmap_no (h:KIn W w a k C) (hok:KOk k) (hi:mget k.ow pid=none) (p q r:Int) :
  Calls Tryz.prog 45 #[.pointer (some ⟨a.kb,0,none⟩),.int .i64 pid,.int .i64 p,.int .i64 q,.int .i64 r] w fun e w' => e=.returned (.iface 36 (.int .i64 7))∧Turn (fun _ => False) w w':=by
 have HW:=hid (fun w' (tt:Turn (fun _ => False) w w') => who_no (h.still tt) hok hi)
 clear h hok hi
 go_enter Tryz.func45,Tryz.ntmps45
 go_wp2_with fail
 refine (HW.out _ (by (repeat refine Turn.alloc ?_ _); exact Turn.refl _ _)).mono ?_
 rintro e w1 ⟨rfl,hw⟩; subst w1
 go_wp2_with fail
 go_returns
 exact ⟨rfl,by (repeat refine Turn.alloc ?_ _); exact Turn.refl _ _⟩
theorem kunmap_no (h:KIn W w a k C) (hok:KOk k) (hi:mget k.ow pid=none) (p q:Int) :
  Calls Tryz.prog 70 #[.pointer (some ⟨a.kb,0,none⟩),.int .i64 pid,.int .i64 p,.int .i64 q] w fun e w' => e=.returned (.iface 36 (.int .i64 7))∧Turn (fun _ => False) w w':=by
 have HW:=hid (fun w' (tt:Turn (fun _ => False) w w') => who_no (h.still tt) hok hi)
 clear h hok hi
 go_enter Tryz.func70,Tryz.ntmps70
 go_wp2_with fail
 refine (HW.out _ (by (repeat refine Turn.alloc ?_ _); exact Turn.refl _ _)).mono ?_
 rintro e w1 ⟨rfl,hw⟩; subst w1
 go_wp2_with fail
 go_returns
 exact ⟨rfl,by (repeat refine Turn.alloc ?_ _); exact Turn.refl _ _⟩
theorem kprotect_no (h:KIn W w a k C) (hok:KOk k) (hi:mget k.ow pid=none) (p q r:Int) :
  Calls Tryz.prog 117 #[.pointer (some ⟨a.kb,0,none⟩),.int .i64 pid,.int .i64 p,.int .i64 q,.int .i64 r] w fun e w' => e=.returned (.iface 36 (.int .i64 7))∧Turn (fun _ => False) w w':=by
 have HW:=hid (fun w' (tt:Turn (fun _ => False) w w') => who_no (h.still tt) hok hi)
 clear h hok hi
 go_enter Tryz.func117,Tryz.ntmps117
 go_wp2_with fail
 refine (HW.out _ (by (repeat refine Turn.alloc ?_ _); exact Turn.refl _ _)).mono ?_
 rintro e w1 ⟨rfl,hw⟩; subst w1
 go_wp2_with fail
 go_returns
 exact ⟨rfl,by (repeat refine Turn.alloc ?_ _); exact Turn.refl _ _⟩
theorem kstore_no (h:KIn W w a k C) (hok:KOk k) (hi:mget k.ow pid=none) (p q r:Int) :
  Calls Tryz.prog 28 #[.pointer (some ⟨a.kb,0,none⟩),.int .i64 pid,.int .i64 p,.int .i64 q,.int .i64 r] w fun e w' => e=.returned (.tuple #[.slice none 0 0,.iface 36 (.int .i64 7)])∧Turn (fun _ => False) w w':=by
 have HW:=hid (fun w' (tt:Turn (fun _ => False) w w') => who_no (h.still tt) hok hi)
 clear h hok hi
 go_enter Tryz.func28,Tryz.ntmps28
 go_wp2_with fail
 refine (HW.out _ (by (repeat refine Turn.alloc ?_ _); exact Turn.refl _ _)).mono ?_
 rintro e w1 ⟨rfl,hw⟩; subst w1
 go_wp2_with fail
 go_returns
 exact ⟨rfl,by (repeat refine Turn.alloc ?_ _); exact Turn.refl _ _⟩
theorem kfile_no (h:KIn W w a k C) (hok:KOk k) (hi:mget k.ow pid=none) (s:ByteArray) (q:Int) (b:Bool) :
  Calls Tryz.prog 71 #[.pointer (some ⟨a.kb,0,none⟩),.int .i64 pid,.string s,.int .i64 q,.bool b] w fun e w' => e=.returned (.tuple #[.int .i64 0,.iface 36 (.int .i64 7)])∧Turn (fun _ => False) w w':=by
 have HW:=hid (fun w' (tt:Turn (fun _ => False) w w') => who_no (h.still tt) hok hi)
 clear h hok hi
 go_enter Tryz.func71,Tryz.ntmps71
 go_wp2_with fail
 refine (HW.out _ (by (repeat refine Turn.alloc ?_ _); exact Turn.refl _ _)).mono ?_
 rintro e w1 ⟨rfl,hw⟩; subst w1
 go_wp2_with fail
 go_returns
 exact ⟨rfl,by (repeat refine Turn.alloc ?_ _); exact Turn.refl _ _⟩
theorem kpipe_no (h:KIn W w a k C) (hok:KOk k) (hi:mget k.ow pid=none)  :
  Calls Tryz.prog 13 #[.pointer (some ⟨a.kb,0,none⟩),.int .i64 pid] w fun e w' => e=.returned (.tuple #[.int .i64 0,.int .i64 0,.iface 36 (.int .i64 7)])∧Turn (fun _ => False) w w':=by
 have HW:=hid (fun w' (tt:Turn (fun _ => False) w w') => who_no (h.still tt) hok hi)
 clear h hok hi
 go_enter Tryz.func13,Tryz.ntmps13
 go_wp2_with fail
 refine (HW.out _ (by (repeat refine Turn.alloc ?_ _); exact Turn.refl _ _)).mono ?_
 rintro e w1 ⟨rfl,hw⟩; subst w1
 go_wp2_with fail
 go_returns
 exact ⟨rfl,by (repeat refine Turn.alloc ?_ _); exact Turn.refl _ _⟩
theorem kdup_no (h:KIn W w a k C) (hok:KOk k) (hi:mget k.ow pid=none) (q:Int) :
  Calls Tryz.prog 72 #[.pointer (some ⟨a.kb,0,none⟩),.int .i64 pid,.int .i64 q] w fun e w' => e=.returned (.tuple #[.int .i64 0,.iface 36 (.int .i64 7)])∧Turn (fun _ => False) w w':=by
 have HW:=hid (fun w' (tt:Turn (fun _ => False) w w') => who_no (h.still tt) hok hi)
 clear h hok hi
 go_enter Tryz.func72,Tryz.ntmps72
 go_wp2_with fail
 refine (HW.out _ (by (repeat refine Turn.alloc ?_ _); exact Turn.refl _ _)).mono ?_
 rintro e w1 ⟨rfl,hw⟩; subst w1
 go_wp2_with fail
 go_returns
 exact ⟨rfl,by (repeat refine Turn.alloc ?_ _); exact Turn.refl _ _⟩
theorem kdup2_no (h:KIn W w a k C) (hok:KOk k) (hi:mget k.ow pid=none) (p q:Int) :
  Calls Tryz.prog 73 #[.pointer (some ⟨a.kb,0,none⟩),.int .i64 pid,.int .i64 p,.int .i64 q] w fun e w' => e=.returned (.iface 36 (.int .i64 7))∧Turn (fun _ => False) w w':=by
 have HW:=hid (fun w' (tt:Turn (fun _ => False) w w') => who_no (h.still tt) hok hi)
 clear h hok hi
 go_enter Tryz.func73,Tryz.ntmps73
 go_wp2_with fail
 refine (HW.out _ (by (repeat refine Turn.alloc ?_ _); exact Turn.refl _ _)).mono ?_
 rintro e w1 ⟨rfl,hw⟩; subst w1
 go_wp2_with fail
 go_returns
 exact ⟨rfl,by (repeat refine Turn.alloc ?_ _); exact Turn.refl _ _⟩
theorem kmark_no (h:KIn W w a k C) (hok:KOk k) (hi:mget k.ow pid=none) (q:Int) (b:Bool) :
  Calls Tryz.prog 161 #[.pointer (some ⟨a.kb,0,none⟩),.int .i64 pid,.int .i64 q,.bool b] w fun e w' => e=.returned (.iface 36 (.int .i64 7))∧Turn (fun _ => False) w w':=by
 have HW:=hid (fun w' (tt:Turn (fun _ => False) w w') => who_no (h.still tt) hok hi)
 clear h hok hi
 go_enter Tryz.func161,Tryz.ntmps161
 go_wp2_with fail
 refine (HW.out _ (by (repeat refine Turn.alloc ?_ _); exact Turn.refl _ _)).mono ?_
 rintro e w1 ⟨rfl,hw⟩; subst w1
 go_wp2_with fail
 go_returns
 exact ⟨rfl,by (repeat refine Turn.alloc ?_ _); exact Turn.refl _ _⟩
theorem kclose_no (h:KIn W w a k C) (hok:KOk k) (hi:mget k.ow pid=none) (q:Int) :
  Calls Tryz.prog 15 #[.pointer (some ⟨a.kb,0,none⟩),.int .i64 pid,.int .i64 q] w fun e w' => e=.returned (.iface 36 (.int .i64 7))∧Turn (fun _ => False) w w':=by
 have HW:=hid (fun w' (tt:Turn (fun _ => False) w w') => who_no (h.still tt) hok hi)
 clear h hok hi
 go_enter Tryz.func15,Tryz.ntmps15
 go_wp2_with fail
 refine (HW.out _ (by (repeat refine Turn.alloc ?_ _); exact Turn.refl _ _)).mono ?_
 rintro e w1 ⟨rfl,hw⟩; subst w1
 go_wp2_with fail
 go_returns
 exact ⟨rfl,by (repeat refine Turn.alloc ?_ _); exact Turn.refl _ _⟩
theorem kread_no (h:KIn W w a k C) (hok:KOk k) (hi:mget k.ow pid=none) (p q:Int) :
  Calls Tryz.prog 19 #[.pointer (some ⟨a.kb,0,none⟩),.int .i64 pid,.int .i64 p,.int .i64 q] w fun e w' => e=.returned (.tuple #[.string ⟨#[]⟩,.iface 36 (.int .i64 7)])∧Turn (fun _ => False) w w':=by
 have HW:=hid (fun w' (tt:Turn (fun _ => False) w w') => who_no (h.still tt) hok hi)
 clear h hok hi
 go_enter Tryz.func19,Tryz.ntmps19
 go_wp2_with fail
 refine (HW.out _ (by (repeat refine Turn.alloc ?_ _); exact Turn.refl _ _)).mono ?_
 rintro e w1 ⟨rfl,hw⟩; subst w1
 go_wp2_with fail
 go_returns
 exact ⟨rfl,by (repeat refine Turn.alloc ?_ _); exact Turn.refl _ _⟩
theorem kwrite_no (h:KIn W w a k C) (hok:KOk k) (hi:mget k.ow pid=none) (p:Int) (s:ByteArray) :
  Calls Tryz.prog 16 #[.pointer (some ⟨a.kb,0,none⟩),.int .i64 pid,.int .i64 p,.string s] w fun e w' => e=.returned (.tuple #[.int .i64 0,.iface 36 (.int .i64 7)])∧Turn (fun _ => False) w w':=by
 have HW:=hid (fun w' (tt:Turn (fun _ => False) w w') => who_no (h.still tt) hok hi)
 clear h hok hi
 go_enter Tryz.func16,Tryz.ntmps16
 go_wp2_with fail
 refine (HW.out _ (by (repeat refine Turn.alloc ?_ _); exact Turn.refl _ _)).mono ?_
 rintro e w1 ⟨rfl,hw⟩; subst w1
 go_wp2_with fail
 go_returns
 exact ⟨rfl,by (repeat refine Turn.alloc ?_ _); exact Turn.refl _ _⟩
theorem kmkdir_no (h:KIn W w a k C) (hok:KOk k) (hi:mget k.ow pid=none) (s:ByteArray) :
  Calls Tryz.prog 158 #[.pointer (some ⟨a.kb,0,none⟩),.int .i64 pid,.string s] w fun e w' => e=.returned (.iface 36 (.int .i64 7))∧Turn (fun _ => False) w w':=by
 have HW:=hid (fun w' (tt:Turn (fun _ => False) w w') => who_no (h.still tt) hok hi)
 clear h hok hi
 go_enter Tryz.func158,Tryz.ntmps158
 go_wp2_with fail
 refine (HW.out _ (by (repeat refine Turn.alloc ?_ _); exact Turn.refl _ _)).mono ?_
 rintro e w1 ⟨rfl,hw⟩; subst w1
 go_wp2_with fail
 go_returns
 exact ⟨rfl,by (repeat refine Turn.alloc ?_ _); exact Turn.refl _ _⟩
theorem kunlink_no (h:KIn W w a k C) (hok:KOk k) (hi:mget k.ow pid=none) (s:ByteArray) :
  Calls Tryz.prog 159 #[.pointer (some ⟨a.kb,0,none⟩),.int .i64 pid,.string s] w fun e w' => e=.returned (.iface 36 (.int .i64 7))∧Turn (fun _ => False) w w':=by
 have HW:=hid (fun w' (tt:Turn (fun _ => False) w w') => who_no (h.still tt) hok hi)
 clear h hok hi
 go_enter Tryz.func159,Tryz.ntmps159
 go_wp2_with fail
 refine (HW.out _ (by (repeat refine Turn.alloc ?_ _); exact Turn.refl _ _)).mono ?_
 rintro e w1 ⟨rfl,hw⟩; subst w1
 go_wp2_with fail
 go_returns
 exact ⟨rfl,by (repeat refine Turn.alloc ?_ _); exact Turn.refl _ _⟩
theorem krename_no (h:KIn W w a k C) (hok:KOk k) (hi:mget k.ow pid=none) (s t:ByteArray) :
  Calls Tryz.prog 160 #[.pointer (some ⟨a.kb,0,none⟩),.int .i64 pid,.string s,.string t] w fun e w' => e=.returned (.iface 36 (.int .i64 7))∧Turn (fun _ => False) w w':=by
 have HW:=hid (fun w' (tt:Turn (fun _ => False) w w') => who_no (h.still tt) hok hi)
 clear h hok hi
 go_enter Tryz.func160,Tryz.ntmps160
 go_wp2_with fail
 refine (HW.out _ (by (repeat refine Turn.alloc ?_ _); exact Turn.refl _ _)).mono ?_
 rintro e w1 ⟨rfl,hw⟩; subst w1
 go_wp2_with fail
 go_returns
 exact ⟨rfl,by (repeat refine Turn.alloc ?_ _); exact Turn.refl _ _⟩
end
section
variable {W w w' w1:World} {a:KA} {k:KS} {C C':Nat→Nat×Nat} {pid:Int} {i:Nat} {o:KO} {x:Spc} {y:Nat×PTab} {P P':Int→Option Pg} {t':St} {u':Nat→Int}
def ProtTo (W:World) (a:KA) (k:KS) (i:Nat) (o:KO) (x:Spc) (p n r:Int) (e:Ending) (w':World):Prop :=
 e=.returned (VmErr (protE x.P p n r))∧KTo W a k (protE x.P p n r) (fun k' => k'=stepK k i o x (protP x.P p n r) k.t o.u) w'
theorem kprot_yes (h:KIn W w a k C) (hok:KOk k) (hm:Mine k pid i o x y) (p n r:Int) :
  Calls Tryz.prog 117 #[.pointer (some ⟨a.kb,0,none⟩),.int .i64 pid,.int .i64 p,.int .i64 n,.int .i64 r] w (fun e w' => ProtTo W a k i o x p n r e w'):=by
 have HW:=hid (who_yes h hok hm.own hm.ko)
 obtain ⟨hO,hL⟩:=h.at_ hm
 have HP:=hid (vmProt_any (h.vm.at hm.sp) p n r)
 have c0:=hO.c0
 have H:=hid h
 have HOk:=hid hok
 have HM:=hid hm
 obtain ⟨z,hz⟩:∃ z,protE x.P p n r=z:=⟨_,rfl⟩
 unfold Protected at HP
 unfold ProtTo
 rw [hz] at HP ⊢
 have HZ:=hid hz
 clear h hok hm hO hL hz
 go_enter Tryz.func117,Tryz.ntmps117
 go_wp2_with fail
 refine HW.out.mono ?_
 rintro e w1 ⟨rfl,hw⟩; subst w1
 go_wp2_with fail
 refine HP.out.mono ?_
 rintro e w2 ⟨rfl,hA⟩
 have HA:=hid hA
 clear hA
 go_wp2_with fail
 go_returns
 have hK:=H.out.vmAt HM.out.sp HA.out
 by_cases e:z=0
 ·rw [if_pos e] at hK
  have e2:({ k with t:=k.t,l:=k.l.set i ⟨x.sp,x.pm,protP x.P p n r⟩ }:KS)=stepK k i o x (protP x.P p n r) k.t o.u:=by
   unfold stepK
   rw [show k.os.set i { o with u:=o.u }=k.os from list_set_same HM.out.ko]
  rw [e2] at hK
  have hl:=HOk.out.fit i o HM.out.ko
  exact ⟨rfl,_,hK,HOk.out.step HM.out ⟨by rw [lenP_prot]; exact (HOk.out.live i o x y HM.out.ko HM.out.sp HM.out.tab ⟨pid,HM.out.own⟩).1,rfl,rfl⟩ hl.1,fun _ => rfl,fun hn => absurd e hn⟩
 ·rw [if_neg e] at hK
  have e2:({ k with t:=k.t,l:=k.l.set i ⟨x.sp,x.pm,x.P⟩ }:KS)=k:=by
   rw [show k.l.set i ⟨x.sp,x.pm,x.P⟩=k.l from list_set_same HM.out.sp]
  rw [e2] at hK
  exact ⟨rfl,KTo.no hK HOk.out e⟩
theorem why_more {u m:Nat→Int} (hf:Fit u m) (kind:Nat) (hk:kind < 3) (n:Int) (h0:0≤n) (h1:n≤1000000):why u m ((kind:Int),n)=if 0 < n∧m kind < u kind+n then 4 else 0:=by
 have h2:=hf kind hk
 unfold why
 simp only [Int.toNat_natCast]
 rw [if_neg (by omega),if_neg (by omega)]
 by_cases e:0 < n∧m kind < u kind+n
 ·rw [if_pos e,if_pos e]
 ·rw [if_neg e,if_neg e,if_neg (by omega)]
theorem why_less {u m:Nat→Int} (hf:Fit u m) (kind:Nat) (hk:kind < 3) (n:Int) (h0:0≤n) (h1:n≤u kind):why u m ((kind:Int),-n)=0:=by
 have h2:=hf kind hk
 unfold why
 simp only [Int.toNat_natCast]
 rw [if_neg (by omega),if_neg (by omega),if_neg (by omega),if_neg (by omega)]
def UnmapTo (W:World) (a:KA) (k:KS) (i:Nat) (o:KO) (x:Spc) (p n:Int) (e:Ending) (w':World):Prop :=
 e=.returned (VmErr (unmapE x.P p n))∧KTo W a k (unmapE x.P p n) (fun k' => ∃ t',t'.m=k.t.m∧k'=stepK k i o x (unmapP x.P p n) t' (upd o.u 0 (o.u 0 - n))) w'
theorem done0 (u:Nat→Int) (n:Int):done u ((0:Int),-n)=upd u 0 (u 0 - n):=by
 unfold done
 simp only [Int.toNat_zero]
 rw [Int.sub_eq_add_neg]
theorem kunmap_yes (h:KIn W w a k C) (hok:KOk k) (hm:Mine k pid i o x y) (p n:Int) :
  Calls Tryz.prog 70 #[.pointer (some ⟨a.kb,0,none⟩),.int .i64 pid,.int .i64 p,.int .i64 n] w (fun e w' => UnmapTo W a k i o x p n e w'):=by
 have HW:=hid (who_yes h hok hm.own hm.ko)
 obtain ⟨hO,hL⟩:=h.at_ hm
 have HP:=hid (vmUnmap_any (h.vm.at hm.sp) p n)
 have c0:=hO.c0
 have H:=hid h
 have HOk:=hid hok
 have HM:=hid hm
 have hlive:=(hok.live i o x y hm.ko hm.sp hm.tab ⟨pid,hm.own⟩).1
 have HLv:=hid hlive
 by_cases hz:unmapE x.P p n=0
 ·unfold Unmapped at HP
  unfold UnmapTo
  have HPn:=hid (lenP_unmap hz)
  rw [hz] at HP ⊢
  rw [show VmErr 0=.nilIface from rfl] at HP ⊢
  clear h hok hm hO hL hlive hz
  go_enter Tryz.func70,Tryz.ntmps70
  go_wp2_with fail
  refine HW.out.mono ?_
  rintro e w1 ⟨rfl,hw⟩; subst w1
  go_wp2_with fail
  refine HP.out.mono ?_
  rintro e w2 ⟨rfl,t2,hm2,hA⟩
  rw [if_pos trivial] at hA
  obtain ⟨C2,hK⟩:=H.out.vmAt HM.out.sp hA
  obtain ⟨x2,y2,_,_,hO2,hL2⟩:=hK.own i o HM.out.ko
  have hfit:=(HOk.out.fit i o HM.out.ko).1
  have hbd:=HPn.out
  have hn64:-1000000≤-n∧-n≤1000000:=by omega
  have hcg:=charge_one hL2 hfit 0 (-n)
  have hwy:why o.u o.m ((0:Int),-n)=0:=why_less hfit 0 (by omega) n (by omega) (by rw [HLv.out]; omega)
  unfold Charged1 at hcg
  have HCg:=hid hcg
  have HK:=hid hK
  have HWy:=hid hwy
  have HM2:=hid hm2
  have k2:=hO2.c2
  have hneg:IntKind.i64.wrap (-n)=-n:=IntWalk.i64_in _ (by omega)
  clear hA hK hcg hwy hm2 hO2 hL2 hfit hbd
  go_wp2_with fail
  refine HCg.out.mono ?_
  rintro e w3 (⟨_,rfl,hl3,hf3,t3⟩ | ⟨hne,_⟩)
  ·have HR:=hid (HK.out.ledger (o:=o) (i:=i) HM.out.ko hl3 t3)
   have HF3:=hid hf3
   clear hl3 t3 hf3
   go_wp2_with fail
   go_returns
   refine ⟨rfl,_,HR.out,?_,fun _ => ⟨t2,HM2.out,by rw [done0]; rfl⟩,fun hn => absurd rfl hn⟩
   have hbd:=HPn.out
   refine HOk.out.step HM.out ⟨?_,?_,?_⟩ HF3.out
   ·rw [done0,upd_same,HLv.out]; omega
   ·rw [done0,upd_other _ _ (by decide)]
   ·rw [done0,upd_other _ _ (by decide)]
  ·exact absurd HWy.out hne
 ·obtain ⟨z,hzz⟩:∃ z,unmapE x.P p n=z:=⟨_,rfl⟩
  unfold Unmapped at HP
  unfold UnmapTo
  rw [hzz] at HP hz ⊢
  have hve:VmErr z=.iface 36 (.int .i64 z):=vmErr_of hz
  have HZ:=hid hz
  rw [hve] at HP ⊢
  clear h hok hm hO hL hlive hzz hz hve
  go_enter Tryz.func70,Tryz.ntmps70
  go_wp2_with fail
  refine HW.out.mono ?_
  rintro e w1 ⟨rfl,hw⟩; subst w1
  go_wp2_with fail
  refine HP.out.mono ?_
  rintro e w2 ⟨rfl,t2,hm2,hA⟩
  rw [if_neg HZ.out] at hA
  have hK:=H.out.vmAt HM.out.sp hA
  rw [show k.l.set i ⟨x.sp,x.pm,x.P⟩=k.l from list_set_same HM.out.sp] at hK
  have HK:=hid hK
  have HM2:=hid hm2
  clear hA hK hm2
  go_wp2_with fail
  go_returns
  exact ⟨rfl,_,HK.out,HOk.out.tst t2,fun e => absurd e HZ.out,fun _ => ⟨t2,HM2.out,rfl⟩⟩
def kmapE (o:KO) (x:Spc) (p n r:Int):Int:=if mapE x.P p n r≠0 then mapE x.P p n r else if o.m 0 < o.u 0+n then 4 else 0
def MapTo (W:World) (a:KA) (k:KS) (i:Nat) (o:KO) (x:Spc) (p n r:Int) (e:Ending) (w':World):Prop :=
 e=.returned (VmErr (kmapE o x p n r))∧KTo W a k (kmapE o x p n r) (fun k' => k'=stepK k i o x (mapP x.P p n r) k.t (upd o.u 0 (o.u 0+n))) w'
theorem unmapE_mapped {P:Int→Option Pg} {a n r:Int} (h:mapE P a n r=0):unmapE (mapP P a n r) a n=0:=by
 have hr:RightP a n:=by
  by_cases e:RightP a n
  ·exact e
  ·unfold mapE at h; rw [if_pos e] at h; cases h
 obtain ⟨r1,r2,r3,r4⟩:=hr
 unfold unmapE
 rw [if_neg (fun e => e ⟨r1,r2,r3,r4⟩),if_neg]
 obtain ⟨N,rfl⟩:∃ N:Nat,n=N:=⟨n.toNat,by omega⟩
 have key:∀ m:Nat,m≤N→thereN (mapP P a N r) a m=m:=by
  intro m
  unfold thereN
  induction m with
  | zero => intro _; rfl
  | succ m ih =>
   intro hm
   rw [cntB_succ,ih (by omega)]
   have:mapP P a (N:Int) r (a+(m:Int))=some (r,-1):=if_pos (by omega)
   rw [this]; rfl
 have:=key N (Nat.le_refl _)
 simp only [Int.toNat_natCast]
 omega
theorem done1 (u:Nat→Int) (n:Int):done u ((0:Int),n)=upd u 0 (u 0+n):=rfl
theorem set_at {α:Type} {l:List α} {i:Nat} {x z:α} (h:l[i]?=some x):(l.set i z)[i]?=some z:=by
 rw [List.getElem?_set,if_pos rfl,if_pos (List.getElem?_eq_some_iff.1 h).1]
theorem kmap_yes (h:KIn W w a k C) (hok:KOk k) (hm:Mine k pid i o x y) (hLd:Laid W) (p n r:Int) :
  Calls Tryz.prog 45 #[.pointer (some ⟨a.kb,0,none⟩),.int .i64 pid,.int .i64 p,.int .i64 n,.int .i64 r] w (fun e w' => MapTo W a k i o x p n r e w'):=by
 have HW:=hid (who_yes h hok hm.own hm.ko)
 obtain ⟨hO,hL⟩:=h.at_ hm
 have HP:=hid (vmMap_any (h.vm.at hm.sp).space p n r)
 have c0:=hO.c0
 have H:=hid h
 have HOk:=hid hok
 have HM:=hid hm
 have HLd:=hid hLd
 have hlive:=(hok.live i o x y hm.ko hm.sp hm.tab ⟨pid,hm.own⟩).1
 have HLv:=hid hlive
 by_cases hz:mapE x.P p n r=0
 ·have HPn:=hid (lenP_map hz)
  have HZ:=hid hz
  rw [hz] at HP
  rw [show VmErr 0=.nilIface from rfl] at HP
  have hbd:=HPn.out
  have hfit:=(hok.fit i o hm.ko).1
  have hwy:why o.u o.m ((0:Int),n)=if 0 < n∧o.m 0 < o.u 0+n then 4 else 0:=why_more hfit 0 (by omega) n (by omega) (by omega)
  clear h hok hm hO hL hlive hz hLd
  by_cases hlim:o.m 0 < o.u 0+n
  ·have hE:kmapE o x p n r=4:=by unfold kmapE; rw [if_neg (fun e => e HZ.out),if_pos hlim]
   rw [if_pos ⟨by omega,hlim⟩] at hwy
   have HWy:=hid hwy
   have HE:=hid hE
   unfold MapTo
   rw [hE]
   clear hlim hwy hE hbd
   go_enter Tryz.func45,Tryz.ntmps45
   go_wp2_with fail
   refine HW.out.mono ?_
   rintro e w1 ⟨rfl,hw⟩; subst w1
   go_wp2_with fail
   refine HP.out.mono ?_
   rintro e w2 ⟨rfl,hS,tm⟩
   rw [if_pos trivial] at hS
   have hA:=(H.out.vm.at HM.out.sp).ofSp tm hS (fun f hf => mapP_cnt HZ.out f hf)
   obtain ⟨C2,hK⟩:=H.out.vmAt HM.out.sp hA
   obtain ⟨x2,y2,hx2,_,hO2,hL2⟩:=hK.own i o HM.out.ko
   have hx3:x2=⟨x.sp,x.pm,mapP x.P p n r⟩:=by
    have:=set_at (z:=(⟨x.sp,x.pm,mapP x.P p n r⟩:Spc)) HM.out.sp
    rw [show (k.l.set i ⟨x.sp,x.pm,mapP x.P p n r⟩)[i]?=some x2 from hx2] at this
    exact Option.some.inj this
   have hcg:=charge_one hL2 hfit 0 n
   unfold Charged1 at hcg
   have HCg:=hid hcg
   have HK:=hid hK
   have k2:=hO2.c2
   have HO2:=hid hO2
   have HX3:=hid hx3
   clear hA hK hcg hO2 hL2 hfit hx2 hS tm hx3
   go_wp2_with fail
   refine HCg.out.mono ?_
   rintro e w3 (⟨h0,_⟩ | ⟨_,b,rfl,hb,t3,hbf⟩)
   ·rw [HWy.out] at h0; cases h0
   ·rw [HWy.out] at hb
    have HK3:=hid (HK.out.still t3)
    have hO3:=HO2.out.turned t3 id
    have k0:=hO3.c0
    rw [HX3.out] at k0
    have hU:=vmUnmap_any (HK3.out.vm.at (set_at HM.out.sp)) p n
    have HU:=hid hU
    have HB:=hid hb
    have HBf:=hid hbf
    clear t3 hU hb hO3 k2 hbf
    simp only at k0
    go_wp2_with fail
    refine HU.out.mono ?_
    rintro e w4 hun
    obtain ⟨rfl,t4,hm4,hA4⟩:=hun
    rw [show unmapE (mapP x.P p n r) p n=0 from unmapE_mapped HZ.out] at *
    rw [if_pos rfl] at hA4
    have hAA:=HK3.out.vm.after (set_at HM.out.sp) hA4
    have hB4:w4.cell? ⟨b,0,none⟩=some (.int .i64 4):=(hAA.2.1.cell (a:=⟨b,0,none⟩) (lt_of_cell HB.out) (fun hf => by
     have:=HK.out.vm.foot_lt b hf
     have:=HBf.out
     omega)).trans HB.out
    have hK4:=HK3.out.vmAt (set_at HM.out.sp) hA4
    rw [unmap_map HPn.out.2.2.2] at hK4
    have e4:(k.l.set i ⟨x.sp,x.pm,mapP x.P p n r⟩).set i ⟨x.sp,x.pm,x.P⟩=k.l:=by
     rw [List.set_set]
     exact list_set_same HM.out.sp
    simp only [e4] at hK4
    have HK4:=hid hK4
    have HM4:=hid hm4
    have HBr:=hid (kbare_at 4 b w4 (HLd.out.turned0 hK4.turn) hB4)
    clear hK4 hB4 hAA hA4 hm4 e4 k0
    go_wp2_with fail
    refine HBr.out.mono ?_
    rintro e w5 ⟨rfl,t5⟩
    have HR:=hid (HK4.out.still t5)
    clear t5
    go_wp2_with fail
    go_returns
    exact ⟨rfl,_,HR.out,HOk.out.tst t4,fun e => absurd e (by decide),fun _ => ⟨t4,HM4.out,rfl⟩⟩
  ·have hE:kmapE o x p n r=0:=by unfold kmapE; rw [if_neg (fun e => e HZ.out),if_neg hlim]
   rw [if_neg (fun e => hlim e.2)] at hwy
   have HWy:=hid hwy
   unfold MapTo
   rw [hE]
   clear hlim hwy hE hbd
   go_enter Tryz.func45,Tryz.ntmps45
   go_wp2_with fail
   refine HW.out.mono ?_
   rintro e w1 ⟨rfl,hw⟩; subst w1
   go_wp2_with fail
   refine HP.out.mono ?_
   rintro e w2 ⟨rfl,hS,tm⟩
   rw [if_pos trivial] at hS
   have hA:=(H.out.vm.at HM.out.sp).ofSp tm hS (fun f hf => mapP_cnt HZ.out f hf)
   obtain ⟨C2,hK⟩:=H.out.vmAt HM.out.sp hA
   obtain ⟨x2,y2,hx2,_,hO2,hL2⟩:=hK.own i o HM.out.ko
   have hcg:=charge_one hL2 hfit 0 n
   unfold Charged1 at hcg
   have HCg:=hid hcg
   have HK:=hid hK
   have k2:=hO2.c2
   clear hA hK hcg hO2 hL2 hfit hx2 hS tm
   go_wp2_with fail
   refine HCg.out.mono ?_
   rintro e w3 (⟨_,rfl,hl3,hf3,t3⟩ | ⟨hne,_⟩)
   ·have HR:=hid (HK.out.ledger (o:=o) (i:=i) HM.out.ko hl3 t3)
    have HF3:=hid hf3
    clear hl3 t3 hf3
    go_wp2_with fail
    go_returns
    refine ⟨rfl,_,HR.out,?_,fun _ => rfl,fun hn => absurd rfl hn⟩
    have hbd:=HPn.out
    refine HOk.out.step HM.out ⟨?_,?_,?_⟩ HF3.out
    ·rw [done1,upd_same,HLv.out]; omega
    ·rw [done1,upd_other _ _ (by decide)]
    ·rw [done1,upd_other _ _ (by decide)]
   ·exact absurd HWy.out hne
 ·obtain ⟨z,hzz⟩:∃ z,mapE x.P p n r=z:=⟨_,rfl⟩
  have hE:kmapE o x p n r=z:=by unfold kmapE; rw [if_pos hz,hzz]
  unfold MapTo
  rw [hE]
  rw [hzz] at HP hz
  have hve:VmErr z=.iface 36 (.int .i64 z):=vmErr_of hz
  have HZ:=hid hz
  rw [hve] at HP ⊢
  clear h hok hm hO hL hlive hzz hz hve hE hLd
  go_enter Tryz.func45,Tryz.ntmps45
  go_wp2_with fail
  refine HW.out.mono ?_
  rintro e w1 ⟨rfl,hw⟩; subst w1
  go_wp2_with fail
  refine HP.out.mono ?_
  rintro e w2 ⟨rfl,hS,tm⟩
  rw [if_neg HZ.out] at hS
  have hK:=H.out.vmAt HM.out.sp ((H.out.vm.at HM.out.sp).ofSp tm hS (fun f hf => rfl))
  rw [show k.l.set i ⟨x.sp,x.pm,x.P⟩=k.l from list_set_same HM.out.sp] at hK
  have HK:=hid hK
  clear hK hS tm
  go_wp2_with fail
  go_returns
  exact ⟨rfl,KTo.no HK.out HOk.out HZ.out⟩
end
section
variable {W w w' w1:World} {a:KA} {k:KS} {C C':Nat→Nat×Nat} {pid:Int} {i:Nat} {o o':KO} {x:Spc} {y:Nat×PTab}
def setO (k:KS) (i:Nat) (o':KO):KS:={ k with os:=k.os.set i o' }
theorem KOk.ownSet (h:KOk k) (hm:Mine k pid i o x y) (hu:o'.u=o.u) (hf:Fit o'.u o'.m) (ha:-100≤o'.adj∧o'.adj≤100):KOk (setO k i o'):=by
 refine ⟨h.kin,h.dok,h.joint,⟨by unfold setO; simp only [List.length_set]; exact h.len.1,by unfold setO; simp only [List.length_set]; exact h.len.2.1,by unfold setO; simp only [List.length_set]; exact h.len.2.2⟩,h.run,h.nd,h.inj,fun j p v z hp hv hz hown => ?_,fun j p hp => ?_,h.dead,fun q j hq => by unfold setO; simp only [List.length_set]; exact h.lt q j hq⟩
 ·rcases get_set_cases hp with ⟨rfl,rfl,_⟩ | ⟨hne,hp⟩
  ·rw [hu]; exact h.live j o v z hm.ko hv hz hown
  ·exact h.live j p v z hp hv hz hown
 ·rcases get_set_cases hp with ⟨rfl,rfl,_⟩ | ⟨hne,hp⟩
  ·exact ⟨hf,ha⟩
  ·exact h.fit j p hp
theorem fit_lim {u m:Nat→Int} (h:Fit u m) (k:Nat) (n:Int) (h0:0≤n) (h1:n≤1000000):Fit u (upd m k n):=fun j hj => by
 have h2:=h j hj
 unfold upd
 split <;> omega
def limE (q n:Int):Int:=if q < 0∨3≤q then 1 else if n < 0∨1000000 < n then 2 else 0
def LimTo (W:World) (a:KA) (k:KS) (i:Nat) (o:KO) (q n:Int) (e:Ending) (w':World):Prop :=
 e=.returned (VmErr (limE q n))∧KTo W a k (limE q n) (fun k' => k'=setO k i { o with m:=upd o.m q.toNat n }) w'
theorem klimit_yes (h:KIn W w a k C) (hok:KOk k) (hm:Mine k pid i o x y) (q n:Int) :
  Calls Tryz.prog 23 #[.pointer (some ⟨a.kb,0,none⟩),.int .i64 pid,.int .i64 q,.int .i64 n] w (fun e w' => LimTo W a k i o q n e w'):=by
 have HW:=hid (who_yes h hok hm.own hm.ko)
 obtain ⟨hO,hL⟩:=h.at_ hm
 have c2:=hO.c2
 have H:=hid h
 have HOk:=hid hok
 have HM:=hid hm
 have HL:=hid hL
 clear h hok hm hO hL
 by_cases hq:q < 0∨3≤q
 ·have HP:=hid (limit_arg (w:=w) o.lb q n hq)
  have hE:limE q n=1:=by unfold limE; rw [if_pos hq]
  unfold LimTo
  rw [hE]
  clear hq hE
  go_enter Tryz.func23,Tryz.ntmps23
  go_wp2_with fail
  refine HW.out.mono ?_
  rintro e w1 ⟨rfl,hw⟩; subst w1
  go_wp2_with fail
  refine HP.out.mono ?_
  rintro e w2 ⟨rfl,rfl⟩
  go_wp2_with fail
  go_returns
  exact ⟨rfl,KTo.no ⟨C,H.out⟩ HOk.out (by decide)⟩
 ·obtain ⟨K,rfl⟩:∃ K:Nat,q=K:=⟨q.toNat,by omega⟩
  have hK:K < 3:=by omega
  by_cases hn:n < 0∨1000000 < n
  ·have HP:=hid (limit_range (w:=w) o.lb K n hK hn)
   have hE:limE K n=2:=by unfold limE; rw [if_neg hq,if_pos hn]
   unfold LimTo
   rw [hE]
   clear hq hE hn hK
   go_enter Tryz.func23,Tryz.ntmps23
   go_wp2_with fail
   refine HW.out.mono ?_
   rintro e w1 ⟨rfl,hw⟩; subst w1
   go_wp2_with fail
   refine HP.out.mono ?_
   rintro e w2 ⟨rfl,rfl⟩
   go_wp2_with fail
   go_returns
   exact ⟨rfl,KTo.no ⟨C,H.out⟩ HOk.out (by decide)⟩
  ·have HP:=hid (limit_ok HL.out K n hK (by omega) (by omega))
   have hE:limE K n=0:=by unfold limE; rw [if_neg hq,if_neg hn]
   have HN:=hid hn
   have HKl:=hid hK
   unfold LimTo
   rw [hE]
   clear hq hE hn hK
   go_enter Tryz.func23,Tryz.ntmps23
   go_wp2_with fail
   refine HW.out.mono ?_
   rintro e w1 ⟨rfl,hw⟩; subst w1
   go_wp2_with fail
   refine HP.out.mono ?_
   rintro e w2 ⟨rfl,hl,t⟩
   have hR:=H.out.ledger HM.out.ko hl t
   have HR:=hid hR
   clear hR hl t
   go_wp2_with fail
   go_returns
   have hf:=HOk.out.fit i o HM.out.ko
   refine ⟨rfl,_,HR.out,HOk.out.ownSet (o':={ o with m:=upd o.m K n }) HM.out rfl (fit_lim hf.1 K n (by have:=HN.out; omega) (by have:=HN.out; omega)) hf.2,fun _ => by rw [Int.toNat_natCast]; rfl,fun e => absurd rfl e⟩
def adjE (n:Int):Int:=if n < -100∨100 < n then 2 else 0
def AdjTo (W:World) (a:KA) (k:KS) (i:Nat) (o:KO) (n:Int) (e:Ending) (w':World):Prop :=
 e=.returned (VmErr (adjE n))∧KTo W a k (adjE n) (fun k' => k'=setO k i { o with adj:=n }) w'
theorem kadj_yes (h:KIn W w a k C) (hok:KOk k) (hm:Mine k pid i o x y) (n:Int) :
  Calls Tryz.prog 116 #[.pointer (some ⟨a.kb,0,none⟩),.int .i64 pid,.int .i64 n] w (fun e w' => AdjTo W a k i o n e w'):=by
 have HW:=hid (who_yes h hok hm.own hm.ko)
 obtain ⟨hO,hL⟩:=h.at_ hm
 have c3:=hO.c3
 have f3:=hO.fz 3
 have H:=hid h
 have HOk:=hid hok
 have HM:=hid hm
 have HO:=hid hO
 clear h hok hm hO hL
 by_cases h1:n < -100
 ·have hE:adjE n=2:=by unfold adjE; rw [if_pos (.inl h1)]
  unfold AdjTo
  rw [hE]
  clear hE
  go_enter Tryz.func116,Tryz.ntmps116
  go_wp2_with fail
  refine HW.out.mono ?_
  rintro e w1 ⟨rfl,hw⟩; subst w1
  go_wp2_with fail
  go_returns
  exact ⟨rfl,KTo.no ⟨C,H.out⟩ HOk.out (by decide)⟩
 ·by_cases h2:100 < n
  ·have hE:adjE n=2:=by unfold adjE; rw [if_pos (.inr h2)]
   unfold AdjTo
   rw [hE]
   clear hE
   go_enter Tryz.func116,Tryz.ntmps116
   go_wp2_with fail
   refine HW.out.mono ?_
   rintro e w1 ⟨rfl,hw⟩; subst w1
   go_wp2_with fail
   go_returns
   exact ⟨rfl,KTo.no ⟨C,H.out⟩ HOk.out (by decide)⟩
  ·have hE:adjE n=0:=by unfold adjE; rw [if_neg (by omega)]
   have HN:=hid (show -100≤n∧n≤100 by omega)
   unfold AdjTo
   rw [hE]
   clear hE
   go_enter Tryz.func116,Tryz.ntmps116
   go_wp2_with fail
   refine HW.out.mono ?_
   rintro e w1 ⟨rfl,hw⟩; subst w1
   go_wp2_with fail
   go_returns
   have hR:=H.out.weigh (w':=w.setCell ⟨o.ob,3,none⟩ (.int .i64 n)) HM.out.ko (z:=n) (fun sp tab hO => ?_) ((Turn.refl _ _).setCell _ _ (fun _ => rfl))
   ·exact ⟨rfl,_,hR,HOk.out.ownSet (o':={ o with adj:=n }) HM.out rfl (HOk.out.fit i o HM.out.ko).1 HN.out,fun _ => rfl,fun e => absurd rfl e⟩
   ·refine ⟨?_,?_,?_,?_,fun j => ?_⟩
    ·rw [World.cell?_setCell_other _ _ _ _ (by intro e; injection e with _ e; omega)]; exact hO.c0
    ·rw [World.cell?_setCell_other _ _ _ _ (by intro e; injection e with _ e; omega)]; exact hO.c1
    ·rw [World.cell?_setCell_other _ _ _ _ (by intro e; injection e with _ e; omega)]; exact hO.c2
    ·exact World.cell?_setCell_same _ _ _ hO.c3
    ·rw [World.frozen?_setCell]; exact hO.fz j
end
section
variable {W w w' w1:World} {a:KA} {k:KS} {C C':Nat→Nat×Nat} {pid:Int} {i:Nat} {o o':KO} {x:Spc} {y:Nat×PTab} {pl:List (Int×Nat)} {pf pf':Nat→Pr} {tb mb:Nat}
def Quiet (pl:List (Int×Nat)) (pf pf':Nat→Pr):Prop:=∀ t∈pl,(pf' t.2).state=(pf t.2).state∧(pf' t.2).parent=(pf t.2).parent∧(pf' t.2).code=(pf t.2).code
theorem Quiet.refl (pl:List (Int×Nat)) (pf:Nat→Pr):Quiet pl pf pf:=fun _ _ => ⟨rfl,rfl,rfl⟩
theorem Quiet.upd (b:Nat) (p:Pr) (h1:p.state=(pf b).state) (h2:p.parent=(pf b).parent) (h3:p.code=(pf b).code):Quiet pl pf (updPr pf b p):=fun t _ => by
 unfold updPr
 by_cases e:t.2=b
 ·rw [if_pos e,e]; exact ⟨h1,h2,h3⟩
 ·rw [if_neg e]; exact ⟨rfl,rfl,rfl⟩
theorem Quiet.st (h:Quiet pl pf pf') (q:Int):stR pl pf' q=stR pl pf q:=stR_congr (fun t ht => (h t ht).1) q
theorem KOk.quiet (h:KOk k) (hq:Quiet k.pl k.pf pf') (hk:Kin k.pl pf'):KOk { k with pf:=pf' } :=
  { h with
    kin:=hk
    run:=fun p => by
      unfold RunsIn
      rw [hq.st p]
      exact h.run p }
def killE (pl:List (Int×Nat)) (pf:Nat→Pr) (q s:Int):Int:=if ¬ (1≤s∧s≤8) then 2 else if stR pl pf q≠1 then 7 else 0
def KillF (pl:List (Int×Nat)) (pf:Nat→Pr) (q s:Int) (pf':Nat→Pr):Prop:=∃ b Wt Ig:Nat,mget pl q=some b∧(pf b).waits=(Wt:Nat)∧(pf b).ignores=(Ig:Nat)∧pf'=updPr pf b { pf b with waits:=(killR Wt Ig s.toNat:Nat) }
def Killed (pl:List (Int×Nat)) (pf:Nat→Pr) (tb mb:Nat) (q s:Int) (w:World) (e:Ending) (w':World):Prop :=
 e=.returned (VmErr (killE pl pf q s))∧∃ pf',PrTab w' tb mb pl pf'∧Kin pl pf'∧Quiet pl pf pf'∧Turn (TFoot tb mb pl) w w'∧(killE pl pf q s=0→KillF pl pf q s pf')∧(killE pl pf q s≠0→pf'=pf)
theorem pkill_is (h:PrTab w tb mb pl pf) (hk:Kin pl pf) (q s:Int) :
  Calls Tryz.prog 63 #[.pointer (some ⟨tb,0,none⟩),.int .i64 q,.int .i64 s] w (Killed pl pf tb mb q s w):=by
 by_cases hs:1≤s∧s≤8
 ·by_cases hr:RunsIn pl pf q
  ·obtain ⟨b,hb⟩:=runs_block hr
   have hE:killE pl pf q s=0:=by unfold killE; rw [if_neg (fun e => e hs),if_neg (fun e => e (show stR pl pf q=1 from hr))]
   obtain ⟨s,rfl⟩:∃ n:Nat,s=n:=⟨s.toNat,by omega⟩
   have hm:=mem_of_mget hb
   obtain ⟨Wt,Ig,e1,e2,w9,i9⟩:=hk.bits _ hm
   simp only at e1 e2
   refine (kill_runs h q b s Wt Ig hr hb (by omega) (by omega) e1 e2 w9 i9).mono ?_
   rintro e w' ⟨rfl,hT,t⟩
   unfold Killed
   rw [hE]
   refine ⟨rfl,_,hT,hk.upd b _ rfl rfl ⟨_,Ig,rfl,e2,?_,i9⟩,Quiet.upd b _ rfl rfl rfl,t.mono (fun k _ e => .inr (.inr (List.mem_map.2 ⟨_,hm,e.symm⟩))),fun _ => ⟨b,Wt,Ig,hb,e1,e2,by rw [Int.toNat_natCast]⟩,fun e => absurd rfl e⟩
   unfold killR
   split
   ·exact w9
   ·exact or_lt ⟨Wt,w9⟩ ⟨s,by omega⟩
  ·refine (kill_missing h q s hr hs.1 hs.2).mono ?_
   rintro e w' ⟨rfl,rfl⟩
   have hE:killE pl pf q s=7:=by unfold killE; rw [if_neg (fun e => e hs),if_pos (show stR pl pf q≠1 from hr)]
   unfold Killed
   rw [hE]
   exact ⟨rfl,pf,h,hk,Quiet.refl _ _,Turn.refl _ _,(fun e => by cases e),fun _ => rfl⟩
 ·refine (kill_range tb q s hs).mono ?_
  rintro e w' ⟨rfl,rfl⟩
  have hE:killE pl pf q s=2:=by unfold killE; rw [if_pos hs]
  unfold Killed
  rw [hE]
  exact ⟨rfl,pf,h,hk,Quiet.refl _ _,Turn.refl _ _,(fun e => by cases e),fun _ => rfl⟩
def SigTo (W:World) (a:KA) (k:KS) (z:Int) (R:(Nat→Pr)→Prop) (e:Ending) (w':World):Prop :=
 e=.returned (VmErr z)∧∃ pf',KIs W w' a { k with pf:=pf' }∧KOk { k with pf:=pf' }∧Quiet k.pl k.pf pf'∧(z=0→R pf')∧(z≠0→pf'=k.pf)
theorem kkill_yes (h:KIn W w a k C) (hok:KOk k) (hm:Mine k pid i o x y) (q s:Int) :
  Calls Tryz.prog 114 #[.pointer (some ⟨a.kb,0,none⟩),.int .i64 pid,.int .i64 q,.int .i64 s] w (fun e w' => SigTo W a k (killE k.pl k.pf q s) (KillF k.pl k.pf q s) e w'):=by
 have HW:=hid (who_yes h hok hm.own hm.ko)
 have HP:=hid (pkill_is h.pr hok.kin q s)
 have c3:=h.c3
 have H:=hid h
 have HOk:=hid hok
 unfold Killed at HP
 clear h hok hm
 go_enter Tryz.func114,Tryz.ntmps114
 go_wp2_with fail
 refine HW.out.mono ?_
 rintro e w1 ⟨rfl,hw⟩; subst w1
 go_wp2_with fail
 refine HP.out.mono ?_
 rintro e w2 ⟨rfl,pf',h1,h2,h3,h4,h5,h6⟩
 have HR:=hid (H.out.prStep h1 h4 (fun j hj => .inl hj))
 have HX:=hid (show KOk { k with pf:=pf' }∧Quiet k.pl k.pf pf'∧(killE k.pl k.pf q s=0→KillF k.pl k.pf q s pf')∧(killE k.pl k.pf q s≠0→pf'=k.pf) from ⟨HOk.out.quiet h3 h2,h3,h5,h6⟩)
 clear h1 h2 h3 h4 h5 h6
 go_wp2_with fail
 go_returns
 exact ⟨rfl,pf',HR.out,HX.out⟩
theorem KIn.tree (h:KIn W w a k C):∃ F,TreeIs w a.tb k.S.T F:=by
 obtain ⟨F,⟨om,B,P,Ft,Cm,hf,_⟩,_⟩:=h.desc.files
 exact ⟨Ft,hf.tr⟩
theorem knodes_is (h:KIn W w a k C):Calls Tryz.prog 123 #[.pointer (some ⟨a.kb,0,none⟩)] w fun e w' => e=.returned (.int .i64 (k.S.T.length:Int))∧w'=w:=by
 obtain ⟨F,hF⟩:=h.tree
 have HL:=hid (nodes_is hF)
 have c1:=h.c1
 clear h hF
 go_enter Tryz.func123,Tryz.ntmps123
 go_wp2_with fail
 refine HL.out.mono ?_
 rintro e w1 ⟨rfl,hw⟩; subst w1
 go_wp2_with fail
 go_returns
 exact ⟨rfl,rfl⟩
theorem kpids_is (h:KIn W w a k C) (hok:KOk k):Calls Tryz.prog 25 #[.pointer (some ⟨a.kb,0,none⟩)] w fun e w' => ∃ v,e=.returned v∧w'.ownsRow w.heap.size 3 1 v k.pl.length ((pidsOf k.pl).map fun n:Int => Value.int .i64 n)∧Turn (fun _ => False) w w':=by
 have HL:=hid (pids_is h.pr hok.kin.wf (by have:=hok.kin.len; omega))
 have c3:=h.c3
 clear h
 go_enter Tryz.func25,Tryz.ntmps25
 go_wp2_with fail
 refine HL.out.mono ?_
 rintro e w1 ⟨v,rfl,hr,hb⟩
 have HR:=hid hr
 have HB:=hid hb
 clear hr hb
 go_wp2_with fail
 go_returns
 exact ⟨v,rfl,HR.out,⟨HB.out.os,HB.out.tape,HB.out.output,HB.out.size,fun j hj _ => HB.out.block j hj⟩⟩
def WaitTo (W:World) (a:KA) (k:KS) (pid:Int) (e:Ending) (w':World):Prop :=
 (ownOf k.pl k.pf pid=[]∧e=.returned (.tuple #[.int .i64 0,.int .i64 0,.iface 36 (.int .i64 8)])∧KIs W w' a k) ∨
 (ownOf k.pl k.pf pid≠[]∧(∀ c∈ownOf k.pl k.pf pid,stR k.pl k.pf c≠2)∧e=.returned (.tuple #[.int .i64 0,.int .i64 0,.iface 36 (.int .i64 6)])∧KIs W w' a k) ∨
 (∃ (j:Nat) (c:Int) (b:Nat),(ownOf k.pl k.pf pid)[j]?=some c∧(∀ z∈(ownOf k.pl k.pf pid).take j,stR k.pl k.pf z≠2)∧mget k.pl c=some b∧(k.pf b).state=2∧e=.returned (.tuple #[.int .i64 c,.int .i64 (k.pf b).code,.nilIface])∧KIs W w' a { k with pl:=mdel k.pl c }∧KOk { k with pl:=mdel k.pl c })
theorem KOk.waited (h:KOk k) {c:Int} {b:Nat} (hb:mget k.pl c=some b) (hs:(k.pf b).state=2):KOk { k with pl:=mdel k.pl c } :=
  { h with
    kin:=h.kin.del hb hs
    run:=fun p => by
      unfold RunsIn
      rw [stR_del]
      by_cases e:p=c
      · subst e
        rw [if_pos rfl]
        have h1:¬ RunsIn k.pl k.pf p:=fun hr => by
          obtain ⟨b',hb',hr'⟩:=hr.at_
          rw [hb] at hb'; cases hb'
          omega
        constructor
        · intro h2; cases h2
        · intro h2; exact absurd ((h.run p).2 h2) h1
      · rw [if_neg e]; exact h.run p }
theorem kwait_yes (h:KIn W w a k C) (hok:KOk k) (hi:(mget k.ow pid).isSome=true) :
  Calls Tryz.prog 32 #[.pointer (some ⟨a.kb,0,none⟩),.int .i64 pid] w (fun e w' => WaitTo W a k pid e w'):=by
 have HP:=hid (wait_runs h.pr pid ((hok.run pid).2 hi) hok.kin.wf (by have:=hok.kin.len; omega))
 have c3:=h.c3
 have H:=hid h
 have HOk:=hid hok
 unfold Waited at HP
 clear h hok hi
 go_enter Tryz.func32,Tryz.ntmps32
 go_wp2_with fail
 refine HP.out.mono ?_
 rintro e w2 (⟨h1,rfl,t⟩ | ⟨h1,h2,rfl,t⟩ | ⟨j,c,b,h1,h2,h3,h4,rfl,hT,t⟩)
 ·have HX:=hid (show ownOf k.pl k.pf pid=[]∧KIs W w2 a k from ⟨h1,⟨C,H.out.still t⟩⟩)
  clear h1 t
  go_wp2_with fail
  go_returns
  exact .inl ⟨HX.out.1,rfl,HX.out.2⟩
 ·have HX:=hid (show ownOf k.pl k.pf pid≠[]∧(∀ c∈ownOf k.pl k.pf pid,stR k.pl k.pf c≠2)∧KIs W w2 a k from ⟨h1,h2,⟨C,H.out.still t⟩⟩)
  clear h1 h2 t
  go_wp2_with fail
  go_returns
  exact .inr (.inl ⟨HX.out.1,HX.out.2.1,rfl,HX.out.2.2⟩)
 ·have hK:=H.out.prStep (pf':=k.pf) hT (t.mono (fun _ _ e => .inr (.inl e))) (fun j hj => .inl (pfoot_del hj))
  have HX:=hid (show (ownOf k.pl k.pf pid)[j]?=some c∧(∀ z∈(ownOf k.pl k.pf pid).take j,stR k.pl k.pf z≠2)∧mget k.pl c=some b∧(k.pf b).state=2∧KIs W w2 a { k with pl:=mdel k.pl c }∧KOk { k with pl:=mdel k.pl c } from ⟨h1,h2,h3,h4,hK,HOk.out.waited h3 h4⟩)
  clear h1 h2 h3 h4 hT t hK
  go_wp2_with fail
  go_returns
  exact .inr (.inr ⟨j,c,b,HX.out.1,HX.out.2.1,HX.out.2.2.1,HX.out.2.2.2.1,rfl,HX.out.2.2.2.2⟩)
end
section
variable {W w w' w1:World} {a:KA} {k:KS} {C C':Nat→Nat×Nat} {pid:Int} {i j:Nat} {o o':KO} {x:Spc} {y:Nat×PTab} {S S':PS} {L L' L0:PTab} {ts:List (Nat×PTab)} {tab:Nat} {t':St}
/-! ### a table that is cleared -/
theorem closeL_self (h:TabOk S L) (hp:0≤(L i).1) (hi:i < 8):(closeL S L (i:Int) i).1=0:=by
 unfold closeL
 cases he:entL S L (i:Int) with
 | none =>
  have h1:=entL_none h he
  unfold slotL at h1
  by_cases hz:(L i).1=0
  ·exact hz
  ·rw [if_pos ⟨by omega,by omega,by rw [Int.toNat_natCast]; exact hz⟩] at h1; cases h1
 | some z => simp only [Option.elim,Int.toNat_natCast]; rw [tset_self]
theorem clear_zero:∀ (f i:Nat) (S:PS) (L:PTab),i+f=8→DOk S→Joint S (ts.set j (tab,L))→(∃ z,ts[j]?=some z)→(∀ m,i≤m→m < 8→L m=L0 m)→(∀ m,m < i→(L m).1=0)→∀ m,m < 8→((clearFrom L0 true f i S L).2 m).1=0
 | 0,i,S,L,hi,_,_,_,_,h2,m,hm => h2 m (by omega)
 | f+1,i,S,L,hi,hS,hJ,hz,h1,h2,m,hm => by
  obtain ⟨z,hz⟩:=hz
  have hget:(ts.set j (tab,L))[j]?=some (tab,L):=set_at hz
  have hpos:=hJ.pos j _ hget
  by_cases hc:0 < (L0 i).1
  ·rw [clear_go f i ⟨hc,.inl rfl⟩]
   have hJ2:=joint_close hJ hS hget (i:Int)
   rw [List.set_set] at hJ2
   refine clear_zero f (i+1) _ _ (by omega) (hS.close L i) hJ2 ⟨z,hz⟩ (fun m' h3 h4 => ?_) (fun m' h3 => ?_) m hm
   ·rw [closeL_other S L (i:Int) (by rw [Int.toNat_natCast]; omega)]
    exact h1 m' (by omega) h4
   ·by_cases e:m'=i
    ·subst e
     exact closeL_self (hJ.there hget) (hpos m' (by omega)).1 (by omega)
    ·rw [closeL_other S L (i:Int) (by rw [Int.toNat_natCast]; exact e)]
     exact h2 m' (by omega)
  ·rw [clear_no f i (fun h => hc h.1)]
   refine clear_zero f (i+1) S L (by omega) hS hJ ⟨z,hz⟩ (fun m' h3 h4 => h1 m' (by omega) h4) (fun m' h3 => ?_) m hm
   by_cases e:m'=i
   ·subst e
    have h5:=h1 m' (Nat.le_refl _) (by omega)
    have h6:=hpos m' (by omega)
    simp only at h6
    rw [h5] at h6 ⊢
    omega
   ·exact h2 m' (by omega)
theorem used_zero (h:∀ m,m < 8→(L m).1=0):usedL L=0:=by
 have key:∀ f i,i+f≤8→usedFrom L f i=0:=by
  intro f
  induction f with
  | zero => intro i _; rfl
  | succ f ih =>
   intro i hi
   show (if 0 < (L i).1 then 1 else 0)+usedFrom L f (i+1)=0
   rw [h i (by omega),if_neg (by omega),ih (i+1) (by omega)]
 exact key 8 0 (by omega)
theorem cleared_zero (hS:DOk S) (hJ:Joint S ts) (hi:ts[i]?=some (tab,L)):∀ m,m < 8→(clearL S L true m).1=0:=by
 unfold clearL
 exact clear_zero (j:=i) (ts:=ts) (tab:=tab) 8 0 S L rfl hS (by rw [set_same hi]; exact hJ) ⟨_,hi⟩ (fun _ _ _ => rfl) (fun m h => absurd h (Nat.not_lt_zero _))
theorem tab_first {y':PTab} (hi:ts[i]?=some y):∀ (m:Nat) z,ts[m]?=some z→∃ z',(ts.set i (y.1,y'))[m]?=some z'∧z'.1=z.1:=fun m z hz => by
 by_cases e:i=m
 ·subst e
  rw [hi] at hz; cases hz
  exact ⟨_,set_at hi,rfl⟩
 ·exact ⟨z,by rw [List.getElem?_set,if_neg e]; exact hz,rfl⟩
/-! ### Exit -/
def exitK (k:KS) (pid:Int) (i:Nat) (x:Spc) (y:Nat×PTab) (b:Nat) (c:Int) (t':St):KS :=
  { k with t:=t',l:=k.l.set i ⟨x.sp,x.pm,fun _ => none⟩,S:=clearS k.S y.2 true,ts:=k.ts.set i (y.1,clearL k.S y.2 true),ow:=mdel k.ow pid,pf:=exitF k.pf b pid c }
def exE (pid:Int):Int:=if pid=1 then 6 else 0
def ExitTo (W:World) (a:KA) (k:KS) (pid:Int) (i:Nat) (x:Spc) (y:Nat×PTab) (c:Int) (e:Ending) (w':World):Prop :=
 e=.returned (VmErr (exE pid))∧KTo W a k (exE pid) (fun k' => ∃ t' b,t'.m=k.t.m∧mget k.pl pid=some b∧k'=exitK k pid i x y b c t') w'
theorem mdel_get {ow:List (Int×Nat)} {p q:Int}:mget (mdel ow p) q=if q=p then none else mget ow q:=mget_mdel ow p q
theorem KOk.exit (h:KOk k) (hm:Mine k pid i o x y) (h1:pid≠1) {b:Nat} (hb:mget k.pl pid=some b) (c:Int) (hd:DOk (clearS k.S y.2 true)) (hj:Joint (clearS k.S y.2 true) (k.ts.set i (y.1,clearL k.S y.2 true))):KOk (exitK k pid i x y b c t'):=by
 have hno:∀ j,(∃ q,mget (mdel k.ow pid) q=some j) ↔ Owned k j∧j≠i:=fun j => by
  constructor
  ·rintro ⟨q,hq⟩
   rw [mdel_get] at hq
   by_cases e:q=pid
   ·rw [if_pos e] at hq; cases hq
   ·rw [if_neg e] at hq
    exact ⟨⟨q,hq⟩,fun e2 => e (h.inj q pid i (by rw [← e2]; exact hq) hm.own)⟩
  ·rintro ⟨⟨q,hq⟩,hne⟩
   refine ⟨q,?_⟩
   rw [mdel_get,if_neg (fun e => hne ?_)]
   ·exact hq
   ·subst e
    have h3:=hm.own
    rw [hq] at h3
    exact Option.some.inj h3
 refine ⟨h.kin.exit hb h1 c,hd,hj,⟨by unfold exitK; simp only [List.length_set]; exact h.len.1,by unfold exitK; simp only [List.length_set]; exact h.len.2.1,h.len.2.2⟩,fun p => ?_,mdel_nodup h.nd _,fun p q j hp hq => ?_,fun j v z u hv hz hu hown => ?_,h.fit,fun j z u hz hu hown => ?_,fun p j hp => ?_⟩
 ·unfold RunsIn
  show stR k.pl (exitF k.pf b pid c) p=1 ↔ (mget (mdel k.ow pid) p).isSome=true
  rw [stR_exit h.kin.inj hb,mdel_get]
  by_cases e:p=pid
  ·rw [if_pos e,if_pos e]; simp
  ·rw [if_neg e,if_neg e]; exact h.run p
 ·have hp':mget (mdel k.ow pid) p=some j:=hp
  have hq':mget (mdel k.ow pid) q=some j:=hq
  rw [mdel_get] at hp' hq'
  split at hp'
  ·cases hp'
  ·split at hq'
   ·cases hq'
   ·exact h.inj p q j hp' hq'
 ·obtain ⟨hown,hne⟩:=(hno j).1 hown
  rcases get_set_cases hz with ⟨e,_⟩ | ⟨_,hz⟩
  ·exact absurd e hne
  ·rcases get_set_cases hu with ⟨e,_⟩ | ⟨_,hu⟩
   ·exact absurd e hne
   ·exact h.live j v z u hv hz hu hown
 ·rcases get_set_cases hz with ⟨rfl,rfl,_⟩ | ⟨hne,hz⟩
  ·rcases get_set_cases hu with ⟨_,rfl,_⟩ | ⟨hne,_⟩
   ·exact ⟨rfl,used_zero (cleared_zero h.dok h.joint (by rw [hm.tab]))⟩
   ·exact absurd rfl hne
  ·rcases get_set_cases hu with ⟨e,_⟩ | ⟨_,hu⟩
   ·exact absurd e hne
   ·exact h.dead j z u hz hu (fun ho => hown ((hno j).2 ⟨ho,hne⟩))
 ·have hp':mget (mdel k.ow pid) p=some j:=hp
  rw [mdel_get] at hp'
  split at hp'
  ·cases hp'
  ·exact h.lt p j hp'
theorem keysK_del (os:List KO) (ow:List (Int×Nat)) (pid:Int):keysK os (mdel ow pid)=mdel (keysK os ow) pid:=by
 unfold keysK mdel
 rw [List.filter_map]
 rfl
theorem mem_mdel2 {ow:List (Int×Nat)} {pid:Int} {t:Int×Nat} (h:t∈mdel ow pid):t∈ow:=(List.mem_filter.1 h).1
def ExitKeep (W:World) (a:KA) (k:KS) (pid:Int) (i:Nat) (x:Spc) (y:Nat×PTab) (c:Int) (C:Nat→Nat×Nat) (w:World) (e:Ending) (w':World):Prop :=
 e=.returned (VmErr (exE pid))∧∃ k' C',KIn W w' a k' C'∧Own7 C C' w w'∧KOk k'∧(pid≠1→∃ t' b,t'.m=k.t.m∧mget k.pl pid=some b∧k'=exitK k pid i x y b c t')∧(pid=1→k'=k)
theorem kexit_keep (h:KIn W w a k C) (hok:KOk k) (hm:Mine k pid i o x y) (c:Int) :
  Calls Tryz.prog 20 #[.pointer (some ⟨a.kb,0,none⟩),.int .i64 pid,.int .i64 c] w (fun e w' => ExitKeep W a k pid i x y c C w e w'):=by
 have HW:=hid (who_yes h hok hm.own hm.ko)
 have hr:RunsIn k.pl k.pf pid:=(hok.run pid).2 (by rw [hm.own]; rfl)
 obtain ⟨hO,hL⟩:=h.at_ hm
 have c3:=h.c3
 have H:=hid h
 have HOk:=hid hok
 have HM:=hid hm
 by_cases h1:pid=1
 ·subst h1
  have HP:=hid (exit_one h.pr c hr)
  unfold ExitKeep
  rw [show exE 1=6 from rfl]
  clear h hok hm hO hL hr
  go_enter Tryz.func20,Tryz.ntmps20
  go_wp2_with fail
  refine HW.out.mono ?_
  rintro e w1 ⟨rfl,hw⟩; subst w1
  go_wp2_with fail
  refine HP.out.mono ?_
  rintro e w2 ⟨rfl,rfl⟩
  go_wp2_with fail
  go_returns
  exact ⟨rfl,k,C,H.out,Own7.still (Turn.refl _ _),HOk.out,fun e => absurd rfl e,fun _ => rfl⟩
 ·obtain ⟨b,hb⟩:=runs_block hr
  have HP:=hid (exit_runs h.pr pid c b hr hb h1)
  have HB:=hid hb
  have H1:=hid h1
  unfold ExitKeep
  rw [show exE pid=0 from if_neg h1]
  clear h hok hm hO hL hr h1 hb
  go_enter Tryz.func20,Tryz.ntmps20
  go_wp2_with fail
  refine HW.out.mono ?_
  rintro e w1 ⟨rfl,hw⟩; subst w1
  go_wp2_with fail
  refine HP.out.mono ?_
  rintro e w2 ⟨rfl,hT,t2⟩
  obtain ⟨C2,hK2,o2⟩:∃ C2,KIn W w2 a _ C2∧Own7 C C2 w w2:=⟨_,H.out.prStepC hT (t2.mono (fun _ _ e => .inr (.inr e))) (fun j hj => .inl hj)⟩
  have HK2:=hid hK2
  have HO2:=hid o2
  have hO2:=(hK2.at_ (pid:=pid) (i:=i) (o:=o) (x:=x) (y:=y) ⟨HM.out.own,HM.out.ko,HM.out.sp,HM.out.tab⟩).1
  have c0:=hO2.c0
  have hcl:=vmClear_is (hK2.vm.at HM.out.sp)
  unfold Cleared at hcl
  have HCl:=hid hcl
  clear hT t2 hK2 hO2 hcl o2
  go_wp2_with fail
  refine HCl.out.mono ?_
  rintro e w3 ⟨rfl,t3,hm3,hA3⟩
  obtain ⟨C3,hK3,o3⟩:=HK2.out.vmAtC HM.out.sp hA3
  have HK3:=hid hK3
  have HO3:=hid (HO2.out.trans o3)
  have HM3:=hid hm3
  obtain ⟨x3,y3,hx3,hy3,hO3,hL3⟩:=hK3.own i o HM.out.ko
  have hy4:y3=y:=by
   have:=HM.out.tab
   rw [show k.ts[i]?=some y3 from hy3] at this
   exact Option.some.inj this
  rw [hy4] at hO3
  have td:Turn (fun _ => False) w3 w3.drew:=(Turn.refl _ _).drew
  have HFc:=hid (law_clear ((hK3.still td).desc) HOk.out.dok HOk.out.joint HM.out.tab)
  have q1:=(td.cell (lt_of_cell hO3.c1) id).trans hO3.c1
  have q2:=(td.cell (lt_of_cell hK3.c2) id).trans hK3.c2
  have HTd:=hid td
  clear hA3 hK3 hm3 hx3 hy3 hO3 hL3 hy4 td c0 c3 o3
  go_wp2_with fail
  go_region_held3 (fun w' => w'.cell? ⟨o.ob,1,none⟩=some (.pointer (some ⟨y.1,0,none⟩))∧w'.cell? ⟨a.kb,2,none⟩=some (.pointer (some ⟨a.fb,0,none⟩)))
   (first | exact ⟨q1,q2⟩ | exact ⟨r1,r2⟩ | go_keep)
   (first | (go_at_call 68; refine HFc.out.mono ?_; rintro e w4 ⟨rfl,hd4,hok4,hj4⟩; have hK4:=(HK3.out.still HTd.out).descStepC hd4 (tab_first HM.out.tab); have HK4:=hid hK4; have HO4:=hid ((HO3.out.trans (Own7.still HTd.out)).trans (own7_desc hd4)); have HOk4:=hid hok4; have HJ4:=hid hj4; have r4:=hK4.c4; have r2:=hK4.c2; have r1:=(hK4.at_ (pid:=pid) (i:=i) (o:=o) ⟨HM.out.own,HM.out.ko,set_at HM.out.sp,set_at HM.out.tab⟩).1.c1; clear hd4 hok4 hj4 hK4))
  all_goals go_wp2_with (at_delete; refine wpList_mapdel rfl _ _ 116 3 107 rfl Tryz.underlying116 Tryz.underlying3 keyI a.om rfl HK4.out.mp pid rfl ?_; intro w5 hm5 t5; have HM5:=hid hm5; have HT5:=hid t5; clear hm5 t5)
  all_goals go_returns
  all_goals
   have hm5:=HM5.out
   rw [← keysK_del] at hm5
   have hK5:=HK4.out.ownsC hm5 (fun t ht => HK4.out.has t (mem_mdel2 ht)) HT5.out
   have ho5:=HO4.out.trans (own7_at HK4.out.com (by decide) HT5.out)
   exact ⟨rfl,exitK k pid i x y b c t3,C3,hK5,ho5,HOk.out.exit HM.out H1.out HB.out c HOk4.out HJ4.out,fun _ => ⟨t3,HM3.out,b,HB.out,rfl⟩,fun e => absurd e H1.out⟩
theorem kexit_yes (h:KIn W w a k C) (hok:KOk k) (hm:Mine k pid i o x y) (c:Int) :
  Calls Tryz.prog 20 #[.pointer (some ⟨a.kb,0,none⟩),.int .i64 pid,.int .i64 c] w (fun e w' => ExitTo W a k pid i x y c e w'):=by
 refine (kexit_keep h hok hm c).mono ?_
 rintro e w' ⟨he,k',C',h1,_,h2,h3,h4⟩
 refine ⟨he,k',⟨C',h1⟩,h2,fun hz => ?_,fun hz => ?_⟩
 ·obtain ⟨t',b,e1,e2,e3⟩:=h3 (fun e => by subst e; cases hz)
  exact ⟨t',b,e1,e2,e3⟩
 ·have e1:pid=1:=by
   by_cases e:pid=1
   ·exact e
   ·exact absurd (if_neg e) hz
  exact ⟨k.t,rfl,h4 e1⟩
end
section
variable {W w w' w1:World} {a:KA} {k:KS} {C C':Nat→Nat×Nat} {pid:Int} {i j:Nat} {o o':KO} {x:Spc} {y:Nat×PTab} {S S':PS} {L L' L0:PTab} {ts:List (Nat×PTab)} {tab:Nat} {t':St} {u':Nat→Int} {e:PE} {n:Int}
def fileK (k:KS) (i:Nat) (o:KO) (y:Nat×PTab) (S':PS) (L':PTab) (u':Nat→Int):KS:={ k with S:=S',ts:=k.ts.set i (y.1,L'),os:=k.os.set i { o with u:=u' } }
theorem fileK_same (hm:Mine k pid i o x y):fileK k i o y k.S y.2 o.u=k:=by
 unfold fileK
 have e1:k.ts.set i (y.1,y.2)=k.ts:=list_set_same hm.tab
 have e2:k.os.set i { o with u:=o.u }=k.os:=list_set_same hm.ko
 rw [e1,e2]
theorem KOk.file (h:KOk k) (hm:Mine k pid i o x y) (hd:DOk S') (hj:Joint S' (k.ts.set i (y.1,L'))) (hu:u' 0=o.u 0∧u' 1=usedL L'∧u' 2=o.u 2) (hf:Fit u' o.m):KOk (fileK k i o y S' L' u'):=by
 refine ⟨h.kin,hd,hj,⟨by unfold fileK; simp only [List.length_set]; exact h.len.1,by unfold fileK; simp only [List.length_set]; exact h.len.2.1,by unfold fileK; simp only [List.length_set]; exact h.len.2.2⟩,h.run,h.nd,h.inj,fun j p v z hp hv hz hown => ?_,fun j p hp => ?_,fun j v z hv hz hno => ?_,fun q j hq => by unfold fileK; simp only [List.length_set]; exact h.lt q j hq⟩
 ·rcases get_set_cases hp with ⟨rfl,rfl,_⟩ | ⟨hne,hp⟩
  ·rcases get_set_cases hz with ⟨_,rfl,_⟩ | ⟨hne,_⟩
   ·have hv':v=x:=by have:=hm.sp; rw [show k.l[j]?=some v from hv] at this; cases this; rfl
    subst hv'
    have hl:=h.live j o v y hm.ko hm.sp hm.tab hown
    exact ⟨hu.1.trans hl.1,hu.2.1,hu.2.2.trans hl.2.2⟩
   ·exact absurd rfl hne
  ·rcases get_set_cases hz with ⟨e,_⟩ | ⟨_,hz⟩
   ·exact absurd e hne
   ·exact h.live j p v z hp hv hz hown
 ·rcases get_set_cases hp with ⟨rfl,rfl,_⟩ | ⟨hne,hp⟩
  ·exact ⟨hf,(h.fit j o hm.ko).2⟩
  ·exact h.fit j p hp
 ·rcases get_set_cases hz with ⟨rfl,rfl,_⟩ | ⟨hne,hz⟩
  ·exact absurd ⟨pid,hm.own⟩ hno
  ·exact h.dead j v z hv hz hno
theorem KIn.fileStepC (h:KIn W w a k C) (hm:Mine k pid i o x y) (hd:DLawB ⟨w,fun j => j < W.heap.size∨C j≠(0,0)⟩ w' a.fb a.tb S' (k.ts.set i (y.1,L'))):KIn W w' a (fileK k i o y S' L' o.u) C:=by
 have h1:=h.descStepC hd (tab_first hm.tab)
 unfold fileK
 rw [show k.os.set i { o with u:=o.u }=k.os from list_set_same hm.ko]
 exact h1
theorem KIn.fileStep (h:KIn W w a k C) (hm:Mine k pid i o x y) (hd:DLawB ⟨w,fun j => j < W.heap.size∨C j≠(0,0)⟩ w' a.fb a.tb S' (k.ts.set i (y.1,L'))):KIs W w' a (fileK k i o y S' L' o.u):=⟨C,h.fileStepC hm hd⟩
theorem KIn.drewS (h:KIn W w a k C):KIn W w.drew a k C:=h.still ((Turn.refl _ _).drew)
theorem KOk.there (h:KOk k) (hm:Mine k pid i o x y):TabOk k.S y.2:=h.joint.there hm.tab
theorem KIn.tok (h:KIn W w a k C):TOk k.S.T:=h.desc.tok
/-! ### what is refused leaves the files -/
theorem mput_same {κ β:Type} [DecidableEq κ]:∀ {m:List (κ×β)} {q:κ} {v:β},mget m q=some v→MNodup m→mput m q v=m:=by
 intro m q v hg hn
 have h1:mput m q v=mupd m q v:=by
  unfold mput
  rw [hg]; rfl
 rw [h1]
 unfold mupd
 have:∀ t∈m,(if t.1=q then (t.1,v) else t)=t:=fun t ht => by
  by_cases e:t.1=q
  ·rw [if_pos e]
   have h2:=mget_mem hn ht
   rw [e,hg] at h2
   cases h2
   rfl
  ·rw [if_neg e]
 rw [List.map_congr_left this,List.map_id']
/-! ### the calls -/
theorem putS_same {S:PS} {q:Int} {e:PE} (hS:DOk S) (he:mget S.es q=some e):putS S q e=S:=by
 unfold putS
 rw [mput_same he hS.nd]
theorem pipeS_same {S:PS} {q:Nat} {p:PP} (hp:S.ps[q]?=some p):pipeS S q p=S:=by
 unfold pipeS
 rw [list_set_same hp]
theorem rd_err (hS:DOk S) {m:Int} (hz:rdE S L n m≠0):rdS S L n m=S:=by
 unfold rdE at hz
 unfold rdS
 cases he:entL S L n with
 | none => rfl
 | some z =>
  rw [he] at hz
  simp only [Option.elim] at hz ⊢
  obtain ⟨_,hge⟩:=entL_some he
  split
  ·rfl
  ·rename_i h1
   rw [if_neg h1] at hz
   split
   ·rename_i h2
    rw [if_pos h2] at hz
    cases hq:S.ps[z.2.pid]? with
    | none => rfl
    | some q =>
     rw [hq] at hz
     simp only at hz ⊢
     unfold pRdQ
     rw [if_neg hz]
     exact pipeS_same hq
   ·rename_i h2
    rw [if_neg h2] at hz
    have h3:readT S.T z.2.node z.2.at' m=ByteArray.empty:=if_neg hz
    rw [h3]
    have h4:({ z.2 with at':=z.2.at'+(ByteArray.empty.size:Int) }:PE)=z.2:=by
     have:(ByteArray.empty.size:Int)=0:=rfl
     rw [this,Int.add_zero]
    rw [h4]
    exact putS_same hS hge
theorem fileK_err {z:Int} {R:KS→Prop} (hm:Mine k pid i o x y) (h:KIs W w' a (fileK k i o y S' L' o.u)) (hok:KOk k) (hS:S'=k.S) (hL:L'=y.2) (hz:z≠0):KTo W a k z R w':=by
 subst hS hL
 rw [fileK_same hm] at h
 exact KTo.no h hok hz
theorem law_markK {B:Base} {fb tb:Nat} (h:DLawB B w fb tb S ts) (hi:ts[i]?=some (tab,L)) (hok:TabOk S L) (n:Int) (c:Bool) :
  Calls Tryz.prog 235 #[.pointer (some ⟨fb,0,none⟩),.pointer (some ⟨tab,0,none⟩),.int .i64 n,.bool c] w fun e w' => e=.returned (TErr (getE L n))∧DLawB B w' fb tb S (ts.set i (tab,markL S L n c)):=by
 obtain ⟨F,h1,h2,h3⟩:=h.files
 exact (mark_is h1 (h.tabs i _ hi).1 hok (h3 i _ hi) n c).mono fun e w' x => ⟨x.1,h.step hi h2 h3 x.2⟩
theorem usedL_mark (c:Bool):usedL (markL S L n c)=usedL L:=by
 unfold markL
 cases he:entL S L n with
 | none => rfl
 | some z =>
  obtain ⟨h0,h8,_⟩:=slotL_some (entL_some he).1
  simp only [Option.elim]
  have h1:=usedL_set (L:=L) (j:=n.toNat) (x:=((L n.toNat).1,c)) (by omega)
  have h2:usX ((L n.toNat).1,c)=usX (L n.toNat):=rfl
  rw [h2] at h1
  omega
def ReadTo (W:World) (a:KA) (k:KS) (i:Nat) (o:KO) (y:Nat×PTab) (n m:Int) (e:Ending) (w':World):Prop :=
 e=.returned (.tuple #[.string (rdB k.S y.2 n m),TErr (rdE k.S y.2 n m)])∧KTo W a k (rdE k.S y.2 n m) (fun k' => k'=fileK k i o y (rdS k.S y.2 n m) (y.2) o.u) w'
theorem kread_yes (h:KIn W w a k C) (hok:KOk k) (hm:Mine k pid i o x y) (n m:Int) :
  Calls Tryz.prog 19 #[.pointer (some ⟨a.kb,0,none⟩),.int .i64 pid,.int .i64 n,.int .i64 m] w (fun e w' => ReadTo W a k i o y n m e w'):=by
 have HW:=hid (who_yes h hok hm.own hm.ko)
 obtain ⟨hO,hL⟩:=h.at_ hm
 have hd:=h.drewS
 obtain ⟨hO2,_⟩:=hd.at_ hm
 have HP:=hid (law_dread hd.desc hok.dok hm.tab (hok.there hm) n m)
 have q1:=hO2.c1
 have q2:=hd.c2
 have HD:=hid hd
 have HOk:=hid hok
 have HM:=hid hm
 have HTok:=hid h.tok
 obtain ⟨z,hz⟩:∃ z,rdE k.S y.2 n m=z:=⟨_,rfl⟩
 unfold ReadTo
 rw [hz] at HP ⊢
 have HZ:=hid hz
 clear h hok hm hO hL hd hO2 hz
 go_enter Tryz.func19,Tryz.ntmps19
 go_wp2_with fail
 refine HW.out.mono ?_
 rintro e w1 ⟨rfl,hw⟩; subst w1
 go_wp2_with fail
 go_region_held3 (fun w' => w'.cell? ⟨o.ob,1,none⟩=some (.pointer (some ⟨y.1,0,none⟩))∧w'.cell? ⟨a.kb,2,none⟩=some (.pointer (some ⟨a.fb,0,none⟩)))
  (first | exact ⟨q1,q2⟩ | exact ⟨r1,r2⟩ | go_keep)
  (first | (go_at_call 65; refine HP.out.mono ?_; rintro e w4 ⟨rfl,hd4⟩; have hK4:=HD.out.fileStep HM.out hd4; have HK4:=hid hK4; obtain ⟨C4,hI4⟩:=hK4; have r2:=hI4.c2; have r1:=(hI4.at_ (pid:=pid) (i:=i) (o:={ o with u:=o.u }) ⟨HM.out.own,set_at HM.out.ko,HM.out.sp,set_at HM.out.tab⟩).1.c1; simp only at r1; clear hd4 hI4))
 all_goals go_wp2_with fail
 all_goals go_returns
 all_goals
  by_cases hz:z=0
  ·refine ⟨rfl,_,HK4.out,?_,fun _ => rfl,fun e => absurd hz e⟩
   have hf:=HOk.out.fit i o HM.out.ko
   exact HOk.out.file HM.out (dok_rd HOk.out.dok HTok.out y.2 n m).1 (by rw [set_same HM.out.tab]; exact joint_rd HOk.out.joint y.2 n m) ⟨rfl,(HOk.out.live i o x y HM.out.ko HM.out.sp HM.out.tab ⟨pid,HM.out.own⟩).2.1,rfl⟩ hf.1
  ·exact ⟨rfl,fileK_err HM.out HK4.out HOk.out (rd_err HOk.out.dok (by rw [HZ.out]; exact hz)) (rfl) hz⟩
def MarkTo (W:World) (a:KA) (k:KS) (i:Nat) (o:KO) (y:Nat×PTab) (n:Int) (c:Bool) (e:Ending) (w':World):Prop :=
 e=.returned (TErr (getE y.2 n))∧KTo W a k (getE y.2 n) (fun k' => k'=fileK k i o y (k.S) (markL k.S y.2 n c) o.u) w'
theorem kmark_yes (h:KIn W w a k C) (hok:KOk k) (hm:Mine k pid i o x y) (n:Int) (c:Bool) :
  Calls Tryz.prog 161 #[.pointer (some ⟨a.kb,0,none⟩),.int .i64 pid,.int .i64 n,.bool c] w (fun e w' => MarkTo W a k i o y n c e w'):=by
 have HW:=hid (who_yes h hok hm.own hm.ko)
 obtain ⟨hO,hL⟩:=h.at_ hm
 have hd:=h.drewS
 obtain ⟨hO2,_⟩:=hd.at_ hm
 have HP:=hid (law_markK hd.desc hm.tab (hok.there hm) n c)
 have q1:=hO2.c1
 have q2:=hd.c2
 have HD:=hid hd
 have HOk:=hid hok
 have HM:=hid hm
 have HTok:=hid h.tok
 obtain ⟨z,hz⟩:∃ z,getE y.2 n=z:=⟨_,rfl⟩
 unfold MarkTo
 rw [hz] at HP ⊢
 have HZ:=hid hz
 clear h hok hm hO hL hd hO2 hz
 go_enter Tryz.func161,Tryz.ntmps161
 go_wp2_with fail
 refine HW.out.mono ?_
 rintro e w1 ⟨rfl,hw⟩; subst w1
 go_wp2_with fail
 go_region_held3 (fun w' => w'.cell? ⟨o.ob,1,none⟩=some (.pointer (some ⟨y.1,0,none⟩))∧w'.cell? ⟨a.kb,2,none⟩=some (.pointer (some ⟨a.fb,0,none⟩)))
  (first | exact ⟨q1,q2⟩ | exact ⟨r1,r2⟩ | go_keep)
  (first | (go_at_call 235; refine HP.out.mono ?_; rintro e w4 ⟨rfl,hd4⟩; have hK4:=HD.out.fileStep HM.out hd4; have HK4:=hid hK4; obtain ⟨C4,hI4⟩:=hK4; have r2:=hI4.c2; have r1:=(hI4.at_ (pid:=pid) (i:=i) (o:={ o with u:=o.u }) ⟨HM.out.own,set_at HM.out.ko,HM.out.sp,set_at HM.out.tab⟩).1.c1; simp only at r1; clear hd4 hI4))
 all_goals go_wp2_with fail
 all_goals go_returns
 all_goals
  by_cases hz:z=0
  ·refine ⟨rfl,_,HK4.out,?_,fun _ => rfl,fun e => absurd hz e⟩
   have hf:=HOk.out.fit i o HM.out.ko
   exact HOk.out.file HM.out HOk.out.dok (joint_mark HOk.out.joint HM.out.tab n c) ⟨rfl,by rw [usedL_mark]; exact (HOk.out.live i o x y HM.out.ko HM.out.sp HM.out.tab ⟨pid,HM.out.own⟩).2.1,rfl⟩ hf.1
  ·exact ⟨rfl,fileK_err HM.out HK4.out HOk.out (rfl) (mark_err (by rw [HZ.out]; exact hz)) hz⟩
end
section
variable {W w w' w1:World} {a:KA} {k:KS} {C C':Nat→Nat×Nat} {pid:Int} {i j:Nat} {o o':KO} {x:Spc} {y:Nat×PTab} {S S':PS} {L L' L0:PTab} {ts:List (Nat×PTab)} {tab:Nat} {t':St} {u':Nat→Int} {e:PE} {n:Int}
theorem KIn.fileLed (h:KIn W w a (fileK k i o y S' L' o.u) C) (hm:Mine k pid i o x y) (hL:LedgerIs w' o.lb u' o.m) (t:Turn (fun j => j=o.lb) w w'):KIs W w' a (fileK k i o y S' L' u'):=by
 have h1:=h.ledger (i:=i) (o:={ o with u:=o.u }) (set_at hm.ko) hL t
 have e:({ fileK k i o y S' L' o.u with os:=(fileK k i o y S' L' o.u).os.set i { ({ o with u:=o.u }:KO) with u:=u',m:=o.m } }:KS)=fileK k i o y S' L' u':=by
  unfold fileK
  simp only [List.set_set]
 rw [e] at h1
 exact h1
theorem mine_file (hm:Mine k pid i o x y):Mine (fileK k i o y S' L' u') pid i { o with u:=u' } x (y.1,L'):=⟨hm.own,set_at hm.ko,hm.sp,set_at hm.tab⟩
theorem closeE_is (hS:DOk S):closeE S L n=if entL S L n=none then 7 else 0:=by
 unfold closeE
 cases he:entL S L n with
 | none => rfl
 | some z =>
  rw [if_neg (by simp)]
  simp only [Option.elim]
  split
  ·rfl
  ·split
   ·rename_i h1 h2
    obtain ⟨_,hge⟩:=entL_some (k:=z.1) (e:=z.2) he
    obtain ⟨p,hp,hd,hh,hpos⟩:=hS.heldPos hge h2
    unfold dropE
    rw [hp]
    simp only [Option.elim,hd]
    rw [if_neg (by decide),if_neg (by omega)]
   ·rfl
theorem usedL_close (hz:closeE S L n=0) (hS:DOk S):usedL (closeL S L n)+1=usedL L:=by
 rw [closeE_is hS] at hz
 unfold closeL
 cases he:entL S L n with
 | none => rw [he] at hz; simp at hz
 | some z =>
  obtain ⟨h0,h8,hne,_⟩:=slotL_some (entL_some (k:=z.1) (e:=z.2) he).1
  simp only [Option.elim]
  have h1:=usedL_set (L:=L) (j:=n.toNat) (x:=(0,false)) (by omega)
  have h2:usX ((0:Int),false)=0:=rfl
  have hk:=(entL_some (k:=z.1) (e:=z.2) he).2
  have h4:=(hS.keys z.1 z.2 hk).1
  have h3:usX (L n.toNat)=1:=by
   unfold usX
   rw [if_pos]
   have:=(slotL_some (entL_some (k:=z.1) (e:=z.2) he).1).2.2.2
   omega
  omega
def CloseTo (W:World) (a:KA) (k:KS) (i:Nat) (o:KO) (y:Nat×PTab) (n:Int) (e:Ending) (w':World):Prop :=
 e=.returned (TErr (closeE k.S y.2 n))∧KTo W a k (closeE k.S y.2 n) (fun k' => k'=fileK k i o y (closeS k.S y.2 n) (closeL k.S y.2 n) (upd o.u 1 (o.u 1 - 1))) w'
theorem kclose_yes (h:KIn W w a k C) (hok:KOk k) (hm:Mine k pid i o x y) (n:Int) :
  Calls Tryz.prog 15 #[.pointer (some ⟨a.kb,0,none⟩),.int .i64 pid,.int .i64 n] w (fun e w' => CloseTo W a k i o y n e w'):=by
 have HW:=hid (who_yes h hok hm.own hm.ko)
 obtain ⟨hO,hL⟩:=h.at_ hm
 have hd:=h.drewS
 obtain ⟨hO2,_⟩:=hd.at_ hm
 have HP:=hid (law_close hd.desc hok.dok hm.tab (hok.there hm) n)
 have q1:=hO2.c1
 have q2:=hd.c2
 have HD:=hid hd
 have HOk:=hid hok
 have HM:=hid hm
 have HTok:=hid h.tok
 have HLv:=hid (hok.live i o x y hm.ko hm.sp hm.tab ⟨pid,hm.own⟩).2.1
 by_cases hz:closeE k.S y.2 n=0
 ·have HU:=hid (usedL_close hz hok.dok)
  have HZ:=hid hz
  unfold CloseTo
  rw [hz] at HP ⊢
  rw [show TErr 0=.nilIface from rfl] at HP ⊢
  have hwy:why o.u o.m ((1:Int),-1)=0:=why_less (hok.fit i o hm.ko).1 1 (by omega) 1 (by omega) (by rw [HLv.out]; have:=HU.out; omega)
  have HWy:=hid hwy
  clear h hok hm hO hL hd hO2 hz hwy
  go_enter Tryz.func15,Tryz.ntmps15
  go_wp2_with fail
  refine HW.out.mono ?_
  rintro e w1 ⟨rfl,hw⟩; subst w1
  go_wp2_with fail
  go_region_held3 (fun w' => w'.cell? ⟨o.ob,1,none⟩=some (.pointer (some ⟨y.1,0,none⟩))∧w'.cell? ⟨a.kb,2,none⟩=some (.pointer (some ⟨a.fb,0,none⟩)))
   (first | exact ⟨q1,q2⟩ | exact ⟨r1,r2⟩ | go_keep)
   (first | (go_at_call 59; refine HP.out.mono ?_; rintro e w4 ⟨rfl,hd4⟩; have hK4:=HD.out.fileStep HM.out hd4; obtain ⟨C4,hI4⟩:=hK4; have HI4:=hid hI4; have r2:=hI4.c2; have hA4:=(hI4.at_ (mine_file HM.out)); have r1:=hA4.1.c1; have r3:=hA4.1.c2; have HL4:=hid hA4.2; simp only at r1 r3; clear hd4 hI4 hA4))
  all_goals
   have hcg:=charge_one (kind:=1) (n:=-1) HL4.out (HOk.out.fit i o HM.out.ko).1
   unfold Charged1 at hcg
   have HCg:=hid hcg
   clear hcg
   go_wp2_with fail
   refine HCg.out.mono ?_
   rintro e w5 (⟨_,rfl,hl5,hf5,t5⟩ | ⟨hne,_⟩)
   ·have HR:=hid (HI4.out.fileLed HM.out hl5 t5)
    have HF5:=hid hf5
    clear hl5 hf5 t5
    go_wp2_with fail
    go_returns
    have hjj:=joint_close HOk.out.joint HOk.out.dok HM.out.tab n
    refine ⟨rfl,_,HR.out,HOk.out.file HM.out (HOk.out.dok.close y.2 n) hjj ⟨?_,?_,?_⟩ HF5.out,fun _ => rfl,fun e => absurd rfl e⟩
    ·exact upd_other _ _ (by decide)
    ·show upd o.u 1 (o.u 1+-1) 1=_
     rw [upd_same,HLv.out]
     have:=HU.out
     omega
    ·exact upd_other _ _ (by decide)
   ·exact absurd HWy.out hne
 ·obtain ⟨z,hzz⟩:∃ z,closeE k.S y.2 n=z:=⟨_,rfl⟩
  have he:=close_err hok.dok hz
  have HE:=hid he
  unfold CloseTo
  rw [hzz] at HP hz ⊢
  have HZ:=hid hz
  rw [TErr_of hz] at HP ⊢
  clear h hok hm hO hL hd hO2 hz hzz he
  go_enter Tryz.func15,Tryz.ntmps15
  go_wp2_with fail
  refine HW.out.mono ?_
  rintro e w1 ⟨rfl,hw⟩; subst w1
  go_wp2_with fail
  go_region_held3 (fun w' => w'.cell? ⟨o.ob,1,none⟩=some (.pointer (some ⟨y.1,0,none⟩))∧w'.cell? ⟨a.kb,2,none⟩=some (.pointer (some ⟨a.fb,0,none⟩)))
   (first | exact ⟨q1,q2⟩ | exact ⟨r1,r2⟩ | go_keep)
   (first | (go_at_call 59; refine HP.out.mono ?_; rintro e w4 ⟨rfl,hd4⟩; have hK4:=HD.out.fileStep HM.out hd4; have HK4:=hid hK4; obtain ⟨C4,hI4⟩:=hK4; have r2:=hI4.c2; have hA4:=(hI4.at_ (mine_file HM.out)); have r1:=hA4.1.c1; simp only at r1; clear hd4 hI4 hA4))
  all_goals go_wp2_with fail
  all_goals go_returns
  all_goals exact ⟨rfl,fileK_err HM.out HK4.out HOk.out HE.out.1 HE.out.2 HZ.out⟩
end
section
variable {W w w' w1:World} {a:KA} {k:KS} {C C':Nat→Nat×Nat} {pid:Int} {i j:Nat} {o o':KO} {x:Spc} {y:Nat×PTab} {S S':PS} {L L' L0:PTab} {ts:List (Nat×PTab)} {tab:Nat} {t':St} {u' v':Nat→Int} {n:Int}
theorem usedL_close_le (S:PS) (L:PTab) (n:Int) (h:n.toNat < 8):usedL (closeL S L n)≤usedL L:=by
 unfold closeL
 cases he:entL S L n with
 | none => exact Nat.le_refl _
 | some z =>
  simp only [Option.elim]
  have h1:=usedL_set (L:=L) (j:=n.toNat) (x:=(0,false)) h
  have h2:usX ((0:Int),false)=0:=rfl
  omega
theorem usedL_clear_le (c:Bool):∀ (f i:Nat) (S:PS) (L:PTab),i+f≤8→usedL (clearFrom L0 c f i S L).2≤usedL L
 | 0,_,_,_,_ => Nat.le_refl _
 | f+1,i,S,L,hi => by
  by_cases hc:0 < (L0 i).1∧(c=true∨(L0 i).2=true)
  ·rw [clear_go f i hc]
   exact Nat.le_trans (usedL_clear_le c f (i+1) _ _ (by omega)) (usedL_close_le S L i (by simp only [Int.toNat_natCast]; omega))
  ·rw [clear_no f i hc]
   exact usedL_clear_le c f (i+1) S L (by omega)
theorem charge_two {lb:Nat} {u m:Nat→Int} (h:LedgerIs w lb u m) (hf:Fit u m) (k1 n1 k2 n2:Int) (h1:why u m (k1,n1)=0) (h2:why (done u (k1,n1)) m (k2,n2)=0) :
  Calls Tryz.prog 60 #[.pointer (some ⟨lb,0,none⟩),.slice (some ⟨w.heap.size,0,none⟩) 2 2] (w.alloc (.cells #[.int .i64 k1,.int .i64 n1,.int .i64 k2,.int .i64 n2] 129)) (fun e w' => e=.returned .nilIface∧LedgerIs w' lb (done (done u (k1,n1)) (k2,n2)) m∧Fit (done (done u (k1,n1)) (k2,n2)) m∧Turn (fun j => j=lb) w w'):=by
 have ta:Turn (fun _ => False) w (w.alloc (.cells #[.int .i64 k1,.int .i64 n1,.int .i64 k2,.int .i64 n2] 129)):=(Turn.refl _ _).alloc _
 refine (charge_any (h.turned ta id) hf (some ⟨w.heap.size,0,none⟩) [(k1,n1),(k2,n2)] 2 (by simp) (fun _ => ⟨w.heap.size,0,rfl,fun j z hz => ?_,by simp⟩)).mono ?_
 ·match j with
  | 0 => simp at hz; subst hz; simp
  | 1 => simp at hz; subst hz; simp
  | j+2 => simp at hz
 ·rintro e w' (⟨v,hc,hfit,rfl,hl,t⟩ | ⟨er,i,b,hc,hne,rfl,h0,h1,hb,t⟩)
  ·unfold chg at hc
   rw [if_pos h1] at hc
   unfold chg at hc
   rw [if_pos h2] at hc
   unfold chg at hc
   cases hc
   exact ⟨rfl,hl,hfit,(ta.mono (fun _ _ h => h.elim)).trans t⟩
  ·exfalso
   rename_i h1'
   unfold chg at hc
   rw [if_pos h1'] at hc
   unfold chg at hc
   rw [if_pos h2] at hc
   unfold chg at hc
   cases hc
def execK (k:KS) (i:Nat) (o:KO) (x:Spc) (y:Nat×PTab) (t':St):KS :=
  { k with t:=t',l:=k.l.set i ⟨x.sp,x.pm,fun _ => none⟩,S:=clearS k.S y.2 false,ts:=k.ts.set i (y.1,clearL k.S y.2 false),os:=k.os.set i { o with u:=upd (upd o.u 0 0) 1 (usedL (clearL k.S y.2 false)) } }
def ExecTo (W:World) (a:KA) (k:KS) (i:Nat) (o:KO) (x:Spc) (y:Nat×PTab) (e:Ending) (w':World):Prop :=
 e=.returned .nilIface∧∃ t',t'.m=k.t.m∧KIs W w' a (execK k i o x y t')∧DOk (clearS k.S y.2 false)∧Joint (clearS k.S y.2 false) (k.ts.set i (y.1,clearL k.S y.2 false))∧Fit (upd (upd o.u 0 0) 1 (usedL (clearL k.S y.2 false))) o.m
theorem kexec_yes (h:KIn W w a k C) (hok:KOk k) (hm:Mine k pid i o x y) :
  Calls Tryz.prog 33 #[.pointer (some ⟨a.kb,0,none⟩),.int .i64 pid] w (fun e w' => ExecTo W a k i o x y e w'):=by
 have HW:=hid (who_yes h hok hm.own hm.ko)
 obtain ⟨hO,hL⟩:=h.at_ hm
 have c0:=hO.c0
 have H:=hid h
 have HOk:=hid hok
 have HM:=hid hm
 have HLen:=hid (vmLen_is (h.vm.sps i x hm.sp))
 have hcl:=vmClear_is (h.vm.at hm.sp)
 unfold Cleared at hcl
 have HCl:=hid hcl
 have hlv:=hok.live i o x y hm.ko hm.sp hm.tab ⟨pid,hm.own⟩
 have hfit:=(hok.fit i o hm.ko).1
 have hf0:=hfit 0 (by omega)
 have hf1:=hfit 1 (by omega)
 have hle:usedL (clearL k.S y.2 false)≤usedL y.2:=usedL_clear_le false 8 0 k.S y.2 (by omega)
 obtain ⟨N,hN⟩:∃ N:Nat,usedL (clearL k.S y.2 false)=N:=⟨_,rfl⟩
 rw [hN] at hle
 have w1:why o.u o.m ((0:Int),-(o.u 0))=0:=why_less hfit 0 (by omega) _ hf0.1 (Int.le_refl _)
 have d1:done o.u ((0:Int),-(o.u 0))=upd o.u 0 0:=by
  funext j
  show upd o.u 0 (o.u 0+-(o.u 0)) j=_
  rw [show o.u 0+-(o.u 0)=0 by omega]
 have hfit1:Fit (upd o.u 0 0) o.m:=fun j hj => by
  have h3:=hfit j hj
  by_cases e:j=0
  ·subst e; rw [upd_same]; exact ⟨by omega,by omega,h3.2.2⟩
  ·rw [upd_other _ _ e]; exact h3
 have w2:why (done o.u ((0:Int),-(o.u 0))) o.m ((1:Int),-(o.u 1 - N))=0:=by
  rw [d1]
  exact why_less hfit1 1 (by omega) _ (by rw [hlv.2.1]; omega) (by rw [upd_other _ _ (by decide)]; omega)
 have d2:done (done o.u ((0:Int),-(o.u 0))) ((1:Int),-(o.u 1 - N))=upd (upd o.u 0 0) 1 N:=by
  rw [d1]
  funext j
  show upd (upd o.u 0 0) 1 (upd o.u 0 0 1+-(o.u 1 - N)) j=_
  rw [upd_other o.u (k:=0) (j:=1) 0 (by decide),show o.u 1+-(o.u 1 - N)=N by omega]
 have HW1:=hid w1
 have HW2:=hid w2
 have HD2:=hid d2
 have HFit:=hid hfit
 have HN:=hid hN
 have HLv:=hid hlv.1
 have hU1:=hlv.2.1
 have hu8:=usedL_le y.2
 have k1:IntKind.i64.wrap (-(o.u 0))=-(o.u 0):=IntWalk.i64_in _ (by omega)
 have k2:IntKind.i64.wrap (o.u 1 - (N:Int))=o.u 1 - N:=IntWalk.i64_in _ (by omega)
 have k3:IntKind.i64.wrap (-(o.u 1 - (N:Int)))=-(o.u 1 - N):=IntWalk.i64_in _ (by omega)
 have HK1:=hid k1
 have HK2:=hid k2
 have HK3:=hid k3
 rw [← hlv.1] at HLen
 clear h hok hm hO hL hcl hlv hfit hf0 hf1 hle hN w1 d1 hfit1 w2 d2 hU1 hu8
 go_enter Tryz.func33,Tryz.ntmps33
 go_wp2_with fail
 refine HW.out.mono ?_
 rintro e w1 ⟨rfl,hw⟩; subst w1
 go_wp2_with fail
 refine HLen.out.mono ?_
 rintro e w2 ⟨rfl,hw⟩; subst w2
 go_wp2_with fail
 refine HCl.out.mono ?_
 rintro e w3 ⟨rfl,t3,hm3,hA3⟩
 obtain ⟨C3,hK3⟩:=H.out.vmAt HM.out.sp hA3
 have HK3':=hid hK3
 have HM3:=hid hm3
 obtain ⟨x3,y3,hx3,hy3,hO3,hL3⟩:=hK3.own i o HM.out.ko
 have hy4:y3=y:=by
  have:=HM.out.tab
  rw [show k.ts[i]?=some y3 from hy3] at this
  exact Option.some.inj this
 rw [hy4] at hO3
 have td:Turn (fun _ => False) w3 w3.drew:=(Turn.refl _ _).drew
 have HEx:=hid (law_exec ((hK3.still td).desc) HOk.out.dok HOk.out.joint HM.out.tab)
 have q1:=(td.cell (lt_of_cell hO3.c1) id).trans hO3.c1
 have q2:=(td.cell (lt_of_cell hK3.c2) id).trans hK3.c2
 have HTd:=hid td
 clear hA3 hK3 hm3 hx3 hy3 hO3 hL3 hy4 td c0
 go_wp2_with fail
 go_region_held3 (fun w' => w'.cell? ⟨o.ob,1,none⟩=some (.pointer (some ⟨y.1,0,none⟩))∧w'.cell? ⟨a.kb,2,none⟩=some (.pointer (some ⟨a.fb,0,none⟩)))
  (first | exact ⟨q1,q2⟩ | exact ⟨r1,r2⟩ | go_keep)
  (first | (go_at_call 86; refine HEx.out.mono ?_; rintro e w4 ⟨rfl,hd4,hok4,hj4⟩; obtain ⟨C4,hK4⟩:=(HK3'.out.still HTd.out).descStep hd4 (tab_first HM.out.tab); have HK4:=hid hK4; have HOk4:=hid hok4; have HJ4:=hid hj4; have r2:=hK4.c2; have r1:=(hK4.at_ (pid:=pid) (i:=i) (o:=o) ⟨HM.out.own,HM.out.ko,set_at HM.out.sp,set_at HM.out.tab⟩).1.c1; clear hd4 hok4 hj4 hK4))
 all_goals
  have hK4d:=HK4.out.drewS
  have hat:=hK4d.at_ (pid:=pid) (i:=i) (o:=o) ⟨HM.out.own,HM.out.ko,set_at HM.out.sp,set_at HM.out.tab⟩
  have s1:=hat.1.c1
  have s2:=hat.1.c2
  have HUa:=hid (aused_is hat.2 1 (by omega))
  have hus:=used_is (hK4d.desc.tabs i _ (set_at HM.out.tab)).1
  simp only at hus
  rw [HN.out] at hus
  have HUs:=hid hus
  have HK4d:=hid hK4d
  clear hK4d hat hus r1 r2 q1 q2
  go_wp2_with fail
  go_region_held3 (fun w' => w'.cell? ⟨o.ob,1,none⟩=some (.pointer (some ⟨y.1,0,none⟩))∧w'.cell? ⟨o.ob,2,none⟩=some (.pointer (some ⟨o.lb,0,none⟩)))
   (first | exact ⟨s1,s2⟩ | exact ⟨v1,v2⟩ | go_keep)
   (first
    | (go_at_call 87; refine HUa.out.mono ?_; rintro e w6 ⟨rfl,hw6⟩; subst w6)
    | (go_at_call 78; refine HUs.out.mono ?_; rintro e w7 ⟨rfl,t7⟩; have hK7:=HK4d.out.still t7; have hat7:=hK7.at_ (pid:=pid) (i:=i) (o:=o) ⟨HM.out.own,HM.out.ko,set_at HM.out.sp,set_at HM.out.tab⟩; have v1:=hat7.1.c1; have v2:=hat7.1.c2; have HL7:=hid hat7.2; have HK7:=hid hK7; clear t7 hK7 hat7))
  all_goals
   have hc2:=charge_two HL7.out HFit.out 0 (-(o.u 0)) 1 (-(o.u 1 - N)) HW1.out HW2.out
   rw [HD2.out] at hc2
   have HC2:=hid hc2
   have k1:=HK1.out
   have k2:=HK2.out
   have k3:=HK3.out
   clear hc2
   go_wp2_with fail
   refine HC2.out.mono ?_
   rintro e w8 ⟨rfl,hl8,hf8,t8⟩
   have HR:=hid (HK7.out.ledger (i:=i) (o:=o) HM.out.ko hl8 t8)
   have HF8:=hid hf8
   clear hl8 hf8 t8
   go_wp2_with fail
   go_returns
   refine ⟨rfl,t3,HM3.out,?_,HOk4.out,HJ4.out,?_⟩
   ·unfold execK
    rw [HN.out]
    exact HR.out
   ·rw [HN.out]
    exact HF8.out
theorem KOk.exec (h:KOk k) (hm:Mine k pid i o x y) (hd:DOk (clearS k.S y.2 false)) (hj:Joint (clearS k.S y.2 false) (k.ts.set i (y.1,clearL k.S y.2 false))) (hf:Fit (upd (upd o.u 0 0) 1 (usedL (clearL k.S y.2 false))) o.m):KOk (execK k i o x y t'):=by
 refine ⟨h.kin,hd,hj,⟨by unfold execK; simp only [List.length_set]; exact h.len.1,by unfold execK; simp only [List.length_set]; exact h.len.2.1,by unfold execK; simp only [List.length_set]; exact h.len.2.2⟩,h.run,h.nd,h.inj,fun j p v z hp hv hz hown => ?_,fun j p hp => ?_,fun j v z hv hz hno => ?_,fun q j hq => by unfold execK; simp only [List.length_set]; exact h.lt q j hq⟩
 ·rcases get_set_cases hp with ⟨rfl,rfl,_⟩ | ⟨hne,hp⟩
  ·rcases get_set_cases hv with ⟨_,rfl,_⟩ | ⟨hne,_⟩
   ·rcases get_set_cases hz with ⟨_,rfl,_⟩ | ⟨hne,_⟩
    ·have hl:=h.live j o x y hm.ko hm.sp hm.tab hown
     refine ⟨?_,?_,?_⟩
     ·show upd (upd o.u 0 0) 1 (usedL (clearL k.S y.2 false):Int) 0=_
      rw [upd_other _ _ (by decide),upd_same]
      show (0:Int)=((lenP (fun _ => none):Nat):Int)
      rw [lenP_none]; rfl
     ·show upd (upd o.u 0 0) 1 (usedL (clearL k.S y.2 false):Int) 1=(usedL (clearL k.S y.2 false):Int)
      rw [upd_same]
     ·show upd (upd o.u 0 0) 1 (usedL (clearL k.S y.2 false):Int) 2=0
      rw [upd_other _ _ (by decide),upd_other _ _ (by decide)]
      exact hl.2.2
    ·exact absurd rfl hne
   ·exact absurd rfl hne
  ·rcases get_set_cases hv with ⟨e,_⟩ | ⟨_,hv⟩
   ·exact absurd e hne
   ·rcases get_set_cases hz with ⟨e,_⟩ | ⟨_,hz⟩
    ·exact absurd e hne
    ·exact h.live j p v z hp hv hz hown
 ·rcases get_set_cases hp with ⟨rfl,rfl,_⟩ | ⟨hne,hp⟩
  ·exact ⟨hf,(h.fit j o hm.ko).2⟩
  ·exact h.fit j p hp
 ·rcases get_set_cases hz with ⟨rfl,rfl,_⟩ | ⟨hne,hz⟩
  ·exact absurd ⟨pid,hm.own⟩ hno
  ·rcases get_set_cases hv with ⟨e,_⟩ | ⟨_,hv⟩
   ·exact absurd e hne
   ·exact h.dead j v z hv hz hno
end
section
variable {W w w' w1:World} {a:KA} {k:KS} {C C':Nat→Nat×Nat} {pid:Int} {i j:Nat} {o o':KO} {x:Spc} {y:Nat×PTab} {pl:List (Int×Nat)} {pf pf':Nat→Pr} {r:Nat}
def TookF (pl:List (Int×Nat)) (pf:Nat→Pr) (q:Int) (r:Nat) (pf':Nat→Pr):Prop :=
 ∃ b Wt:Nat,mget pl q=some b∧(pf b).waits=(Wt:Nat)∧Wt < 512∧LeastSig Wt r∧pf'=updPr pf b (takenR (pf b) Wt r)
theorem ktake_is (h:KIn W w a k C) (hok:KOk k) (hr:RunsIn k.pl k.pf pid) :
  Calls Tryz.prog 97 #[.pointer (some ⟨a.pb,0,none⟩),.int .i64 pid] w fun e w' => ∃ (r:Nat) (pf':Nat→Pr),e=.returned (.int .i64 (r:Nat))∧TookF k.pl k.pf pid r pf'∧KIs W w' a { k with pf:=pf' }∧KOk { k with pf:=pf' }∧Quiet k.pl k.pf pf':=by
 obtain ⟨b,hb⟩:=runs_block hr
 have hm:=mem_of_mget hb
 obtain ⟨Wt,I,e1,e2,w9,i9⟩:=hok.kin.bits _ hm
 simp only at e1 e2
 refine (take_runs h.pr pid b Wt hr hb e1 w9).mono ?_
 rintro e w' ⟨r,hl,rfl,hT,t⟩
 have hq:Quiet k.pl k.pf (updPr k.pf b (takenR (k.pf b) Wt r)):=by
  refine Quiet.upd b _ ?_ ?_ ?_ <;> (unfold takenR; split <;> rfl)
 have hk:Kin k.pl (updPr k.pf b (takenR (k.pf b) Wt r)):=by
  refine hok.kin.upd b _ ?_ ?_ ?_
  ·unfold takenR; split <;> rfl
  ·unfold takenR; split <;> rfl
  ·unfold takenR; split
   ·exact ⟨Wt,I,e1,e2,w9,i9⟩
   ·rcases hl with ⟨_,h8,_⟩ | ⟨h0,_⟩
    ·exact ⟨_,I,rfl,e2,offR_lt w9 h8,i9⟩
    ·exact absurd h0 ‹_›
 exact ⟨r,_,rfl,⟨b,Wt,hb,e1,w9,hl,rfl⟩,h.prStep hT (t.mono (fun j _ e => .inr (.inr (List.mem_map.2 ⟨_,hm,e.symm⟩)))) (fun j hj => .inl hj),hok.quiet hq hk,hq⟩
def SignalTo (W:World) (a:KA) (k:KS) (pid:Int) (i:Nat) (x:Spc) (y:Nat×PTab) (e:Ending) (w':World):Prop :=
 ∃ (r:Nat) (pf':Nat→Pr),TookF k.pl k.pf pid r pf'∧Quiet k.pl k.pf pf'∧((r=0∧e=.returned (.tuple #[.bool false,.nilIface])∧KIs W w' a { k with pf:=pf' }∧KOk { k with pf:=pf' })∨(r≠0∧e=.returned (.tuple #[.bool true,.nilIface])∧KTo W a { k with pf:=pf' } 0 (fun k' => ∃ t' b,t'.m=k.t.m∧mget k.pl pid=some b∧k'=exitK { k with pf:=pf' } pid i x y b (100+r) t') w'))
theorem ksignal_yes (h:KIn W w a k C) (hok:KOk k) (hm:Mine k pid i o x y) (h1:pid≠1) :
  Calls Tryz.prog 38 #[.pointer (some ⟨a.kb,0,none⟩),.int .i64 pid] w (fun e w' => SignalTo W a k pid i x y e w'):=by
 have HW:=hid (who_yes h hok hm.own hm.ko)
 have HT:=hid (ktake_is h hok ((hok.run pid).2 (by rw [hm.own]; rfl)))
 have c3:=h.c3
 have HM:=hid hm
 have H1:=hid h1
 have hb1:(pid != 1)=true:=by simpa using h1
 have hb2:(pid == 1)=false:=by simpa using h1
 clear h hok hm h1
 go_enter Tryz.func38,Tryz.ntmps38
 go_wp2_with fail
 refine HW.out.mono ?_
 rintro e w1 ⟨rfl,hw⟩; subst w1
 go_wp2_with fail
 go_loopg [8] (0) (fun g v wr => wr=w)
 case atStart => rfl
 case round =>
  subst hrel
  go_wp2_with fail
  refine HT.out.mono ?_
  rintro e w2 ⟨r,pf',rfl,htk,⟨C2,hk2⟩,hok2,hq2⟩
  have hr8:r≤8:=by
   obtain ⟨_,_,_,_,_,hl,_⟩:=htk
   rcases hl with ⟨_,h8,_⟩ | ⟨h0,_⟩ <;> omega
  have HTk:=hid htk
  have HOk2:=hid hok2
  have HQ2:=hid hq2
  by_cases hr:r=0
  ·subst hr
   have HK2:=hid hk2
   clear htk hk2 hok2 hq2
   go_wp2_with fail
   go_returns
   exact ⟨0,pf',HTk.out,HQ2.out,.inl ⟨rfl,rfl,⟨C2,HK2.out⟩,HOk2.out⟩⟩
  ·have HEx:=hid (kexit_yes hk2 hok2 (pid:=pid) (i:=i) (o:=o) (x:=x) (y:=y) ⟨HM.out.own,HM.out.ko,HM.out.sp,HM.out.tab⟩ (100+r))
   unfold ExitTo at HEx
   rw [show exE pid=0 from if_neg H1.out,show VmErr 0=.nilIface from rfl] at HEx
   have hbe:((r:Int) == 0)=false:=by
    rw [beq_eq_false_iff_ne]; omega
   have hwr:IntKind.i64.wrap (100+(r:Int))=100+r:=IntWalk.i64_in _ (by omega)
   have HR:=hid hr
   clear htk hk2 hok2 hq2 hr
   go_wp2_with fail
   refine HEx.out.mono ?_
   rintro e w3 ⟨rfl,hto⟩
   have HTo:=hid hto
   clear hto
   go_wp2_with fail
   go_returns
   exact ⟨r,pf',HTk.out,HQ2.out,.inr ⟨HR.out,rfl,HTo.out⟩⟩
theorem off_less:∀ (w:Fin 512) (r:Fin 9),w.val.testBit r.val=true→offR w.val r.val < w.val:=by decide +kernel
theorem updPr_self (f:Nat→Pr) (b:Nat) (p:Pr) (h:p=f b):updPr f b p=f:=by
 subst h
 funext j
 unfold updPr
 by_cases e:j=b
 ·subst e; simp
 ·simp [e]
theorem updPr_twice (f:Nat→Pr) (b:Nat) (p q:Pr):updPr (updPr f b p) b q=updPr f b q:=by
 funext j
 unfold updPr
 by_cases e:j=b
 ·subst e; simp
 ·simp [e]
theorem updPr_at (f:Nat→Pr) (b:Nat) (p:Pr):updPr f b p b=p:=by unfold updPr; simp
def waitF (pf:Nat→Pr) (b Wt:Nat):Nat→Pr:=updPr pf b { pf b with waits:=(Wt:Nat) }
theorem took_wait {b Wt r:Nat} {q:Int} (hb:mget pl q=some b) (h:TookF pl (waitF pf b Wt) q r pf'):Wt < 512∧LeastSig Wt r∧pf'=waitF pf b (if r=0 then Wt else offR Wt r):=by
 obtain ⟨b2,W2,h1,h2,h3,h4,h5⟩:=h
 rw [hb] at h1
 cases h1
 have e:W2=Wt:=by
  unfold waitF at h2
  rw [updPr_at] at h2
  exact (Int.ofNat.inj h2).symm
 subst e
 refine ⟨h3,h4,?_⟩
 rw [h5]
 unfold takenR
 by_cases hr:r=0
 ·rw [if_pos hr,if_pos hr]
  exact updPr_self _ _ _ rfl
 ·rw [if_neg hr,if_neg hr]
  unfold waitF
  rw [updPr_twice,updPr_at]
def SignalOneTo (W:World) (a:KA) (k:KS) (b:Nat) (e:Ending) (w':World):Prop :=
 e=.returned (.tuple #[.bool false,.nilIface])∧∃ Wt:Nat,Wt < 512∧(∀ i,1≤i→i≤8→Wt.testBit i=false)∧KIs W w' a { k with pf:=waitF k.pf b Wt }∧KOk { k with pf:=waitF k.pf b Wt }
theorem ksignal_one (h:KIn W w a k C) (hok:KOk k) (hm:Mine k 1 i o x y) {b:Nat} (hb:mget k.pl 1=some b) :
  Calls Tryz.prog 38 #[.pointer (some ⟨a.kb,0,none⟩),.int .i64 1] w (fun e w' => SignalOneTo W a k b e w'):=by
 have HW:=hid (who_yes h hok hm.own hm.ko)
 obtain ⟨W0,I0,e1,e2,w9,i9⟩:=hok.kin.bits _ (mem_of_mget hb)
 simp only at e1 e2
 have e0:waitF k.pf b W0=k.pf:=updPr_self _ _ _ (by rw [← e1])
 have HS0:=hid (show W0 < 512∧KIs W w a { k with pf:=waitF k.pf b W0 }∧KOk { k with pf:=waitF k.pf b W0 } from by rw [e0]; exact ⟨w9,⟨C,h⟩,hok⟩)
 have HM:=hid hm
 have HB:=hid hb
 clear h hok hm hb e1 e2 w9 i9 e0
 go_enter Tryz.func38,Tryz.ntmps38
 go_wp2_with fail
 refine HW.out.mono ?_
 rintro e w1 ⟨rfl,hw⟩; subst w1
 go_wp2_with fail
 go_loopg [8] (W0) (fun gl v wr => ∃ g:Nat,g=gl∧Hid (g < 512∧KIs W wr a { k with pf:=waitF k.pf b g }∧KOk { k with pf:=waitF k.pf b g }))
 case atStart => exact ⟨W0,rfl,HS0⟩
 case round =>
  obtain ⟨g,hg,hS⟩:=hrel
  obtain ⟨h9,⟨C1,h1⟩,hok1⟩:=hS.out
  clear hS
  have HT:=hid (ktake_is h1 hok1 (pid:=1) ((hok1.run 1).2 (by rw [show mget k.ow 1=some i from HM.out.own]; rfl)))
  have c3:=h1.c3
  clear h1 hok1 h9
  go_wp2_with fail
  refine HT.out.mono ?_
  rintro e w2 ⟨r,pf',rfl,htk,hk2,hok2,hq2⟩
  obtain ⟨hW9,hls,rfl⟩:=took_wait HB.out htk
  by_cases hr:r=0
  ·subst hr
   rw [if_pos rfl] at hk2 hok2
   have HX:=hid (show g < 512∧(∀ i,1≤i→i≤8→g.testBit i=false)∧KIs W w2 a { k with pf:=waitF k.pf b g }∧KOk { k with pf:=waitF k.pf b g } from ⟨hW9,by rcases hls with ⟨h1,_⟩ | ⟨_,h2⟩; exact absurd h1 (by omega); exact h2,hk2,hok2⟩)
   clear htk hk2 hok2 hq2 hls c3
   go_wp2_with fail
   go_returns
   exact ⟨rfl,g,HX.out⟩
  ·rw [if_neg hr] at hk2 hok2
   have hls:1≤r∧r≤8∧g.testBit r=true:=by
    rcases hls with ⟨h1,h2,h3,_⟩ | ⟨h0,_⟩
    ·exact ⟨h1,h2,h3⟩
    ·exact absurd h0 hr
   have hoff:=off_less ⟨g,hW9⟩ ⟨r,by omega⟩ hls.2.2
   simp only at hoff
   have HX:=hid (show offR g r < 512∧KIs W w2 a { k with pf:=waitF k.pf b (offR g r) }∧KOk { k with pf:=waitF k.pf b (offR g r) } from ⟨offR_lt hW9 hls.2.1,hk2,hok2⟩)
   have HOff:=hid hoff
   have hbe:((r:Int) == 0)=false:=by
    rw [beq_eq_false_iff_ne]; omega
   clear htk hk2 hok2 hq2 hls hoff hr c3
   go_wp2_with fail
   go_roundg (offR g r)
   case measure => have:=HOff.out; omega
   case rel => exact ⟨_,rfl,HX⟩
end
section
variable {W w w' w1:World} {a:KA} {k:KS} {C C':Nat→Nat×Nat} {pid:Int} {i j:Nat} {o o':KO} {x:Spc} {y:Nat×PTab}
/-! ### candidates,plain -/
def candOf (k:KS) (p:Int):Option Cd:=if p=1 then none else (mget k.ow p).bind fun i => (k.os[i]?).bind fun o => (k.l[i]?).map fun x => (p,(resP x.P:Int),o.adj)
def candsTo (k:KS) (j:Nat):List Cd:=((pidsOf k.pl).take j).filterMap (candOf k)
def candsK (k:KS):List Cd:=(pidsOf k.pl).filterMap (candOf k)
theorem candsTo_step {p:Int} (hj:(pidsOf k.pl)[j]?=some p):candsTo k (j+1)=candsTo k j ++ (candOf k p).toList:=by
 unfold candsTo
 rw [List.take_add_one,hj,List.filterMap_append]
 cases h:candOf k p <;> simp [h]
theorem candsTo_all:candsTo k (pidsOf k.pl).length=candsK k:=by unfold candsTo candsK; rw [List.take_length]
theorem candOf_none {p:Int} (h:mget k.ow p=none):candOf k p=none:=by
 unfold candOf
 rw [h]
 split <;> rfl
theorem candOf_one:candOf k 1=none:=if_pos rfl
theorem candOf_some {p:Int} (h1:p≠1) (hm:Mine k p i o x y):candOf k p=some (p,(resP x.P:Int),o.adj):=by
 unfold candOf
 rw [if_neg h1,hm.own,Option.bind_some,hm.ko,Option.bind_some,hm.sp]; rfl
theorem candOf_is {p:Int} {c:Cd} (h:candOf k p=some c):p≠1∧c.1=p∧∃ i o x,mget k.ow p=some i∧k.os[i]?=some o∧k.l[i]?=some x∧c=(p,(resP x.P:Int),o.adj):=by
 unfold candOf at h
 split at h
 ·cases h
 ·rename_i h1
  cases hi:mget k.ow p with
  | none => rw [hi] at h; cases h
  | some i =>
   rw [hi,Option.bind_some] at h
   cases ho:k.os[i]? with
   | none => rw [ho] at h; cases h
   | some o =>
    rw [ho,Option.bind_some] at h
    cases hx:k.l[i]? with
    | none => rw [hx] at h; cases h
    | some x =>
     rw [hx] at h
     cases h
     exact ⟨h1,rfl,i,o,x,rfl,ho,hx,rfl⟩
theorem kBest_mem:∀ (l:List Cd) (m:Cd),oBest m l∈m :: l
 | [],m => List.mem_singleton.2 rfl
 | c :: l,m => by
  have h:=kBest_mem l (if 0 < cdCmp c m then c else m)
  have e:oBest m (c :: l)=oBest (if 0 < cdCmp c m then c else m) l:=rfl
  rw [e]
  rcases List.mem_cons.1 h with h | h
  ·rw [h]
   split
   ·simp
   ·simp
  ·exact List.mem_cons_of_mem _ (List.mem_cons_of_mem _ h)
theorem kscore_pos {r a:Int} (h:oScore r a≠0):0 < r:=by
 by_cases hr:0 < r
 ·exact hr
 ·refine absurd ?_ h
  unfold oScore
  have e:min (max r 0) 1000=0:=by omega
  rw [e,Int.zero_mul]; rfl
theorem victim_is {l:List Cd} {v:Int} (h:oVictim l=(v,true)):∃ c∈l,c.1=v∧0 < c.2.1:=by
 cases l with
 | nil => cases h
 | cons m l =>
  have h':(if oScore (oBest m l).2.1 (oBest m l).2.2=0 then ((0:Int),false) else ((oBest m l).1,true))=(v,true):=h
  by_cases hs:oScore (oBest m l).2.1 (oBest m l).2.2=0
  ·rw [if_pos hs] at h'; cases h'
  ·rw [if_neg hs] at h'
   exact ⟨oBest m l,kBest_mem l m,congrArg Prod.fst h',kscore_pos hs⟩
theorem KIn.victim (h:KIn W w a k C) {v:Int} (hv:oVictim (candsK k)=(v,true)):v≠1∧∃ i o x y,Mine k v i o x y∧0 < resP x.P:=by
 obtain ⟨c,hc,e,hp⟩:=victim_is hv
 unfold candsK at hc
 obtain ⟨p,_,hp2⟩:=List.mem_filterMap.1 hc
 obtain ⟨h1,e2,i,o,x,hi,ho,hx,rfl⟩:=candOf_is hp2
 have e3:p=v:=e2.symm.trans e
 subst e3
 obtain ⟨x',y,hx',hy,_⟩:=h.own i o ho
 rw [hx] at hx'
 cases hx'
 exact ⟨h1,i,o,x,y,⟨hi,ho,hx,hy⟩,by simpa using hp⟩
/-! ### a row of candidates -/
def kcCells (l:List Cd):List Value:=l.flatMap fun c => [.int .i64 c.1,.int .i64 c.2.1,.int .i64 c.2.2]
theorem kcCells_snoc (l:List Cd) (c:Cd):kcCells (l ++ [c])=kcCells l ++ [.int .i64 c.1,.int .i64 c.2.1,.int .i64 c.2.2]:=by simp [kcCells]
theorem kcCells_at (l:List Cd) (i:Nat) (c:Cd) (h:l[i]?=some c):(kcCells l)[i * 3]?=some (.int .i64 c.1)∧(kcCells l)[i * 3+1]?=some (.int .i64 c.2.1)∧(kcCells l)[i * 3+2]?=some (.int .i64 c.2.2):=by
 induction l generalizing i with
 | nil => simp at h
 | cons d l ih =>
  cases i with
  | zero => simp at h; subst h; exact ⟨rfl,rfl,rfl⟩
  | succ i =>
   have:=ih i (by simpa using h)
   have e:∀ k,(kcCells (d :: l))[(i+1) * 3+k]?=(kcCells l)[i * 3+k]?:=fun k => by
    show ([Value.int .i64 d.1,Value.int .i64 d.2.1,Value.int .i64 d.2.2] ++ kcCells l)[(i+1) * 3+k]?=_
    rw [List.getElem?_append_right (by simp; omega)]
    congr 1
    simp; omega
   exact ⟨(e 0).trans this.1,(e 1).trans this.2.1,(e 2).trans this.2.2⟩
def CandRow (w:World) (v:Value) (l:List Cd):Prop:=w.ownsRow 0 278 3 v l.length (kcCells l)
theorem CandRow.empty (w:World):CandRow w (.slice none 0 0) []:=World.ownsRow_nil _ _ _ _
theorem CandRow.shape {v:Value} {l:List Cd} (h:CandRow w v l):(v=.slice none 0 0∧l=[])∨∃ g cap,v=.slice (some ⟨g,0,none⟩) l.length cap∧g < w.heap.size∧CandsAt w g 0 l:=by
 have h':=h
 obtain ⟨_,h0 | ⟨g,cap,cur,rfl,_,hg,h1,h2,_⟩⟩:=h
 ·exact .inl ⟨h0.1,List.length_eq_zero_iff.1 h0.2⟩
 ·refine .inr ⟨g,cap,rfl,(Array.getElem?_eq_some_iff.1 hg).1,fun i c hc => ?_⟩
  have hi:i < l.length:=(List.getElem?_eq_some_iff.1 hc).1
  obtain ⟨a0,a1,a2⟩:=kcCells_at l i c hc
  exact ⟨by rw [Nat.zero_add,World.ownsRow.cellAt h' _ (by omega)]; exact a0,by rw [Nat.zero_add,World.ownsRow.cellAt h' _ (by omega)]; exact a1,by rw [Nat.zero_add,World.ownsRow.cellAt h' _ (by omega)]; exact a2⟩
theorem CandRow.turned {S:Nat→Prop} {v:Value} {l:List Cd} (h:CandRow w v l) (t:Turn S w w') (hn:∀ g,v.ownBlock=some g→¬ S g):CandRow w' v l:=by
 refine ⟨h.1,?_⟩
 rcases h.2 with h0 | ⟨g,cap,cur,rfl,hb,hg,r⟩
 ·exact .inl h0
 ·exact .inr ⟨g,cap,cur,rfl,hb,(t.block g (Array.getElem?_eq_some_iff.1 hg).1 (hn g rfl)).trans hg,r⟩
theorem kinfo_cand:(Tryz.prog.info? 278).map (fun i => (i.zero,i.size,i.bytes))=some (some (.agg #[.int .i64 0,.int .i64 0,.int .i64 0]),3,24):=by kernel_rfl
theorem step_append_kc {ops:Array Oper} {o:Oper} {a:Act} {w:World} {K:Act→World→Prop} {Q:Exit→Act→World→Prop} {E:Prop}
  (hg:o.guard=none) (s x:Operand) (hop:o.op=Op.call { callee:=Callee.builtin Builtin.append,args:=#[s,x],argTypes:=#[142,142] })
  (v:Value) (l:List Cd) (hs:a.eval s=v) (hi:CandRow w v l) (b c:Nat) (y:Cd) (hx:a.eval x=.slice (some ⟨b,0,none⟩) 1 c) (h0:w.cell? ⟨b,0,none⟩=some (.int .i64 y.1)) (h1:w.cell? ⟨b,1,none⟩=some (.int .i64 y.2.1)) (h2:w.cell? ⟨b,2,none⟩=some (.int .i64 y.2.2)) (hl:l.length≤1000000)
  (hK:∀ g cap w',CandRow w' (.slice (some ⟨g,0,none⟩) (l.length+1) cap) (l ++ [y])→Turn (fun j => v.ownBlock=some j) w w'→(v.ownBlock=some g∨w.heap.size≤g)→K (a.put o.dst (.slice (some ⟨g,0,none⟩) (l.length+1) cap)) w') :
  if Region.wanted o (yielded ops a.tmps)=true then Oper.wp Tryz.prog o a w K Q else E:=by
 obtain ⟨i0,hi0,hz0,hz1,hz2⟩:=info_split kinfo_cand
 refine step_append_at hg s x 142 hop 278 i0 (.agg #[.int .i64 0,.int .i64 0,.int .i64 0]) 3 24 Tryz.underlying142 hi0 hz0 hz1 hz2 rfl (by decide) v l.length _ hs hi ⟨b,0,none⟩ 1 c [.int .i64 y.1,.int .i64 y.2.1,.int .i64 y.2.2] hx rfl ?_ ?_ (.inl (by decide)) (by unfold maxLen; omega) (by omega) ?_
 ·intro j u hj
  rw [Addr.add_mid]
  match j with
  | 0 => simp at hj; subst hj; exact h0
  | 1 => simp at hj; subst hj; exact h1
  | 2 => simp at hj; subst hj; exact h2
  | j+3 => simp at hj
 ·intro u hu
  simp at hu
  rcases hu with rfl | rfl | rfl <;> rfl
 ·intro g cap w' h1 h2 h3
  refine hK g cap w' ?_ h2 h3
  unfold CandRow
  rw [List.length_append,List.length_singleton,kcCells_snoc]
  exact h1
theorem victim_row (v:Value) (l:List Cd) (hr:CandRow w v l) (hl:l.length≤1000) :
  Calls Tryz.prog 81 #[v] w fun e w' => e=.returned (.tuple #[.int .i64 (oVictim l).1,.bool (oVictim l).2])∧Turn (fun _ => False) w w':=by
 rcases hr.shape with ⟨rfl,rfl⟩ | ⟨g,cap,rfl,hg,hc⟩
 ·refine (victim_none none 0 w).mono ?_
  rintro e w' ⟨rfl,rfl⟩
  exact ⟨rfl,Turn.refl _ _⟩
 ·cases l with
  | nil =>
   refine (victim_none (some ⟨g,0,none⟩) cap w).mono ?_
   rintro e w' ⟨rfl,rfl⟩
   exact ⟨rfl,Turn.refl _ _⟩
  | cons c l => exact victim_some g 0 cap c l w hc (by simp at hl; omega) hg
/-! ### cands -/
theorem KIn.look_no (h:KIn W w a k C) (hi:mget k.ow pid=none):(Instr.lookup 116 (.map (some a.om)) (.int .i64 pid) false).run Tryz.prog w=.ok (.pointer none) w:=by
 have h1:=h.mp.run_lookup (P:=Tryz.prog) keyI Tryz.underlying116 Tryz.underlying3 (zeroOwn w) pid false
 rw [mget_keysK,hi] at h1
 exact h1
theorem len_pids (pl:List (Int×Nat)):(pidsOf pl).length=pl.length:=by unfold pidsOf; rw [List.length_mergeSort,List.length_map]
theorem kpids_row (h:KIn W w a k C) (hok:KOk k):Calls Tryz.prog 25 #[.pointer (some ⟨a.kb,0,none⟩)] w fun e w' => ∃ g cap,e=.returned (.slice (some ⟨g,0,none⟩) (pidsOf k.pl).length cap)∧IntsAt w' (.slice (some ⟨g,0,none⟩) (pidsOf k.pl).length cap) (pidsOf k.pl)∧w.heap.size≤g∧Turn (fun _ => False) w w':=by
 refine (kpids_is h hok).mono ?_
 rintro e w' ⟨v,rfl,hr,t⟩
 have hI:IntsAt w' v (pidsOf k.pl):=by
  unfold IntsAt
  rw [len_pids]
  exact ownsRow_base_a hr (Nat.zero_le _)
 have hb:=fun g => ownBlock_ge hr (k:=g)
 rcases hI.shape with ⟨_,h0⟩ | ⟨g,cap,rfl,_⟩
 ·exfalso
  obtain ⟨b,h1,_⟩:=hok.kin.one
  have h2:=len_pids k.pl
  rw [h0] at h2
  have h3:k.pl=[]:=List.length_eq_zero_iff.1 h2.symm
  rw [h3] at h1
  cases h1
 ·exact ⟨g,cap,rfl,hI,hb g rfl,t⟩
theorem kin_len (hok:KOk k):(pidsOf k.pl).length≤24:=by rw [len_pids]; exact hok.kin.len
theorem kcands_is (h:KIn W w a k C) (hok:KOk k):Calls Tryz.prog 82 #[.pointer (some ⟨a.kb,0,none⟩)] w fun e w' => ∃ v,e=.returned v∧CandRow w' v (candsK k)∧Turn (fun _ => False) w w':=by
 have HP:=hid (kpids_row h hok)
 have HLn:=hid (kin_len hok)
 have H:=hid h
 have HOk:=hid hok
 clear h hok
 go_enter Tryz.func82,Tryz.ntmps82
 go_wp2_with fail
 refine HP.out.mono ?_
 rintro e w1 ⟨g8,c8,rfl,hI,hg8,t1⟩
 have HI:=hid hI
 have HT1:=hid t1
 clear hI t1 hg8
 go_wp2_with fail
 obtain ⟨N,hN⟩:∃ N,(pidsOf k.pl).length=N:=⟨_,rfl⟩
 have HN:=hid hN
 rw [hN] at HI ⊢
 clear hN
 go_loopg [3,10] (N) (fun gl v3 ix wr => ∃ j:Nat,j+gl=N∧ix=.int .i64 j∧Hid (CandRow wr v3 (candsTo k j)∧(∀ g,v3.ownBlock=some g→w1.heap.size≤g)∧Turn (fun _ => False) w1 wr))
 case atStart => exact ⟨0,by omega,rfl,hid ⟨CandRow.empty _,fun g hg => (by cases hg),Turn.refl _ _⟩⟩
 case round =>
  obtain ⟨j,hj,rfl,hS⟩:=hrel
  obtain ⟨hr3,hb3,t3⟩:=hS.out
  have h3:=(H.out.still HT1.out).still t3
  have HR3:=hid hr3
  have HB3:=hid hb3
  have HT3:=hid t3
  have H3:=hid h3
  clear hS hr3 hb3 t3
  by_cases hlt:j < N
  ·have hlt':(j:Int) < N:=by omega
   have hN24:N≤24:=by have h24:=HLn.out; rw [HN.out] at h24; exact h24
   obtain ⟨p,hp⟩:∃ p,(pidsOf k.pl)[j]?=some p:=⟨_,List.getElem?_eq_getElem (by rw [HN.out]; exact hlt)⟩
   have hI3:=HI.out.turned HT3.out (fun _ _ => id)
   rw [← HN.out] at hI3
   have cp:=hI3.cell j p hp
   have hst:=candsTo_step hp
   have c4:=h3.c4
   cases hi:mget k.ow p with
   | none =>
    have lk:=h3.look_no hi
    rw [candOf_none hi] at hst
    have HSt:=hid hst
    clear hst h3 hI3 hp hi
    go_wp2_with fail
    go_roundg (gk - 1)
    case measure => omega
    case rel => exact ⟨j+1,by omega,by go_num,by rw [HSt.out]; simp only [Option.toList_none,List.append_nil]; exact hid ⟨HR3.out,HB3.out,HT3.out⟩⟩
   | some i =>
    obtain ⟨o,x,y,hm⟩:=h3.mine HOk.out hi
    have lk:=h3.look hi hm.ko
    by_cases h1:p=1
    ·subst h1
     rw [candOf_one] at hst
     have HSt:=hid hst
     clear hst h3 hI3 hp hi hm
     go_wp2_with fail
     go_roundg (gk - 1)
     case measure => omega
     case rel => exact ⟨j+1,by omega,by go_num,by rw [HSt.out]; simp only [Option.toList_none,List.append_nil]; exact hid ⟨HR3.out,HB3.out,HT3.out⟩⟩
    ·rw [candOf_some h1 hm] at hst
     have HSt:=hid hst
     have hb1:(p != 1)=true:=by simpa using h1
     have HM:=hid hm
     have hO:=(h3.drewS.at_ hm).1
     have k0:=hO.c0
     have k3:=hO.c3
     have HRs:=hid (vmRes_is (h3.drewS.vm.sps i x hm.sp))
     have HOl:=hid (show o.ob < w1.heap.size from Nat.lt_of_lt_of_le (H.out.at_ hm).1.lt HT1.out.size)
     have HLc:=hid (show (candsTo k j).length≤1000000 from by
      have h5:(candsTo k j).length≤((pidsOf k.pl).take j).length:=List.length_filterMap_le _ _
      rw [List.length_take] at h5; omega)
     clear hst h3 hI3 hp hi hm hO h1
     go_wp2_with fail
     go_region_held3 (fun w' => w'.cell? ⟨o.ob,0,none⟩=some (.pointer (some ⟨x.sp,0,none⟩))∧w'.cell? ⟨o.ob,3,none⟩=some (.int .i64 o.adj))
      (first | exact ⟨k0,k3⟩ | exact ⟨k06,k36⟩ | exact ⟨k08,k38⟩ | go_keep)
      (first
       | (go_at_call 77; refine HRs.out.mono ?_; rintro e w6 ⟨rfl,t6⟩; have HT6:=hid (HT3.out.trans ((Turn.refl _ _).drew.trans t6)); have HR6:=hid ((HR3.out.turned ((Turn.refl (fun _ => False) _).drew.trans t6) (fun _ _ => id))); have k06:=(t6.cell (lt_of_cell k0) id).trans k0; have k36:=(t6.cell (lt_of_cell k3) id).trans k3; clear t6)
       | (refine step_append_kc rfl _ _ rfl u3 (candsTo k j) rfl ?_ _ _ (p,(resP x.P:Int),o.adj) rfl ?_ ?_ ?_ ?_ ?_; (exact HR6.out.turned ((Turn.refl (fun _ => False) _).alloc _) (fun _ _ => id)); (focus (simp; done)); (focus (simp; done)); (focus (simp; done)); (exact HLc.out); intro g3 z3 w8 hi8 t8 ho8; have HI8:=hid hi8; have HT8:=hid (HT6.out.trans' ((((Turn.refl (fun _ => False) _).alloc _).mono (fun _ _ h => h.elim)).trans t8) (fun q hq e => by have:=HB3.out q e; omega)); have HO8:=hid ho8; have k08:=(t8.cell (a:=⟨o.ob,0,none⟩) (Nat.lt_of_lt_of_le (lt_of_cell k06) ((Turn.refl (fun _ => False) _).alloc _).size) (fun e => Nat.not_lt.2 (HB3.out o.ob e) HOl.out)).trans ((((Turn.refl (fun _ => False) _).alloc _).cell (lt_of_cell k06) id).trans k06); have k38:=(t8.cell (a:=⟨o.ob,3,none⟩) (Nat.lt_of_lt_of_le (lt_of_cell k36) ((Turn.refl (fun _ => False) _).alloc _).size) (fun e => Nat.not_lt.2 (HB3.out o.ob e) HOl.out)).trans ((((Turn.refl (fun _ => False) _).alloc _).cell (lt_of_cell k36) id).trans k36); clear hi8 t8 ho8))
     all_goals go_wp2_with fail
     all_goals
      go_roundg (gk - 1)
      case measure => omega
      case rel =>
       refine ⟨j+1,by omega,by go_num,?_⟩
       rw [HSt.out]
       refine hid ⟨HI8.out,fun q hq => ?_,HT8.out⟩
       have hqq:q=g3:=(Option.some.inj hq).symm
       subst hqq
       rcases HO8.out with e | e
       ·exact HB3.out _ e
       ·have:=HT6.out.size
        have:=((Turn.refl (fun _ => False) w6).alloc (.cells #[] 0)).size
        simp at e
        omega
  ·have hj':j=N:=by omega
   subst hj'
   clear h3
   go_wp2_with fail
   go_returns
   rw [HN.out.symm,candsTo_all] at HR3
   exact ⟨_,rfl,HR3.out,HT1.out.trans HT3.out⟩
end
section
variable {W w w' w1:World} {a:KA} {k:KS} {C C':Nat→Nat×Nat} {pid:Int} {i j:Nat} {o o':KO} {x:Spc} {y:Nat×PTab} {S S':PS} {L L' L0:PTab} {ts:List (Nat×PTab)} {tab:Nat} {t':St} {u' v':Nat→Int} {e:PE} {n most:Int} {s:ByteArray}
theorem dok_wrs (h:DOk S) (L:PTab) (n:Int) (s:ByteArray) (most:Int):DOk (wrS S L n s most):=by
 unfold wrS
 cases hx:entL S L n with
 | none => exact h
 | some x =>
  obtain ⟨k,e⟩:=x
  have he:=(entL_some hx).2
  have hE:=(h.ent k e he).1
  have hall:∀ S2:PS,S2=(if e.prot=1 then S else if e.kind=3 then (S.ps[e.pid]?).elim S fun q => pipeS S e.pid (pWrQ q s) else if limB e s most=true then S else if writeE S.T e.node e.at' s=0 then putS (treeS S (writeT S.T e.node e.at' s)) k { e with at':=e.at'+s.size } else S)→DOk S2:=by
   rintro S2 rfl
   split
   ·exact h
   ·split
    ·cases hq:S.ps[e.pid]? with
     | none => exact h
     | some q =>
      have h1:=pWrQ_ok (s:=s) (h.pipes _ q hq).1
      exact h.pipe hq h1.1 h1.2.1 h1.2.2
    ·split
     ·exact h
     ·split
      ·rename_i hz
       have h2:=h.tree (write_same S.T e.node e.at' s)
       have h3:0≤e.at'+(s.size:Int)∧e.at'+(s.size:Int)≤200:=by
        unfold writeE at hz
        split at hz
        ·rename_i hz2; exact absurd hz hz2
        ·split at hz
         ·cases hz
         ·split at hz
          ·cases hz
          ·omega
       exact h2.put (S:=treeS S (writeT S.T e.node e.at' s)) he rfl rfl rfl rfl ⟨hE.1,hE.2.1,h3.1,h3.2⟩
      ·exact h
  exact hall _ rfl
def WriteTo (W:World) (a:KA) (k:KS) (pid:Int) (i:Nat) (o:KO) (y:Nat×PTab) (n:Int) (s:ByteArray) (e:Ending) (w':World):Prop :=
 e=.returned (.tuple #[.int .i64 (wrK k.S y.2 n s (o.m 2)),TErr (wrE k.S y.2 n s (o.m 2))])∧∃ pf',KIs W w' a { fileK k i o y (wrS k.S y.2 n s (o.m 2)) y.2 o.u with pf:=pf' }∧KOk { fileK k i o y (wrS k.S y.2 n s (o.m 2)) y.2 o.u with pf:=pf' }∧Quiet k.pl k.pf pf'∧(wrE k.S y.2 n s (o.m 2)≠14→pf'=k.pf)∧(wrE k.S y.2 n s (o.m 2)=14→(killE k.pl k.pf pid 5=0→KillF k.pl k.pf pid 5 pf')∧(killE k.pl k.pf pid 5≠0→pf'=k.pf))
theorem kwrite_yes (h:KIn W w a k C) (hok:KOk k) (hm:Mine k pid i o x y) (hLd:Laid W) (n:Int) (s:ByteArray) (hs:s.size≤1000000) :
  Calls Tryz.prog 16 #[.pointer (some ⟨a.kb,0,none⟩),.int .i64 pid,.int .i64 n,.string s] w (fun e w' => WriteTo W a k pid i o y n s e w'):=by
 have HW:=hid (who_yes h hok hm.own hm.ko)
 have hd:=h.drewS
 obtain ⟨hO2,hL2⟩:=hd.at_ hm
 have hf2:=(hok.fit i o hm.ko).1 2 (by omega)
 have HMo:=hid (most_is hL2 2 (by omega))
 have HP:=hid (law_dwrite hd.desc hok.dok hm.tab (hok.there hm) n s hs (o.m 2) (by omega) (by omega))
 have q1:=hO2.c1
 have q2:=hd.c2
 have q3:=hO2.c2
 have HD:=hid hd
 have HOk:=hid hok
 have HM:=hid hm
 have HLd:=hid hLd
 obtain ⟨z,hz⟩:∃ z,wrE k.S y.2 n s (o.m 2)=z:=⟨_,rfl⟩
 have hokF:KOk (fileK k i o y (wrS k.S y.2 n s (o.m 2)) y.2 o.u):=hok.file hm (dok_wrs hok.dok y.2 n s (o.m 2)) (by rw [set_same hm.tab]; exact joint_wr hok.joint y.2 n s (o.m 2)) ⟨rfl,(hok.live i o x y hm.ko hm.sp hm.tab ⟨pid,hm.own⟩).2.1,rfl⟩ (hok.fit i o hm.ko).1
 have HOkF:=hid hokF
 have HZ:=hid hz
 unfold WriteTo
 rw [hz] at HP ⊢
 clear h hok hm hd hO2 hL2 hf2 hLd hs hz hokF
 go_enter Tryz.func16,Tryz.ntmps16
 go_wp2_with fail
 refine HW.out.mono ?_
 rintro e w1 ⟨rfl,hw⟩; subst w1
 go_wp2_with fail
 go_region_held3 (fun w' => w'.cell? ⟨o.ob,1,none⟩=some (.pointer (some ⟨y.1,0,none⟩))∧w'.cell? ⟨a.kb,2,none⟩=some (.pointer (some ⟨a.fb,0,none⟩))∧w'.cell? ⟨o.ob,2,none⟩=some (.pointer (some ⟨o.lb,0,none⟩)))
  (first | exact ⟨q1,q2,q3⟩ | exact ⟨r1,r2,r3⟩ | go_keep)
  (first | (go_at_call 62; refine HMo.out.mono ?_; rintro e w4 ⟨rfl,hw4⟩; subst w4) | (go_at_call 61; refine HP.out.mono ?_; rintro e w4 ⟨rfl,hd4⟩; have hK4:=HD.out.fileStep HM.out (by rw [set_same HM.out.tab]; rw [set_same HM.out.tab] at hd4; exact hd4); have HK4:=hid hK4; obtain ⟨C4,hI4⟩:=hK4; have r2:=hI4.c2; have r1:=(hI4.at_ (mine_file HM.out)).1.c1; have r3:=(hI4.at_ (mine_file HM.out)).1.c2; simp only at r1 r3; clear hd4 hI4))
 all_goals
  have HT:=hid (tell_tree z _ (HLd.out.turned0 HK4.out.turn))
  go_wp2_with fail
  refine HT.out.mono ?_
  rintro e w5 ⟨rfl,t5⟩
  obtain ⟨C5,hI5⟩:=HK4.out.still t5
  by_cases h14:z=14
  ·subst h14
   have c3:=hI5.c3
   have HP2:=hid (pkill_is hI5.pr HOkF.out.kin pid 5)
   unfold Killed at HP2
   have HI5:=hid hI5
   clear hI5 t5
   go_wp2_with fail
   refine HP2.out.mono ?_
   rintro e w6 ⟨rfl,pf',h1,h2,h3,h4,h5,h6⟩
   have HR:=hid (HI5.out.prStep h1 h4 (fun j hj => .inl hj))
   have HX:=hid (show KOk { fileK k i o y (wrS k.S y.2 n s (o.m 2)) y.2 o.u with pf:=pf' }∧Quiet k.pl k.pf pf'∧(killE k.pl k.pf pid 5=0→KillF k.pl k.pf pid 5 pf')∧(killE k.pl k.pf pid 5≠0→pf'=k.pf) from ⟨HOkF.out.quiet h3 h2,h3,h5,h6⟩)
   clear h1 h2 h3 h4 h5 h6
   go_wp2_with fail
   go_returns
   exact ⟨rfl,pf',HR.out,HX.out.1,HX.out.2.1,HX.out.2.2⟩
  ·have hbe:(z == 14)=false:=by simpa using h14
   have HI5:=hid hI5
   have H14:=hid h14
   clear hI5 t5 h14
   go_wp2_with fail
   go_returns
   exact ⟨rfl,k.pf,⟨C5,HI5.out⟩,HOkF.out,Quiet.refl _ _,fun _ => rfl,fun e => absurd e H14.out⟩
end
end Go.Proofs.YtamleilijmgoeaaGreatDoor
