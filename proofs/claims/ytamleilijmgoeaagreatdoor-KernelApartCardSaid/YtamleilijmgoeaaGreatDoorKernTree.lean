/- Package kernel: Mkdir, Link, Unlink, Rename: the tree under the files. Printed by mkkt.py. Conditions: each theorem's own premises. Package kernel: own.with: what costs numbers is done all or nothing. Conditions: each theorem's own premises; the variable errors.errorType holds what is laid. Package kernel: Dup, and what it hands to own.with. Conditions: each theorem's own premises; the variable errors.errorType holds what is laid. Package kernel: File, and what it hands to own.with. Conditions: each theorem's own premises; the variable errors.errorType holds what is laid. Package kernel: Pipe, and what it hands to own.with. Conditions: each theorem's own premises; the variable errors.errorType holds what is laid. Package kernel: Dup2. Conditions: each theorem's own premises; the variable errors.errorType holds what is laid. -/
import Derived.Test.YtamleilijmgoeaaGreatDoorKern
import Derived.Test.YtamleilijmgoeaaGreatDoorPaths
import Derived.Test.YtamleilijmgoeaaGreatDoorTreeList
import Derived.Test.YtamleilijmgoeaaGreatDoorDescLaw
namespace Go.Proofs.YtamleilijmgoeaaGreatDoor
open Go.RowKit
set_option linter.unusedVariables false
set_option maxHeartbeats 8000000
set_option maxRecDepth 100000
section
variable {W w w' w1:World} {a:KA} {k:KS} {C C':Nat→Nat×Nat} {pid:Int} {i j:Nat} {o o':KO} {x:Spc} {y:Nat×PTab} {S S':PS} {T T' T2:PT} {p:PN} {n:Int} {s old path:ByteArray}
/-! ### what a tree's change lets stay -/
structure Kept (T T':PT):Prop where
 old:∀ n p,mget T n=some p→p.isDir=false→0 < p.held→∃ q,mget T' n=some q∧q.isDir=false∧q.held=p.held
 new:∀ n q,mget T' n=some q→∃ p,mget T n=some p∧q.held=p.held
theorem Kept.refl (T:PT):Kept T T:=⟨fun n p h1 h2 _ => ⟨p,h1,h2,rfl⟩,fun n q h => ⟨q,h,rfl⟩⟩
theorem Kept.same (h:Kept T T'):Same T T':=⟨h.1,fun n q hq => .inl (h.2 n q hq)⟩
theorem Kept.trans (h:Kept T T') (g:Kept T' T2):Kept T T2:=by
 refine ⟨fun n p h1 h2 h3 => ?_,fun n q hq => ?_⟩
 ·obtain ⟨q,a1,a2,a3⟩:=h.1 n p h1 h2 h3
  obtain ⟨r,b1,b2,b3⟩:=g.1 n q a1 a2 (by rw [a3]; exact h3)
  exact ⟨r,b1,b2,b3.trans a3⟩
 ·obtain ⟨r,hr,he⟩:=g.2 n q hq
  obtain ⟨v,hv,he2⟩:=h.2 n r hr
  exact ⟨v,hv,he.trans he2⟩
theorem kept_put {d:PN} (hn:mget T n=some p) (h1:d.isDir=p.isDir) (h2:d.held=p.held):Kept T (mput T n d):=by
 refine ⟨fun m r hr hrd _ => ?_,fun m r hr => ?_⟩
 ·rw [mget_mput]
  by_cases e:m=n
  ·rw [e,hn] at hr
   cases hr
   exact ⟨d,if_pos e,by rw [h1]; exact hrd,h2⟩
  ·exact ⟨r,by rw [if_neg e]; exact hr,hrd,rfl⟩
 ·rw [mget_mput] at hr
  by_cases e:m=n
  ·rw [if_pos e] at hr
   cases hr
   exact ⟨p,by rw [e]; exact hn,h2⟩
  ·rw [if_neg e] at hr
   exact ⟨r,hr,rfl⟩
theorem updN_kept (T:PT) (n:Int) (f:PN→PN) (h1:∀ p,(f p).isDir=p.isDir) (h2:∀ p,(f p).held=p.held):Kept T (updN T n f):=by
 unfold updN
 cases hn:mget T n with
 | none => exact Kept.refl _
 | some p => exact kept_put hn (h1 p) (h2 p)
theorem gone_kept (hn:mget T n=some p):Kept T (goneT T n p):=by
 unfold goneT
 by_cases h:p.names=0∧p.held=0
 ·rw [if_pos h]
  refine ⟨fun m r hr hd h3 => ⟨r,?_,hd,rfl⟩,fun m r hr => ⟨r,?_,rfl⟩⟩
  ·rw [mget_mdel]
   by_cases e:m=n
   ·subst e; rw [hn] at hr; cases hr; omega
   ·rw [if_neg e]; exact hr
  ·rw [mget_mdel] at hr
   by_cases e:m=n
   ·rw [if_pos e] at hr; cases hr
   ·rw [if_neg e] at hr; exact hr
 ·rw [if_neg h]; exact Kept.refl _
theorem move_kept (T:PT) (old path:ByteArray):Kept T (moveT T old path):=by
 unfold moveT
 by_cases h:moveE T old path=0
 ·rw [if_pos h]
  cases hm:mget (dsT T (placeT T old).2.1) (placeT T old).2.2 with
  | none => exact Kept.refl _
  | some n => exact (updN_kept _ _ _ (by intro _; rfl) (by intro _; rfl)).trans (updN_kept _ _ _ (by intro _; rfl) (by intro _; rfl))
 ·rw [if_neg h]; exact Kept.refl _
theorem updN_get (T:PT) (m n:Int) (f:PN→PN) (h1:∀ p,(f p).isDir=p.isDir) (h2:∀ p,(f p).held=p.held) {q:PN} (hq:mget T n=some q):∃ r,mget (updN T m f) n=some r∧r.isDir=q.isDir∧r.held=q.held:=by
 unfold updN
 cases hm:mget T m with
 | none => exact ⟨q,hq,rfl,rfl⟩
 | some p =>
  show ∃ r,mget (mput T m (f p)) n=some r∧_
  rw [mget_mput]
  by_cases e:n=m
  ·subst e
   rw [hq] at hm; cases hm
   exact ⟨f q,if_pos rfl,h1 q,h2 q⟩
  ·exact ⟨q,by rw [if_neg e]; exact hq,rfl,rfl⟩
theorem unlink_kept (T:PT) (path:ByteArray):Kept T (unlinkT T path):=by
 unfold unlinkT
 by_cases h:unlinkE T path=0
 ·rw [if_pos h]
  cases hm:mget (dsT T (placeT T path).2.1) (placeT T path).2.2 with
  | none => exact Kept.refl _
  | some n =>
   cases hq:mget T n with
   | none => simp only [Option.elim,hq]; exact Kept.refl _
   | some q =>
    simp only [Option.elim,hq]
    obtain ⟨r,hr,hd,hh⟩:=updN_get T (placeT T path).2.1 n (fun p => { p with ds:=mdel p.ds (placeT T path).2.2 }) (by intro _; rfl) (by intro _; rfl) hq
    refine (updN_kept T (placeT T path).2.1 _ (by intro _; rfl) (by intro _; rfl)).trans ((kept_put hr (d:={ q with names:=q.names - 1 }) hd.symm hh.symm).trans (gone_kept (by rw [mget_mput,if_pos rfl])))
 ·rw [if_neg h]; exact Kept.refl _
/-! ### the kernel over it -/
theorem DLawB.treedK {W:Base} {fb tb om:Nat} {ts:List (Nat×PTab)} {B:Int→Nat} {P:Nat→Nat} {Ft:Nat→Prop} {C:Nat→Nat×Int} (h:DLawB W w fb tb S ts) (hin:FilesIn w fb tb om S B P Ft C) (h2:∀ k,CFoot C k→¬ W.old k) (h3:∀ (j:Nat) (x:Nat×PTab),ts[j]?=some x→¬ CFoot C x.1) (hto:TreeTo tb Ft w w' T'):DLawB W w' fb tb (treeS S T') ts:=by
 obtain ⟨Ft',C',a,b,t⟩:=hin.tree hto
 have hC:∀ k,CFoot C' k→CFoot C k∨w.heap.size≤k:=fun k hk => by
  rcases b k with h1 | h1
  ·exact .inl (by have hk:C' k≠_:=hk; rw [h1] at hk; exact hk)
  ·exact .inr h1
 refine ⟨⟨CFoot C',a.is,fun k hk => ?_,fun j x hx hk => ?_⟩,fun j x hx => ⟨(h.tabs j x hx).1.turned t (h3 j x hx),(h.tabs j x hx).2⟩,h.apart,h.turn.trans' t (fun k _ hk => h2 k hk),h.low⟩
 ·rcases hC k hk with h1 | h1
  ·exact h2 k h1
  ·exact h.fresh h1
 ·rcases hC _ hk with h1 | h1
  ·exact h3 j x hx h1
  ·have:=(h.tabs j x hx).1.lt; omega
def treeK (k:KS) (T:PT):KS:={ k with S:=treeS k.S T }
theorem KIn.treeIn (h:KIn W w a k C):∃ F,TreeIs w a.tb k.S.T F∧∀ w' T',TreeTo a.tb F w w' T'→KIs W w' a (treeK k T'):=by
 obtain ⟨F,⟨om,B,P,Ft,C1,hin,rfl⟩,h2,h3⟩:=h.desc.files
 exact ⟨Ft,hin.tr,fun w' T' hto => h.descStep (ts':=k.ts) (h.desc.treedK hin h2 h3 hto) (fun i y hy => ⟨y,hy,rfl⟩)⟩
theorem KOk.treeK (h:KOk k) (hs:Same k.S.T T'):KOk (treeK k T'):=by
 refine ⟨h.kin,h.dok.tree hs,h.joint.keep (fun m hm => rfl),h.len,h.run,h.nd,h.inj,h.live,h.fit,h.dead,h.lt⟩
def TreeToK (W:World) (a:KA) (k:KS) (z:Int) (T':PT) (e:Ending) (w':World):Prop :=
 e=.returned (TErr z)∧KTo W a k z (fun k' => k'=treeK k T') w'
theorem treeK_to {z:Int} (h:KIs W w a (treeK k T')) (hok:KOk k) (hs:Same k.S.T T') (he:z≠0→T'=k.S.T):KTo W a k z (fun k' => k'=treeK k T') w:=by
 by_cases hz:z=0
 ·exact ⟨_,h,hok.treeK hs,fun _ => rfl,fun e => absurd hz e⟩
 ·rw [he hz] at h
  exact KTo.no h hok hz
theorem kmkdir_yes (h:KIn W w a k C) (hok:KOk k) (hm:Mine k pid i o x y) (s:ByteArray) (hs:s.size < 4294967281) :
  Calls Tryz.prog 158 #[.pointer (some ⟨a.kb,0,none⟩),.int .i64 pid,.string s] w (fun e w' => TreeToK W a k (makeE k.S.T s) (makeT k.S.T s true) e w'):=by
 have HW:=hid (who_yes h hok hm.own hm.ko)
 obtain ⟨F,hTr,hTo⟩:=h.treeIn
 have HP:=hid (mkdir_is hTr s hs)
 have c1:=h.c1
 have HR:=hid (fun w' (hh:KIs W w' a (treeK k (makeT k.S.T s true))) => treeK_to (z:=makeE k.S.T s) hh hok (makeT_same h.tok s true) (fun hz => if_neg hz))
 have HTo:=hid hTo
 clear h hok hm hTr hTo hs
 go_enter Tryz.func158,Tryz.ntmps158
 go_wp2_with fail
 refine HW.out.mono ?_
 rintro e w1 ⟨rfl,hw⟩; subst w1
 go_wp2_with fail
 refine HP.out.mono ?_
 rintro e w2 ⟨rfl,hto⟩
 have HK:=hid (HR.out _ (HTo.out _ _ hto))
 clear hto
 go_wp2_with fail
 go_returns
 exact ⟨rfl,HK.out⟩
theorem kunlink_yes (h:KIn W w a k C) (hok:KOk k) (hm:Mine k pid i o x y) (path:ByteArray) (hs:path.size < 4294967281) (hb:∀ n p,mget k.S.T n=some p→p.names < 1000000∧p.ds.length < 1000000) :
  Calls Tryz.prog 159 #[.pointer (some ⟨a.kb,0,none⟩),.int .i64 pid,.string path] w (fun e w' => TreeToK W a k (unlinkE k.S.T path) (unlinkT k.S.T path) e w'):=by
 have HW:=hid (who_yes h hok hm.own hm.ko)
 obtain ⟨F,hTr,hTo⟩:=h.treeIn
 have HP:=hid (unlink_is hTr path hs hb)
 have c1:=h.c1
 have HR:=hid (fun w' (hh:KIs W w' a (treeK k (unlinkT k.S.T path))) => treeK_to (z:=unlinkE k.S.T path) hh hok ((unlink_kept k.S.T path).same) (fun hz => if_neg hz))
 have HTo:=hid hTo
 clear h hok hm hTr hTo hs hb
 go_enter Tryz.func159,Tryz.ntmps159
 go_wp2_with fail
 refine HW.out.mono ?_
 rintro e w1 ⟨rfl,hw⟩; subst w1
 go_wp2_with fail
 refine HP.out.mono ?_
 rintro e w2 ⟨rfl,hto⟩
 have HK:=hid (HR.out _ (HTo.out _ _ hto))
 clear hto
 go_wp2_with fail
 go_returns
 exact ⟨rfl,HK.out⟩
theorem krename_yes (h:KIn W w a k C) (hok:KOk k) (hm:Mine k pid i o x y) (old path:ByteArray) (hs1:old.size < 1000000) (hs2:path.size < 1000000) :
  Calls Tryz.prog 160 #[.pointer (some ⟨a.kb,0,none⟩),.int .i64 pid,.string old,.string path] w (fun e w' => TreeToK W a k (moveE k.S.T old path) (moveT k.S.T old path) e w'):=by
 have HW:=hid (who_yes h hok hm.own hm.ko)
 obtain ⟨F,hTr,hTo⟩:=h.treeIn
 have HP:=hid (rename_is hTr old path hs1 hs2)
 have c1:=h.c1
 have HR:=hid (fun w' (hh:KIs W w' a (treeK k (moveT k.S.T old path))) => treeK_to (z:=moveE k.S.T old path) hh hok ((move_kept k.S.T old path).same) (fun hz => if_neg hz))
 have HTo:=hid hTo
 clear h hok hm hTr hTo hs1 hs2
 go_enter Tryz.func160,Tryz.ntmps160
 go_wp2_with fail
 refine HW.out.mono ?_
 rintro e w1 ⟨rfl,hw⟩; subst w1
 go_wp2_with fail
 refine HP.out.mono ?_
 rintro e w2 ⟨rfl,hto⟩
 have HK:=hid (HR.out _ (HTo.out _ _ hto))
 clear hto
 go_wp2_with fail
 go_returns
 exact ⟨rfl,HK.out⟩
end
section
variable {W w w' w1:World} {a:KA} {k:KS} {C C':Nat→Nat×Nat} {pid:Int} {i j:Nat} {o o':KO} {x:Spc} {y:Nat×PTab} {S S':PS} {L L' L0:PTab} {ts:List (Nat×PTab)} {tab:Nat} {t':St} {u':Nat→Int} {e:PE} {n:Int}
def FnDoes (W:World) (a:KA) (k:KS) (i:Nat) (o:KO) (y:Nat×PTab) (z:Int) (S':PS) (L':PTab) (u':Nat→Int) (C:Nat→Nat×Nat) (Kq:World→Prop) (e:Ending) (w':World):Prop :=
 e=.returned (TErr z)∧KIn W w' a (fileK k i o y S' L' u') C∧Kq w'
def withE (o:KO) (n z:Int):Int:=if o.m 1 < o.u 1+n then 4 else z
def WithTo (W:World) (a:KA) (k:KS) (i:Nat) (o:KO) (y:Nat×PTab) (n z:Int) (S':PS) (L':PTab) (C:Nat→Nat×Nat) (Kp Kq:World→Prop) (e:Ending) (w':World):Prop :=
 e=.returned (TErr (withE o n z))∧((o.m 1 < o.u 1+n∧KIn W w' a k C∧Kp w')∨(¬ o.m 1 < o.u 1+n∧KIn W w' a (fileK k i o y S' L' (if z=0 then upd o.u 1 (o.u 1+n) else o.u)) C∧Kq w'))
theorem KIn.fileBack (h:KIn W w a (fileK k i o y S' L' u') C) (hm:Mine k pid i o x y) {v:Nat→Int} (hL:LedgerIs w' o.lb v o.m) (t:Turn (fun j => j=o.lb) w w'):KIn W w' a (fileK k i o y S' L' v) C:=by
 have h1:=h.ledgerC (i:=i) (o:={ o with u:=u' }) (set_at hm.ko) hL t
 have e:({ fileK k i o y S' L' u' with os:=(fileK k i o y S' L' u').os.set i { ({ o with u:=u' }:KO) with u:=v,m:=o.m } }:KS)=fileK k i o y S' L' v:=by
  unfold fileK
  simp only [List.set_set]
 rw [e] at h1
 exact h1
theorem kwith_is (h:KIn W w a k C) (hok:KOk k) (hm:Mine k pid i o x y) (hLd:Laid W) (N:Nat) (h1:1≤N) (h2:N≤2) (g:Nat) (lb:Array Value) (eg:∀ args w,(callFunc g args).run Tryz.prog w=.ok (.enter g args) w)
  (z:Int) (S':PS) (L':PTab) (Kp Kq:World→Prop) (hKp:Kp w) (hp:∀ w1 w2,Kp w1→Turn (fun j => j=o.lb) w1 w2→Kp w2) (hq:∀ w1 w2,Kq w1→Turn (fun j => j=o.lb) w1 w2→Kq w2)
  (hF:∀ w5,KIn W w5 a (fileK k i o y k.S y.2 (upd o.u 1 (o.u 1+N))) C→Kp w5→Calls Tryz.prog g lb w5 (FnDoes W a k i o y z S' L' (upd o.u 1 (o.u 1+N)) C Kq)) :
  Calls Tryz.prog 53 #[.pointer (some ⟨o.ob,0,none⟩),.int .i64 1,.int .i64 N,.func (.func g) #[] lb] w (WithTo W a k i o y N z S' L' C Kp Kq):=by
 obtain ⟨hO,hL⟩:=h.at_ hm
 have hfit:=(hok.fit i o hm.ko).1
 have hcg:=charge_one hL hfit 1 N
 have hwy:why o.u o.m ((1:Int),(N:Int))=if 0 < (N:Int)∧o.m 1 < o.u 1+N then 4 else 0:=why_more hfit 1 (by omega) N (by omega) (by omega)
 unfold Charged1 at hcg
 have HCg:=hid hcg
 have c2:=hO.c2
 have H:=hid h
 have HOk:=hid hok
 have HM:=hid hm
 have HLd:=hid hLd
 have HKp:=hid hKp
 have Hp:=hid hp
 have Hq:=hid hq
 have HF:=hid hF
 have hneg:IntKind.i64.wrap (-(N:Int))=-N:=IntWalk.i64_in _ (by omega)
 have Hneg:=hid hneg
 have hN64:-2≤-(N:Int)∧-(N:Int)≤2:=by omega
 by_cases hlim:o.m 1 < o.u 1+N
 ·rw [if_pos ⟨by omega,hlim⟩] at hwy
  have HWy:=hid hwy
  have HLim:=hid hlim
  have hR:∀ w',KIn W w' a k C→Kp w'→WithTo W a k i o y N z S' L' C Kp Kq (.returned (.iface 36 (.int .i64 4))) w':=fun w' h1 h2 => ⟨by rw [show withE o N z=4 from if_pos hlim]; rfl,.inl ⟨hlim,h1,h2⟩⟩
  have HRt:=hid hR
  clear h hok hm hO hL hcg hLd hKp hp hq hF hneg hwy hlim hfit hR
  go_enter Tryz.func53,Tryz.ntmps53
  go_wp2_with fail
  refine HCg.out.mono ?_
  rintro e w3 (⟨h0,_⟩ | ⟨_,b,rfl,hb,t3,hbf⟩)
  ·rw [HWy.out] at h0; cases h0
  ·rw [HWy.out] at hb
   have HK3:=hid (H.out.still t3)
   have HBr:=hid (kbare_at 4 b w3 (HLd.out.turned0 HK3.out.turn) hb)
   have HP3:=hid (Hp.out _ _ HKp.out (t3.mono (fun _ _ h => h.elim)))
   clear hb t3 hbf
   go_wp2_with fail
   refine HBr.out.mono ?_
   rintro e w5 ⟨rfl,t5⟩
   have HR:=hid (HK3.out.still t5)
   have HP5:=hid (Hp.out _ _ HP3.out (t5.mono (fun _ _ h => h.elim)))
   clear t5
   go_wp2_with fail
   go_returns
   exact HRt.out _ HR.out HP5.out
 ·rw [if_neg (fun e => hlim e.2)] at hwy
  have HWy:=hid hwy
  have HLim:=hid hlim
  have HFit:=hid hfit
  have e3:({ k with os:=k.os.set i { o with u:=done o.u ((1:Int),(N:Int)),m:=o.m } }:KS)=fileK k i o y k.S y.2 (upd o.u 1 (o.u 1+N)):=by
   unfold fileK
   rw [show k.ts.set i (y.1,y.2)=k.ts from list_set_same hm.tab]
   rfl
  have HE3:=hid e3
  have hback:Fit (upd o.u 1 (o.u 1+N)) o.m→why (upd o.u 1 (o.u 1+N)) o.m ((1:Int),-(N:Int))=0:=by
   intro hf
   have h3:=hfit 1 (by omega)
   refine why_less hf 1 (by omega) N (by omega) ?_
   rw [upd_same]
   omega
  have HBack:=hid hback
  have hdb:done (upd o.u 1 (o.u 1+N)) ((1:Int),-(N:Int))=o.u:=by
   funext j
   show upd (upd o.u 1 (o.u 1+N)) 1 (upd o.u 1 (o.u 1+N) 1+-(N:Int)) j=o.u j
   unfold upd
   by_cases hj:j=1
   ·subst hj; simp; omega
   ·simp [hj]
  have HDb:=hid hdb
  by_cases hz:z=0
  ·subst hz
   have hR:∀ w',KIn W w' a (fileK k i o y S' L' (upd o.u 1 (o.u 1+N))) C→Kq w'→WithTo W a k i o y N 0 S' L' C Kp Kq (.returned .nilIface) w':=fun w' h1 h2 => ⟨by rw [show withE o N 0=0 from if_neg hlim]; rfl,.inr ⟨hlim,by rw [if_pos rfl]; exact h1,h2⟩⟩
   have HRt:=hid hR
   clear hR h hok hm hO hL hcg hLd hKp hp hq hF hneg hwy hlim hfit e3 hback hdb
   go_enter Tryz.func53,Tryz.ntmps53
   go_wp2_with fail
   refine HCg.out.mono ?_
   rintro e w3 (⟨_,rfl,hl3,hf3,t3⟩ | ⟨hne,_⟩)
   ·have hK3:=H.out.ledgerC HM.out.ko hl3 t3
    rw [HE3.out] at hK3
    have HP3:=hid (Hp.out _ _ HKp.out t3)
    have HFn:=hid (HF.out w3 hK3 HP3.out)
    unfold FnDoes at HFn
    rw [show TErr 0=.nilIface from rfl] at HFn
    clear hl3 hf3 t3 hK3
    go_wp2_with (go_at_fn g; refine HFn.out.mono ?_; rintro e w6 ⟨rfl,hK6,hq6⟩)
    all_goals
     have HR:=hid (show KIn W w6 a (fileK k i o y S' L' (upd o.u 1 (o.u 1+N))) C∧Kq w6 from ⟨hK6,hq6⟩)
     clear hK6 hq6
     go_wp2_with fail
     go_returns
     exact HRt.out _ HR.out.1 HR.out.2
   ·exact absurd HWy.out hne
  ·have hR:∀ w',KIn W w' a (fileK k i o y S' L' o.u) C→Kq w'→WithTo W a k i o y N z S' L' C Kp Kq (.returned (.iface 36 (.int .i64 z))) w':=fun w' h1 h2 => ⟨by rw [show withE o N z=z from if_neg hlim,TErr_of hz],.inr ⟨hlim,by rw [if_neg hz]; exact h1,h2⟩⟩
   have HRt:=hid hR
   have HZ:=hid hz
   clear hR h hok hm hO hL hcg hLd hKp hp hq hF hneg hwy hlim hfit e3 hback hdb hz
   go_enter Tryz.func53,Tryz.ntmps53
   go_wp2_with fail
   refine HCg.out.mono ?_
   rintro e w3 (⟨_,rfl,hl3,hf3,t3⟩ | ⟨hne,_⟩)
   ·have hK3:=H.out.ledgerC HM.out.ko hl3 t3
    rw [HE3.out] at hK3
    have HP3:=hid (Hp.out _ _ HKp.out t3)
    have HFn:=hid (HF.out w3 hK3 HP3.out)
    have HF3:=hid hf3
    unfold FnDoes at HFn
    rw [TErr_of HZ.out] at HFn
    clear hl3 hf3 t3 hK3
    have hng:=Hneg.out
    go_wp2_with (go_at_fn g; refine HFn.out.mono ?_; rintro e w6 ⟨rfl,hI6,hq6⟩; have hA6:=hI6.at_ (mine_file HM.out); have r6:=hA6.1.c2; simp only at r6; have HA6:=hid hA6.2; have HI6:=hid hI6; have HQ6:=hid hq6; clear hI6 hA6 hq6)
    all_goals
     have hcg6:=charge_one (kind:=1) (n:=-(N:Int)) HA6.out HF3.out
     unfold Charged1 at hcg6
     have HCg6:=hid hcg6
     clear hcg6
     with_reducible refine HCg6.out.mono ?_
     rintro e w7 (⟨_,rfl,hl7,hf7,t7⟩ | ⟨hne,_⟩)
     ·have hl8:LedgerIs w7 o.lb o.u o.m:=by rw [← HDb.out]; exact hl7
      have HR:=hid (KIn.fileBack HI6.out HM.out hl8 t7)
      have HQ7:=hid (Hq.out _ _ HQ6.out t7)
      clear hl7 hf7 t7 hl8
      go_wp2_with fail
      go_returns
      exact HRt.out _ HR.out HQ7.out
     ·exact absurd (HBack.out HF3.out) hne
   ·exact absurd HWy.out hne
end
section
variable {W w w' w1:World} {a:KA} {k:KS} {C C':Nat→Nat×Nat} {pid:Int} {i j:Nat} {o o':KO} {x:Spc} {y:Nat×PTab} {S S':PS} {L L' L0:PTab} {ts:List (Nat×PTab)} {tab:Nat} {t':St} {u' v':Nat→Int} {e:PE} {n:Int}
theorem KIn.seven (h:KIn W w a k C) (t:Turn (fun j => C j=(7,0)) w w'):KIn W w' a k C:=by
 obtain ⟨o1,o2,o3,o4,o5,o6⟩:=h.others t (by decide)
 obtain ⟨k0,k1,k2,k3,k4⟩:=o1 (by decide)
 refine ⟨k0,k1,k2,k3,k4,fun i o ho => ?_,o2 (by decide),h.has,o4 (by decide),o5 (by decide),?_,h.ckb,h.com,h.cob,h.clb,h.cvm,h.cpr,fun j hj => ⟨(h.low j hj).1,Nat.lt_of_lt_of_le (h.low j hj).2 t.size⟩,o6⟩
 ·obtain ⟨x,y,h1,h2,h3,h4⟩:=o3 i o ho
  exact ⟨x,y,h1,h2,h3 (by simp),h4 (by simp)⟩
 ·exact h.desc.rebase (t.mono (fun j _ hj => .inr (by rw [hj]; decide))) (fun j hj => .inl hj) (fun j hj => Nat.lt_of_lt_of_le (h.desc.low j hj) t.size)
def BoxAt (w:World) (b:Nat) (v:Value):Prop:=w.cell? ⟨b,0,none⟩=some v∧w.frozen? ⟨b,0,none⟩=false
theorem BoxAt.turned {b:Nat} {v:Value} {X:Nat→Prop} (h:BoxAt w b v) (t:Turn X w w') (hn:¬ X b):BoxAt w' b v :=
 ⟨(t.cell (a:=⟨b,0,none⟩) (lt_of_cell h.1) hn).trans h.1,(t.frozen (a:=⟨b,0,none⟩) (lt_of_cell h.1) hn).trans h.2⟩
theorem fileK_fileK (v:Nat→Int):fileK (fileK k i o y S L u') i { o with u:=u' } (y.1,L) S' L' v=fileK k i o y S' L' v:=by
 unfold fileK
 simp only [List.set_set]
theorem KIn.fileIn (h:KIn W w a (fileK k i o y k.S y.2 u') C) (hm:Mine k pid i o x y) (hd:DLawB ⟨w,fun j => j < W.heap.size∨C j≠(0,0)⟩ w' a.fb a.tb S' ((k.ts.set i (y.1,y.2)).set i (y.1,L'))):KIn W w' a (fileK k i o y S' L' u') C:=by
 have h1:=h.fileStepC (mine_file (S':=k.S) (L':=y.2) (u':=u') hm) hd
 rw [fileK_fileK] at h1
 exact h1
theorem KIn.there (h:KIn W w a (fileK k i o y k.S y.2 u') C) (hm:Mine k pid i o x y):OwnAt w o.ob x.sp y.1 o.lb o.adj:=(h.at_ (mine_file (S':=k.S) (L':=y.2) (u':=u') hm)).1
def DupBox (w:World) (a:KA) (o:KO) (n:Int) (bk bo bn bt:Nat):Prop:=BoxAt w bk (.pointer (some ⟨a.kb,0,none⟩))∧BoxAt w bo (.pointer (some ⟨o.ob,0,none⟩))∧BoxAt w bn (.int .i64 n)∧BoxAt w bt (.int .i64 0)
theorem kdup1_is {bk bo bn bt:Nat} (h:KIn W w a (fileK k i o y k.S y.2 u') C) (hok:KOk k) (hm:Mine k pid i o x y) (n:Int) (hb:DupBox w a o n bk bo bn bt) (hC:C bk=(7,0)∧C bo=(7,0)∧C bn=(7,0)∧C bt=(7,0)) (hN:bt≠bk∧bt≠bo∧bt≠bn) :
  Calls Tryz.prog 154 #[.pointer (some ⟨bk,0,none⟩),.pointer (some ⟨bo,0,none⟩),.pointer (some ⟨bn,0,none⟩),.pointer (some ⟨bt,0,none⟩)] w (FnDoes W a k i o y (dupE k.S y.2 n) (dupS k.S y.2 n) (dupL k.S y.2 n) u' C (fun w' => BoxAt w' bt (.int .i64 (dupK k.S y.2 n)))):=by
 have hd:=h.drewS
 have hO2:=hd.there hm
 obtain ⟨b1,b2,b3,b4⟩:=hb
 have tw:Turn (fun _ => False) w w.drew:=(Turn.refl _ _).drew
 have q1:=(b1.turned tw id).1
 have q2:=hd.c2
 have q3:=(b2.turned tw id).1
 have q4:=hO2.c1
 have q5:=(b3.turned tw id).1
 have HP:=hid (law_dup hd.desc hok.dok (mine_file (S':=k.S) (L':=y.2) (u':=u') hm).tab (hok.there hm) n (fun k e he => by have:=hok.joint.bound hok.dok (by have:=hok.len; omega) k e he; omega))
 have HD:=hid hd
 have HOk:=hid hok
 have HM:=hid hm
 have HC:=hid hC
 have HB:=hid (show BoxAt w.drew bk _∧BoxAt w.drew bo _∧BoxAt w.drew bn _∧BoxAt w.drew bt _ from ⟨b1.turned tw id,b2.turned tw id,b3.turned tw id,b4.turned tw id⟩)
 have n1:=hN.1
 have n2:=hN.2.1
 have n3:=hN.2.2
 have n4:bt≠a.kb:=kmark hC.2.2.2 h.ckb (by decide)
 have n5:bt≠o.ob:=by
  have h5:=h.cob i _ (mine_file (S':=k.S) (L':=y.2) (u':=u') hm).ko
  exact kmark hC.2.2.2 h5 (by simp)
 clear h hok hm hd hO2 hN b1 b2 b3 b4 tw hC
 go_enter Tryz.func154,Tryz.ntmps154
 go_wp2_with fail
 go_region_held3 (fun w' => w'.cell? ⟨bk,0,none⟩=some (.pointer (some ⟨a.kb,0,none⟩))∧w'.cell? ⟨a.kb,2,none⟩=some (.pointer (some ⟨a.fb,0,none⟩))∧w'.cell? ⟨bo,0,none⟩=some (.pointer (some ⟨o.ob,0,none⟩))∧w'.cell? ⟨o.ob,1,none⟩=some (.pointer (some ⟨y.1,0,none⟩))∧w'.cell? ⟨bn,0,none⟩=some (.int .i64 n))
  (first | exact ⟨q1,q2,q3,q4,q5⟩ | exact ⟨r1,r2,r3,r4,r5⟩ | (refine ⟨?_,?_,?_,?_,?_⟩ <;> (rw [World.cell?_setCell_other _ _ _ _ (by intro e; injection e with e; omega)]; assumption)) | go_keep)
  (first | (go_at_call 155; refine HP.out.mono ?_; rintro e w4 ⟨rfl,hd4⟩; have hI4:=HD.out.fileIn HM.out hd4; have hT4:=hd4.turn; have HI4:=hid hI4; have r2:=hI4.c2; have r4:=(hI4.at_ (mine_file HM.out)).1.c1; have r1:=(HB.out.1.turned hT4 (fun hn => hn (.inr (by rw [HC.out.1]; decide)))).1; have r3:=(HB.out.2.1.turned hT4 (fun hn => hn (.inr (by rw [HC.out.2.1]; decide)))).1; have r5:=(HB.out.2.2.1.turned hT4 (fun hn => hn (.inr (by rw [HC.out.2.2.1]; decide)))).1; have hb4:=(HB.out.2.2.2.turned hT4 (fun hn => hn (.inr (by rw [HC.out.2.2.2]; decide)))); have r6:=hb4.1; have r7:=hb4.2; simp only at r4; clear hd4 hI4 hT4 hb4))
 all_goals go_wp2_with fail
 all_goals go_returns
 all_goals exact ⟨rfl,HI4.out.seven ((turn_own bt _ 0 _).mono (fun j _ e => by rw [e]; exact HC.out.2.2.2)),World.cell?_setCell_same _ _ _ r6,by rw [World.frozen?_setCell]; exact r7⟩
theorem usedL_dup (hE:dupE S L n=0) (hS:DOk S):usedL (dupL S L n)=usedL L+1:=by
 unfold dupL
 rw [if_pos hE]
 cases hx:entL S L n with
 | none => unfold dupE at hE; rw [hx] at hE; cases hE
 | some x =>
  obtain ⟨k,e⟩:=x
  obtain ⟨h1,h2,h3,h4,he⟩:=entL_slot hx
  unfold dupE at hE
  rw [hx] at hE
  have hE:(if leastL L < 0 then (12:Int) else 0)=0:=hE
  obtain ⟨j,hl,hj,hjz⟩:=(leastL_spec L).resolve_left (fun hl => by rw [if_pos (by omega)] at hE; cases hE)
  rw [show (leastL L).toNat=j by omega]
  have hk0:=(hS.keys k e he).1
  have h5:=usedL_set (L:=L) (j:=j) (x:=((L n.toNat).1,false)) hj
  have h6:usX (L j)=0:=if_neg (by omega)
  have h7:usX ((L n.toNat).1,false)=1:=if_pos (by show 0 < (L n.toNat).1; omega)
  omega
theorem box_new (w:World) (v:Value) (t:TypeId):BoxAt (w.alloc (.cells #[v] t)) w.heap.size v:=⟨by simp,by simp⟩
theorem box_in {w w':World} {v:Value} {t:TypeId} {b:Nat} (hb:b=w.heap.size) (t1:Turn (fun _ => False) (w.alloc (.cells #[v] t)) w'):BoxAt w' b v:=by
 subst hb
 exact (box_new w v t).turned t1 id
theorem dup_boxes (h:KIn W w a k C) (n:Int) (t1 t2 t3 t4:TypeId) :
  ∃ C',KIn W ((((w.alloc (.cells #[.pointer (some ⟨a.kb,0,none⟩)] t1)).alloc (.cells #[.int .i64 n] t2)).alloc (.cells #[.int .i64 0] t3)).alloc (.cells #[.pointer (some ⟨o.ob,0,none⟩)] t4)) a k C'∧DupBox ((((w.alloc (.cells #[.pointer (some ⟨a.kb,0,none⟩)] t1)).alloc (.cells #[.int .i64 n] t2)).alloc (.cells #[.int .i64 0] t3)).alloc (.cells #[.pointer (some ⟨o.ob,0,none⟩)] t4)) a o n w.heap.size (w.heap.size+1+1+1) (w.heap.size+1) (w.heap.size+1+1)∧C' w.heap.size=(7,0)∧C' (w.heap.size+1+1+1)=(7,0)∧C' (w.heap.size+1)=(7,0)∧C' (w.heap.size+1+1)=(7,0):=by
 refine ⟨markF C (fun j => w.heap.size≤j∧j < w.heap.size+4) (7,0),h.marked (((((Turn.refl _ _).alloc _).alloc _).alloc _).alloc _) _ (fun j hj => ⟨hj.1,by simp only [World.size_alloc]; omega⟩),⟨?_,?_,?_,?_⟩,markF_in ⟨by omega,by omega⟩,markF_in ⟨by omega,by omega⟩,markF_in ⟨by omega,by omega⟩,markF_in ⟨by omega,by omega⟩⟩
 ·exact box_in rfl ((((Turn.refl _ _).alloc _).alloc _).alloc _)
 ·exact box_in (by simp only [World.size_alloc]) (Turn.refl _ _)
 ·exact box_in (by simp only [World.size_alloc]) (((Turn.refl _ _).alloc _).alloc _)
 ·exact box_in (by simp only [World.size_alloc]) ((Turn.refl _ _).alloc _)
theorem results_dup {tmps:Array Value} {w:World} {b:Nat} {x v:Value} (ht:tmps[6]?.getD undef=.pointer (some ⟨b,0,none⟩)) (hv:tmps[7]?.getD undef=v) (h0:w.cell? ⟨b,0,none⟩=some x) :
  (results Tryz.f72 tmps).run Tryz.prog w=.ok (.tuple #[x,v]) w:=by
 simp [results,Tryz.results72,ht,hv,go_sem,h0]
def dupTo (o:KO) (S:PS) (L:PTab) (n:Int):Int:=if o.m 1 < o.u 1+1 then 0 else dupK S L n
def DupTo (W:World) (a:KA) (k:KS) (i:Nat) (o:KO) (y:Nat×PTab) (n:Int) (e:Ending) (w':World):Prop :=
 e=.returned (.tuple #[.int .i64 (dupTo o k.S y.2 n),TErr (withE o 1 (dupE k.S y.2 n))])∧KTo W a k (withE o 1 (dupE k.S y.2 n)) (fun k' => k'=fileK k i o y (dupS k.S y.2 n) (dupL k.S y.2 n) (upd o.u 1 (o.u 1+1))) w'
theorem kdup_yes (h:KIn W w a k C) (hok:KOk k) (hm:Mine k pid i o x y) (hLd:Laid W) (n:Int) :
  Calls Tryz.prog 72 #[.pointer (some ⟨a.kb,0,none⟩),.int .i64 pid,.int .i64 n] w (fun e w' => DupTo W a k i o y n e w'):=by
 have HW:=hid (fun w' (tt:Turn (fun _ => False) w w') => who_yes (h.still tt) hok hm.own hm.ko)
 have H:=hid h
 have HOk:=hid hok
 have HM:=hid hm
 have HLd:=hid hLd
 clear h hok hm hLd
 go_enter Tryz.func72,Tryz.ntmps72
 go_wp2_with fail
 refine (HW.out _ ?_).mono ?_
 ·exact (((Turn.refl _ _).alloc _).alloc _).alloc _
 rintro e w1 ⟨rfl,hw⟩; subst w1
 go_wp2_with fail
 obtain ⟨C',hI,hb,hC⟩:=dup_boxes (o:=o) H.out n 25 3 3 107
 have hlb:∀ {b:Nat},C' b=(7,0)→¬ b=o.lb:=fun h1 => kmark h1 (hI.clb i o HM.out.ko) (by simp)
 have HWi:=hid (kwith_is (z:=dupE k.S y.2 n) (S':=dupS k.S y.2 n) (L':=dupL k.S y.2 n) hI HOk.out HM.out HLd.out 1 (by omega) (by omega) 154 _ (fun _ _ => rfl)
  (Kp:=fun w' => DupBox w' a o n w.heap.size (w.heap.size+1+1+1) (w.heap.size+1) (w.heap.size+1+1)) (Kq:=fun w' => BoxAt w' (w.heap.size+1+1) (.int .i64 (dupK k.S y.2 n))) hb
  (fun w1 w2 h1 t => ⟨h1.1.turned t (hlb hC.1),h1.2.1.turned t (hlb hC.2.1),h1.2.2.1.turned t (hlb hC.2.2.1),h1.2.2.2.turned t (hlb hC.2.2.2)⟩)
  (fun w1 w2 h1 t => h1.turned t (hlb hC.2.2.2))
  (fun w5 h5 hb5 => kdup1_is h5 HOk.out HM.out n hb5 hC ⟨by omega,by omega,by omega⟩))
 have HC:=hid hC
 clear hI hb hC hlb
 refine HWi.out.mono ?_
 rintro e w5 ⟨rfl,hcs⟩
 obtain ⟨k',hI5,hb5,hok5⟩:∃ k',KIn W w5 a k' C'∧BoxAt w5 (w.heap.size+1+1) (.int .i64 (dupTo o k.S y.2 n))∧(∀ w6,KIs W w6 a k'→KTo W a k (withE o 1 (dupE k.S y.2 n)) (fun k' => k'=fileK k i o y (dupS k.S y.2 n) (dupL k.S y.2 n) (upd o.u 1 (o.u 1+1))) w6):=by
  rcases hcs with ⟨hlim,h1,h2⟩ | ⟨hlim,h1,h2⟩
  ·refine ⟨_,h1,by rw [show dupTo o k.S y.2 n=0 from if_pos hlim]; exact h2.2.2.2,fun w6 h6 => KTo.no h6 HOk.out ?_⟩
   rw [show withE o 1 (dupE k.S y.2 n)=4 from if_pos hlim]; decide
  ·refine ⟨_,h1,by rw [show dupTo o k.S y.2 n=dupK k.S y.2 n from if_neg hlim]; exact h2,fun w6 h6 => ?_⟩
   rw [show withE o 1 (dupE k.S y.2 n)=dupE k.S y.2 n from if_neg hlim]
   by_cases hz:dupE k.S y.2 n=0
   ·rw [if_pos hz] at h6
    have hf:=(HOk.out.fit i o HM.out.ko).1
    have hlv:=(HOk.out.live i o x y HM.out.ko HM.out.sp HM.out.tab ⟨pid,HM.out.own⟩).2.1
    refine ⟨_,h6,HOk.out.file HM.out (dok_dup HOk.out.dok (HOk.out.joint.bound HOk.out.dok (by have:=HOk.out.len; omega)) y.2 n) (joint_dup HOk.out.joint HOk.out.dok HM.out.tab n) ⟨upd_other _ _ (by decide),?_,upd_other _ _ (by decide)⟩ (fun j hj => ?_),fun _ => rfl,fun e => absurd hz e⟩
    ·show upd o.u 1 (o.u 1+1) 1=_
     rw [upd_same,hlv,usedL_dup hz HOk.out.dok]
     omega
    ·show 0≤upd o.u 1 (o.u 1+1) j∧upd o.u 1 (o.u 1+1) j≤1000000∧_
     have h3:=hf j hj
     have h4:=hf 1 (by omega)
     by_cases e:j=1
     ·subst e; rw [upd_same]; exact ⟨by omega,by omega,h3.2.2⟩
     ·rw [upd_other _ _ e]; exact h3
   ·rw [if_neg hz] at h6
    exact fileK_err HM.out h6 HOk.out (if_neg hz) (if_neg hz) hz
 have HI5:=hid hI5
 have HO5:=hid hok5
 have r1:=hb5.1
 have r2:=hb5.2
 clear hcs hI5 hb5 hok5
 go_wp2_with fail
 have r3:(w5.setCell ⟨w.heap.size+1+1,0,none⟩ (.int .i64 (dupTo o k.S y.2 n))).cell? ⟨w.heap.size+1+1,0,none⟩=some (.int .i64 (dupTo o k.S y.2 n)):=World.cell?_setCell_same _ _ _ r1
 (try simp only [Exit.inBlock,Exit.then])
 refine bodyPost_ret (results_dup rfl rfl r3) rfl ?_
 exact ⟨rfl,HO5.out _ ⟨_,HI5.out.seven ((turn_own (w.heap.size+1+1) _ 0 _).mono (fun j _ e => by rw [e]; exact HC.out.2.2.2))⟩⟩
end
section
variable {W w w' w1:World} {a:KA} {k:KS} {C C':Nat→Nat×Nat} {pid:Int} {i j:Nat} {o o':KO} {x:Spc} {y:Nat×PTab} {S S':PS} {L L' L0:PTab} {ts:List (Nat×PTab)} {tab:Nat} {t':St} {u' v':Nat→Int} {e:PE} {n:Int}
def FileBox (w:World) (a:KA) (o:KO) (s:ByteArray) (p:Int) (mk:Bool) (bk bo bs bp bm bt:Nat):Prop:=BoxAt w bk (.pointer (some ⟨a.kb,0,none⟩))∧BoxAt w bo (.pointer (some ⟨o.ob,0,none⟩))∧BoxAt w bs (.string s)∧BoxAt w bp (.int .i64 p)∧BoxAt w bm (.bool mk)∧BoxAt w bt (.int .i64 0)
theorem kfile1_is {bk bo bs bp bm bt:Nat} {Kx:World→Prop} (hx0:Kx w) (hx:∀ w1 w2,Kx w1→Turn (fun j => C j≠(7,0)∨j=bt) w1 w2→Kx w2) (h:KIn W w a (fileK k i o y k.S y.2 u') C) (hok:KOk k) (hm:Mine k pid i o x y) (hLd:Laid W) (s:ByteArray) (hs:s.size < 4294967281) (p:Int) (mk:Bool) (hb:FileBox w a o s p mk bk bo bs bp bm bt) (hC:C bk=(7,0)∧C bo=(7,0)∧C bs=(7,0)∧C bp=(7,0)∧C bm=(7,0)∧C bt=(7,0)) (hN:bt≠bk∧bt≠bo∧bt≠bs∧bt≠bp∧bt≠bm) :
  Calls Tryz.prog 152 #[.pointer (some ⟨bk,0,none⟩),.pointer (some ⟨bo,0,none⟩),.pointer (some ⟨bs,0,none⟩),.pointer (some ⟨bp,0,none⟩),.pointer (some ⟨bm,0,none⟩),.pointer (some ⟨bt,0,none⟩)] w (FnDoes W a k i o y (openE k.S y.2 s p mk) (openS k.S y.2 s p mk) (openL k.S y.2 s p mk) u' C (fun w' => BoxAt w' bt (.int .i64 (openK k.S y.2 s p mk))∧Kx w')):=by
 have HKx:=hid (show Kx w.drew from hx _ _ hx0 ((Turn.refl _ _).drew))
 have Hx:=hid hx
 have hd:=h.drewS
 have hO2:=hd.there hm
 obtain ⟨b1,b2,b3,b4,b5,b6⟩:=hb
 have tw:Turn (fun _ => False) w w.drew:=(Turn.refl _ _).drew
 have q1:=(b1.turned tw id).1
 have q2:=hd.c2
 have q3:=(b2.turned tw id).1
 have q4:=hO2.c1
 have q5:=(b3.turned tw id).1
 have q6:=(b4.turned tw id).1
 have q7:=(b5.turned tw id).1
 have hLB:LaidB ⟨w.drew,fun j => j < W.heap.size∨C j≠(0,0)⟩:=⟨hLd.turned0 hd.turn,.inl hLd.lt⟩
 have HP:=hid (law_file hd.desc hok.dok (mine_file (S':=k.S) (L':=y.2) (u':=u') hm).tab hLB s hs p mk)
 have HD:=hid hd
 have HOk:=hid hok
 have HM:=hid hm
 have HC:=hid hC
 have HB:=hid (show BoxAt w.drew bk _∧BoxAt w.drew bo _∧BoxAt w.drew bs _∧BoxAt w.drew bp _∧BoxAt w.drew bm _∧BoxAt w.drew bt _ from ⟨b1.turned tw id,b2.turned tw id,b3.turned tw id,b4.turned tw id,b5.turned tw id,b6.turned tw id⟩)
 have n1:=hN.1
 have n2:=hN.2.1
 have n3:=hN.2.2.1
 have n6:=hN.2.2.2.1
 have n7:=hN.2.2.2.2
 have n4:bt≠a.kb:=kmark hC.2.2.2.2.2 h.ckb (by decide)
 have n5:bt≠o.ob:=by
  have h5:=h.cob i _ (mine_file (S':=k.S) (L':=y.2) (u':=u') hm).ko
  exact kmark hC.2.2.2.2.2 h5 (by simp)
 clear h hok hm hd hO2 hN b1 b2 b3 b4 b5 b6 tw hC hLd hLB hx0 hx
 go_enter Tryz.func152,Tryz.ntmps152
 go_wp2_with fail
 go_region_held3 (fun w' => w'.cell? ⟨bk,0,none⟩=some (.pointer (some ⟨a.kb,0,none⟩))∧w'.cell? ⟨a.kb,2,none⟩=some (.pointer (some ⟨a.fb,0,none⟩))∧w'.cell? ⟨bo,0,none⟩=some (.pointer (some ⟨o.ob,0,none⟩))∧w'.cell? ⟨o.ob,1,none⟩=some (.pointer (some ⟨y.1,0,none⟩))∧w'.cell? ⟨bs,0,none⟩=some (.string s)∧w'.cell? ⟨bp,0,none⟩=some (.int .i64 p)∧w'.cell? ⟨bm,0,none⟩=some (.bool mk))
  (first | exact ⟨q1,q2,q3,q4,q5,q6,q7⟩ | exact ⟨r1,r2,r3,r4,r5,r8,r9⟩ | (refine ⟨?_,?_,?_,?_,?_,?_,?_⟩ <;> (rw [World.cell?_setCell_other _ _ _ _ (by intro e; injection e with e; omega)]; assumption)) | go_keep)
  (first | (go_at_call 153; refine HP.out.mono ?_; rintro e w4 ⟨rfl,hd4⟩; have hI4:=HD.out.fileIn HM.out hd4; have hT4:=hd4.turn; have HK4x:=hid (Hx.out _ _ HKx.out (hT4.mono (fun j _ hn => .inl (fun e => hn (.inr (by rw [e]; decide)))))); have HI4:=hid hI4; have r2:=hI4.c2; have r4:=(hI4.at_ (mine_file HM.out)).1.c1; have r1:=(HB.out.1.turned hT4 (fun hn => hn (.inr (by rw [HC.out.1]; decide)))).1; have r3:=(HB.out.2.1.turned hT4 (fun hn => hn (.inr (by rw [HC.out.2.1]; decide)))).1; have r5:=(HB.out.2.2.1.turned hT4 (fun hn => hn (.inr (by rw [HC.out.2.2.1]; decide)))).1; have r8:=(HB.out.2.2.2.1.turned hT4 (fun hn => hn (.inr (by rw [HC.out.2.2.2.1]; decide)))).1; have r9:=(HB.out.2.2.2.2.1.turned hT4 (fun hn => hn (.inr (by rw [HC.out.2.2.2.2.1]; decide)))).1; have hb4:=(HB.out.2.2.2.2.2.turned hT4 (fun hn => hn (.inr (by rw [HC.out.2.2.2.2.2]; decide)))); have r6:=hb4.1; have r7:=hb4.2; simp only at r4; clear hd4 hI4 hT4 hb4))
 all_goals go_wp2_with fail
 all_goals go_returns
 all_goals exact ⟨rfl,HI4.out.seven ((turn_own bt _ 0 _).mono (fun j _ e => by rw [e]; exact HC.out.2.2.2.2.2)),⟨World.cell?_setCell_same _ _ _ r6,by rw [World.frozen?_setCell]; exact r7⟩,Hx.out _ _ HK4x.out ((turn_own bt _ 0 _).mono (fun j _ e => .inr e))⟩
theorem fit_one (hf:Fit o.u o.m) (hlim:¬ o.m 1 < o.u 1+1):Fit (upd o.u 1 (o.u 1+1)) o.m:=fun j hj => by
 have h3:=hf j hj
 have h4:=hf 1 (by omega)
 by_cases e:j=1
 ·subst e; rw [upd_same]; exact ⟨by omega,by omega,h3.2.2⟩
 ·rw [upd_other _ _ e]; exact h3
theorem usedL_open {path:ByteArray} {prot:Int} {mk:Bool} (hE:openE S L path prot mk=0) (hS:DOk S):usedL (openL S L path prot mk)=usedL L+1:=by
 obtain ⟨⟨j,hl,hj,hjz⟩,_⟩:=open_len hS hE
 unfold openL
 rw [if_pos hE,show (leastL L).toNat=j by omega]
 have h5:=usedL_set (L:=L) (j:=j) (x:=((freeE S.es:Int)+1,false)) hj
 have h6:usX (L j)=0:=if_neg (by omega)
 have h7:usX ((freeE S.es:Int)+1,false)=1:=if_pos (by show 0 < (freeE S.es:Int)+1; omega)
 omega
theorem file_boxes (h:KIn W w a k C) (s:ByteArray) (p:Int) (mk:Bool) (t1 t2 t3 t4 t5 t6:TypeId) :
  ∃ C',KIn W ((((((w.alloc (.cells #[.pointer (some ⟨a.kb,0,none⟩)] t1)).alloc (.cells #[.string s] t2)).alloc (.cells #[.int .i64 p] t3)).alloc (.cells #[.bool mk] t4)).alloc (.cells #[.int .i64 0] t5)).alloc (.cells #[.pointer (some ⟨o.ob,0,none⟩)] t6)) a k C'∧FileBox ((((((w.alloc (.cells #[.pointer (some ⟨a.kb,0,none⟩)] t1)).alloc (.cells #[.string s] t2)).alloc (.cells #[.int .i64 p] t3)).alloc (.cells #[.bool mk] t4)).alloc (.cells #[.int .i64 0] t5)).alloc (.cells #[.pointer (some ⟨o.ob,0,none⟩)] t6)) a o s p mk w.heap.size (w.heap.size+1+1+1+1+1) (w.heap.size+1) (w.heap.size+1+1) (w.heap.size+1+1+1) (w.heap.size+1+1+1+1)∧C' w.heap.size=(7,0)∧C' (w.heap.size+1+1+1+1+1)=(7,0)∧C' (w.heap.size+1)=(7,0)∧C' (w.heap.size+1+1)=(7,0)∧C' (w.heap.size+1+1+1)=(7,0)∧C' (w.heap.size+1+1+1+1)=(7,0)∧∀ j,C j=(7,0)→C' j=(7,0):=by
 refine ⟨markF C (fun j => w.heap.size≤j∧j < w.heap.size+6) (7,0),h.marked (((((((Turn.refl _ _).alloc _).alloc _).alloc _).alloc _).alloc _).alloc _) _ (fun j hj => ⟨hj.1,by simp only [World.size_alloc]; omega⟩),⟨?_,?_,?_,?_,?_,?_⟩,markF_in ⟨by omega,by omega⟩,markF_in ⟨by omega,by omega⟩,markF_in ⟨by omega,by omega⟩,markF_in ⟨by omega,by omega⟩,markF_in ⟨by omega,by omega⟩,markF_in ⟨by omega,by omega⟩,fun j hj => ?_⟩
 ·exact box_in rfl ((((((Turn.refl _ _).alloc _).alloc _).alloc _).alloc _).alloc _)
 ·exact box_in (by simp only [World.size_alloc]) (Turn.refl _ _)
 ·exact box_in (by simp only [World.size_alloc]) (((((Turn.refl _ _).alloc _).alloc _).alloc _).alloc _)
 ·exact box_in (by simp only [World.size_alloc]) ((((Turn.refl _ _).alloc _).alloc _).alloc _)
 ·exact box_in (by simp only [World.size_alloc]) (((Turn.refl _ _).alloc _).alloc _)
 ·exact box_in (by simp only [World.size_alloc]) ((Turn.refl _ _).alloc _)
 ·by_cases hp:w.heap.size≤j∧j < w.heap.size+6
  ·exact markF_in hp
  ·rw [markF_out hp]; exact hj
theorem results_file {tmps:Array Value} {w:World} {b:Nat} {x v:Value} (ht:tmps[10]?.getD undef=.pointer (some ⟨b,0,none⟩)) (hv:tmps[11]?.getD undef=v) (h0:w.cell? ⟨b,0,none⟩=some x) :
  (results Tryz.f71 tmps).run Tryz.prog w=.ok (.tuple #[x,v]) w:=by
 simp [results,Tryz.results71,ht,hv,go_sem,h0]
def fileTo (o:KO) (S:PS) (L:PTab) (s:ByteArray) (p:Int) (mk:Bool):Int:=if o.m 1 < o.u 1+1 then 0 else openK S L s p mk
def KFileTo (W:World) (a:KA) (k:KS) (i:Nat) (o:KO) (y:Nat×PTab) (s:ByteArray) (p:Int) (mk:Bool) (e:Ending) (w':World):Prop :=
 e=.returned (.tuple #[.int .i64 (fileTo o k.S y.2 s p mk),TErr (withE o 1 (openE k.S y.2 s p mk))])∧KTo W a k (withE o 1 (openE k.S y.2 s p mk)) (fun k' => k'=fileK k i o y (openS k.S y.2 s p mk) (openL k.S y.2 s p mk) (upd o.u 1 (o.u 1+1))) w'
theorem kfile_keep {Kx:World→Prop} (hx0:Kx w) (hx:∀ w1 w2,Kx w1→Turn (fun j => C j≠(7,0)∨w.heap.size≤j) w1 w2→Kx w2) (h:KIn W w a k C) (hok:KOk k) (hm:Mine k pid i o x y) (hLd:Laid W) (s:ByteArray) (hs:s.size < 4294967281) (p:Int) (mk:Bool) :
  Calls Tryz.prog 71 #[.pointer (some ⟨a.kb,0,none⟩),.int .i64 pid,.string s,.int .i64 p,.bool mk] w (fun e w' => KFileTo W a k i o y s p mk e w'∧Kx w'):=by
 have HKx:=hid hx0
 have Hx:=hid hx
 have HW:=hid (fun w' (tt:Turn (fun _ => False) w w') => who_yes (h.still tt) hok hm.own hm.ko)
 have H:=hid h
 have HTok:=hid h.tok
 have HOk:=hid hok
 have HM:=hid hm
 have HLd:=hid hLd
 have HSz:=hid hs
 clear h hok hm hLd hs hx0 hx
 go_enter Tryz.func71,Tryz.ntmps71
 go_wp2_with fail
 refine (HW.out _ ?_).mono ?_
 ·exact ((((((Turn.refl _ _).alloc _).alloc _).alloc _).alloc _).alloc _)
 rintro e w1 ⟨rfl,hw⟩; subst w1
 go_wp2_with fail
 obtain ⟨C',hI,hb,g1,g2,g3,g4,g5,g6,hCk⟩:=file_boxes (o:=o) H.out s p mk 25 9 3 4 3 107
 have hC:=And.intro g1 (And.intro g2 (And.intro g3 (And.intro g4 (And.intro g5 g6))))
 have hlb:∀ {b:Nat},C' b=(7,0)→¬ b=o.lb:=fun h1 => kmark h1 (hI.clb i o HM.out.ko) (by simp)
 have HWi:=hid (kwith_is (z:=openE k.S y.2 s p mk) (S':=openS k.S y.2 s p mk) (L':=openL k.S y.2 s p mk) hI HOk.out HM.out HLd.out 1 (by omega) (by omega) 152 _ (fun _ _ => rfl)
  (Kp:=fun w' => FileBox w' a o s p mk w.heap.size (w.heap.size+1+1+1+1+1) (w.heap.size+1) (w.heap.size+1+1) (w.heap.size+1+1+1) (w.heap.size+1+1+1+1)∧Kx w') (Kq:=fun w' => BoxAt w' (w.heap.size+1+1+1+1) (.int .i64 (openK k.S y.2 s p mk))∧Kx w') ⟨hb,Hx.out _ _ HKx.out ((((((((Turn.refl (fun _ => False) _).alloc _).alloc _).alloc _).alloc _).alloc _).alloc _).mono (fun _ _ h => h.elim))⟩
  (fun w1 w2 ⟨h1,hk⟩ t => ⟨⟨h1.1.turned t (hlb hC.1),h1.2.1.turned t (hlb hC.2.1),h1.2.2.1.turned t (hlb hC.2.2.1),h1.2.2.2.1.turned t (hlb hC.2.2.2.1),h1.2.2.2.2.1.turned t (hlb hC.2.2.2.2.1),h1.2.2.2.2.2.turned t (hlb hC.2.2.2.2.2)⟩,Hx.out _ _ hk (t.mono (fun j _ e => .inl (by rw [e,H.out.clb i o HM.out.ko]; simp)))⟩)
  (fun w1 w2 ⟨h1,hk⟩ t => ⟨h1.turned t (hlb hC.2.2.2.2.2),Hx.out _ _ hk (t.mono (fun j _ e => .inl (by rw [e,H.out.clb i o HM.out.ko]; simp)))⟩)
  (fun w5 h5 ⟨hb5,hk5⟩ => kfile1_is hk5 (fun w1 w2 h1 t => Hx.out _ _ h1 (t.mono (fun j _ e => e.imp (fun hn h7 => hn (hCk j h7)) (fun e => by omega)))) h5 HOk.out HM.out HLd.out s HSz.out p mk hb5 hC ⟨by omega,by omega,by omega,by omega,by omega⟩))
 have HC:=hid hC
 clear hI hb hC hlb g1 g2 g3 g4 g5 g6 hCk
 refine HWi.out.mono ?_
 rintro e w5 ⟨rfl,hcs⟩
 have HK5x:=hid (show Kx w5 from by
  rcases hcs with ⟨_,_,h2⟩ | ⟨_,_,h2⟩
  ·exact h2.2
  ·exact h2.2)
 obtain ⟨k',hI5,hb5,hok5⟩:∃ k',KIn W w5 a k' C'∧BoxAt w5 (w.heap.size+1+1+1+1) (.int .i64 (fileTo o k.S y.2 s p mk))∧(∀ w6,KIs W w6 a k'→KTo W a k (withE o 1 (openE k.S y.2 s p mk)) (fun k' => k'=fileK k i o y (openS k.S y.2 s p mk) (openL k.S y.2 s p mk) (upd o.u 1 (o.u 1+1))) w6):=by
  rcases hcs with ⟨hlim,h1,h2⟩ | ⟨hlim,h1,h2⟩
  ·refine ⟨_,h1,by rw [show fileTo o k.S y.2 s p mk=0 from if_pos hlim]; exact h2.1.2.2.2.2.2,fun w6 h6 => KTo.no h6 HOk.out ?_⟩
   rw [show withE o 1 (openE k.S y.2 s p mk)=4 from if_pos hlim]; decide
  ·refine ⟨_,h1,by rw [show fileTo o k.S y.2 s p mk=openK k.S y.2 s p mk from if_neg hlim]; exact h2.1,fun w6 h6 => ?_⟩
   rw [show withE o 1 (openE k.S y.2 s p mk)=openE k.S y.2 s p mk from if_neg hlim]
   by_cases hz:openE k.S y.2 s p mk=0
   ·rw [if_pos hz] at h6
    have hf:=(HOk.out.fit i o HM.out.ko).1
    have hlv:=(HOk.out.live i o x y HM.out.ko HM.out.sp HM.out.tab ⟨pid,HM.out.own⟩).2.1
    obtain ⟨hd6,hj6⟩:=joint_open HOk.out.joint HOk.out.dok HTok.out HM.out.tab s p mk
    refine ⟨_,h6,HOk.out.file HM.out hd6 hj6 ⟨upd_other _ _ (by decide),?_,upd_other _ _ (by decide)⟩ (fit_one hf hlim),fun _ => rfl,fun e => absurd hz e⟩
    show upd o.u 1 (o.u 1+1) 1=_
    rw [upd_same,hlv,usedL_open hz HOk.out.dok]
    omega
   ·rw [if_neg hz] at h6
    exact fileK_err HM.out h6 HOk.out (open_err hz).1 (if_neg hz) hz
 have HI5:=hid hI5
 have HO5:=hid hok5
 have r1:=hb5.1
 have r2:=hb5.2
 clear hcs hI5 hb5 hok5
 go_wp2_with fail
 have r3:(w5.setCell ⟨w.heap.size+1+1+1+1,0,none⟩ (.int .i64 (fileTo o k.S y.2 s p mk))).cell? ⟨w.heap.size+1+1+1+1,0,none⟩=some (.int .i64 (fileTo o k.S y.2 s p mk)):=World.cell?_setCell_same _ _ _ r1
 (try simp only [Exit.inBlock,Exit.then])
 refine bodyPost_ret (results_file rfl rfl r3) rfl ?_
 exact ⟨⟨rfl,HO5.out _ ⟨_,HI5.out.seven ((turn_own (w.heap.size+1+1+1+1) _ 0 _).mono (fun j _ e => by rw [e]; exact HC.out.2.2.2.2.2))⟩⟩,Hx.out _ _ HK5x.out ((turn_own (w.heap.size+1+1+1+1) _ 0 _).mono (fun j _ e => .inr (by omega)))⟩
theorem kfile_yes (h:KIn W w a k C) (hok:KOk k) (hm:Mine k pid i o x y) (hLd:Laid W) (s:ByteArray) (hs:s.size < 4294967281) (p:Int) (mk:Bool) :
  Calls Tryz.prog 71 #[.pointer (some ⟨a.kb,0,none⟩),.int .i64 pid,.string s,.int .i64 p,.bool mk] w (fun e w' => KFileTo W a k i o y s p mk e w') :=
 (kfile_keep (Kx:=fun _ => True) trivial (fun _ _ _ _ => trivial) h hok hm hLd s hs p mk).mono fun e w' h => h.1
end
section
variable {W w w' w1:World} {a:KA} {k:KS} {C C':Nat→Nat×Nat} {pid:Int} {i j:Nat} {o o':KO} {x:Spc} {y:Nat×PTab} {S S':PS} {L L' L0:PTab} {ts:List (Nat×PTab)} {tab:Nat} {t':St} {u' v':Nat→Int} {e:PE} {n:Int}
theorem BoxAt.same {b:Nat} {v z:Value} (h:BoxAt w b v):BoxAt (w.setCell ⟨b,0,none⟩ z) b z:=⟨World.cell?_setCell_same _ _ _ h.1,by rw [World.frozen?_setCell]; exact h.2⟩
theorem BoxAt.other {b c:Nat} {v z:Value} (h:BoxAt w b v) (hn:b≠c):BoxAt (w.setCell ⟨c,0,none⟩ z) b v:=h.turned (turn_own c _ 0 _) hn
theorem seven_two {b c:Nat} {v v' z z':Value} (h:KIn W w a k C) (hb:BoxAt w b v) (hc:BoxAt w c v') (h1:C b=(7,0)) (h2:C c=(7,0)) (hn:b≠c) :
  KIn W ((w.setCell ⟨b,0,none⟩ z).setCell ⟨c,0,none⟩ z') a k C∧BoxAt ((w.setCell ⟨b,0,none⟩ z).setCell ⟨c,0,none⟩ z') b z∧BoxAt ((w.setCell ⟨b,0,none⟩ z).setCell ⟨c,0,none⟩ z') c z' :=
 ⟨(h.seven ((turn_own b w 0 z).mono (fun j _ e => by rw [e]; exact h1))).seven ((turn_own c _ 0 z').mono (fun j _ e => by rw [e]; exact h2)),hb.same.other hn,(hc.other (fun e => hn e.symm)).same⟩
def PipeBox (w:World) (a:KA) (o:KO) (bk bo bt bu:Nat):Prop:=BoxAt w bk (.pointer (some ⟨a.kb,0,none⟩))∧BoxAt w bo (.pointer (some ⟨o.ob,0,none⟩))∧BoxAt w bt (.int .i64 0)∧BoxAt w bu (.int .i64 0)
theorem kpipe1_is {bk bo bt bu:Nat} (h:KIn W w a (fileK k i o y k.S y.2 u') C) (hok:KOk k) (hm:Mine k pid i o x y) (hb:PipeBox w a o bk bo bt bu) (hC:C bk=(7,0)∧C bo=(7,0)∧C bt=(7,0)∧C bu=(7,0)) (hN:bt≠bk∧bt≠bo∧bu≠bk∧bu≠bo∧bt≠bu) :
  Calls Tryz.prog 54 #[.pointer (some ⟨bk,0,none⟩),.pointer (some ⟨bo,0,none⟩),.pointer (some ⟨bt,0,none⟩),.pointer (some ⟨bu,0,none⟩)] w (FnDoes W a k i o y (pipeE k.S y.2) (pipedS k.S y.2) (pipedL k.S y.2) u' C (fun w' => BoxAt w' bt (.int .i64 (pipeK1 k.S y.2))∧BoxAt w' bu (.int .i64 (pipeK2 k.S y.2)))):=by
 have hd:=h.drewS
 have hO2:=hd.there hm
 obtain ⟨b1,b2,b3,b4⟩:=hb
 have tw:Turn (fun _ => False) w w.drew:=(Turn.refl _ _).drew
 have q1:=(b1.turned tw id).1
 have q2:=hd.c2
 have q3:=(b2.turned tw id).1
 have q4:=hO2.c1
 have HP:=hid (law_pipe hd.desc hok.dok (mine_file (S':=k.S) (L':=y.2) (u':=u') hm).tab)
 have HD:=hid hd
 have HM:=hid hm
 have HC:=hid hC
 have HB:=hid (show BoxAt w.drew bk _∧BoxAt w.drew bo _∧BoxAt w.drew bt _∧BoxAt w.drew bu _ from ⟨b1.turned tw id,b2.turned tw id,b3.turned tw id,b4.turned tw id⟩)
 have n1:=hN.1
 have n2:=hN.2.1
 have n3:=hN.2.2.1
 have n4:=hN.2.2.2.1
 have n9:=hN.2.2.2.2
 have n5:bt≠a.kb:=kmark hC.2.2.1 h.ckb (by decide)
 have n6:bu≠a.kb:=kmark hC.2.2.2 h.ckb (by decide)
 have h5:=h.cob i _ (mine_file (S':=k.S) (L':=y.2) (u':=u') hm).ko
 have n7:bt≠o.ob:=kmark hC.2.2.1 h5 (by simp)
 have n8:bu≠o.ob:=kmark hC.2.2.2 h5 (by simp)
 clear h hok hm hd hO2 hN b1 b2 b3 b4 tw hC h5
 go_enter Tryz.func54,Tryz.ntmps54
 go_wp2_with fail
 go_region_held3 (fun w' => w'.cell? ⟨bk,0,none⟩=some (.pointer (some ⟨a.kb,0,none⟩))∧w'.cell? ⟨a.kb,2,none⟩=some (.pointer (some ⟨a.fb,0,none⟩))∧w'.cell? ⟨bo,0,none⟩=some (.pointer (some ⟨o.ob,0,none⟩))∧w'.cell? ⟨o.ob,1,none⟩=some (.pointer (some ⟨y.1,0,none⟩)))
  (first | exact ⟨q1,q2,q3,q4⟩ | exact ⟨r1,r2,r3,r4⟩ | (refine ⟨?_,?_,?_,?_⟩ <;> (repeat rw [World.cell?_setCell_other _ _ _ _ (by intro e; injection e with e; omega)]) <;> assumption) | go_keep)
  (first | (go_at_call 55; refine HP.out.mono ?_; rintro e w4 ⟨rfl,hd4⟩; have hI4:=HD.out.fileIn HM.out hd4; have hT4:=hd4.turn; have HI4:=hid hI4; have r2:=hI4.c2; have r4:=(hI4.at_ (mine_file HM.out)).1.c1; have r1:=(HB.out.1.turned hT4 (fun hn => hn (.inr (by rw [HC.out.1]; decide)))).1; have r3:=(HB.out.2.1.turned hT4 (fun hn => hn (.inr (by rw [HC.out.2.1]; decide)))).1; have hb4:=(HB.out.2.2.1.turned hT4 (fun hn => hn (.inr (by rw [HC.out.2.2.1]; decide)))); have hb5:=(HB.out.2.2.2.turned hT4 (fun hn => hn (.inr (by rw [HC.out.2.2.2]; decide)))); have r6:=hb4.1; have r7:=hb4.2; have r8:=hb5.1; have r9:=hb5.2; simp only at r4; clear hd4 hI4 hT4 hb4 hb5))
 all_goals go_wp2_with fail
 all_goals go_returns
 all_goals first
  | (obtain ⟨g1,g2,g3⟩:=seven_two (z:=.int .i64 (pipeK1 k.S y.2)) (z':=.int .i64 (pipeK2 k.S y.2)) HI4.out ⟨r6,r7⟩ ⟨r8,r9⟩ HC.out.2.2.1 HC.out.2.2.2 n9; exact ⟨rfl,g1,g2,g3⟩)
  | (obtain ⟨g1,g2,g3⟩:=seven_two (z:=.int .i64 (pipeK2 k.S y.2)) (z':=.int .i64 (pipeK1 k.S y.2)) HI4.out ⟨r8,r9⟩ ⟨r6,r7⟩ HC.out.2.2.2 HC.out.2.2.1 (Ne.symm n9); exact ⟨rfl,g1,g3,g2⟩)
theorem usedL_pipe (hE:pipeE S L=0) (hp:∀ m,m < 8→0≤(L m).1):usedL (pipedL S L)=usedL L+2:=by
 unfold pipedL
 rw [if_pos hE]
 have hu:¬ (6 < usedL L∨38 < S.es.length):=fun e => by unfold pipeE at hE; rw [if_pos e] at hE; cases hE
 obtain ⟨j,hl,hj,hjz⟩:=least_room hp (by omega)
 have e1:pipeL1 S L=tset L j ((freeE S.es:Int)+1,false):=by unfold pipeL1; rw [show (leastL L).toNat=j by omega]
 have h5:=usedL_set (L:=L) (j:=j) (x:=((freeE S.es:Int)+1,false)) hj
 have h6:usX (L j)=0:=if_neg (by omega)
 have h7:usX ((freeE S.es:Int)+1,false)=1:=if_pos (by show 0 < (freeE S.es:Int)+1; omega)
 rw [← e1] at h5
 have hp1:∀ m,m < 8→0≤(pipeL1 S L m).1:=fun m hm => by
  rw [e1]
  unfold tset
  by_cases h:m=j
  ·rw [if_pos h]; show 0≤(freeE S.es:Int)+1; omega
  ·rw [if_neg h]; exact hp m hm
 obtain ⟨q,hl2,hq,hqz⟩:=least_room hp1 (by omega)
 unfold pipeL2
 rw [show (leastL (pipeL1 S L)).toNat=q by omega]
 have h8:=usedL_set (L:=pipeL1 S L) (j:=q) (x:=((freeE (pipeS1 S).es:Int)+1,false)) hq
 have h9:usX (pipeL1 S L q)=0:=if_neg (by omega)
 have h10:usX ((freeE (pipeS1 S).es:Int)+1,false)=1:=if_pos (by show 0 < (freeE (pipeS1 S).es:Int)+1; omega)
 omega
theorem fit_two (hf:Fit o.u o.m) (hlim:¬ o.m 1 < o.u 1+2):Fit (upd o.u 1 (o.u 1+2)) o.m:=fun j hj => by
 have h3:=hf j hj
 have h4:=hf 1 (by omega)
 by_cases e:j=1
 ·subst e; rw [upd_same]; exact ⟨by omega,by omega,h3.2.2⟩
 ·rw [upd_other _ _ e]; exact h3
theorem pipe_boxes (h:KIn W w a k C) (t1 t2 t3 t4:TypeId) :
  ∃ C',KIn W ((((w.alloc (.cells #[.pointer (some ⟨a.kb,0,none⟩)] t1)).alloc (.cells #[.int .i64 0] t2)).alloc (.cells #[.int .i64 0] t3)).alloc (.cells #[.pointer (some ⟨o.ob,0,none⟩)] t4)) a k C'∧PipeBox ((((w.alloc (.cells #[.pointer (some ⟨a.kb,0,none⟩)] t1)).alloc (.cells #[.int .i64 0] t2)).alloc (.cells #[.int .i64 0] t3)).alloc (.cells #[.pointer (some ⟨o.ob,0,none⟩)] t4)) a o w.heap.size (w.heap.size+1+1+1) (w.heap.size+1) (w.heap.size+1+1)∧C' w.heap.size=(7,0)∧C' (w.heap.size+1+1+1)=(7,0)∧C' (w.heap.size+1)=(7,0)∧C' (w.heap.size+1+1)=(7,0):=by
 refine ⟨markF C (fun j => w.heap.size≤j∧j < w.heap.size+4) (7,0),h.marked (((((Turn.refl _ _).alloc _).alloc _).alloc _).alloc _) _ (fun j hj => ⟨hj.1,by simp only [World.size_alloc]; omega⟩),⟨?_,?_,?_,?_⟩,markF_in ⟨by omega,by omega⟩,markF_in ⟨by omega,by omega⟩,markF_in ⟨by omega,by omega⟩,markF_in ⟨by omega,by omega⟩⟩
 ·exact box_in rfl ((((Turn.refl _ _).alloc _).alloc _).alloc _)
 ·exact box_in (by simp only [World.size_alloc]) (Turn.refl _ _)
 ·exact box_in (by simp only [World.size_alloc]) (((Turn.refl _ _).alloc _).alloc _)
 ·exact box_in (by simp only [World.size_alloc]) ((Turn.refl _ _).alloc _)
theorem results_pipe {tmps:Array Value} {w:World} {b c:Nat} {x y v:Value} (ht:tmps[4]?.getD undef=.pointer (some ⟨b,0,none⟩)) (hu:tmps[5]?.getD undef=.pointer (some ⟨c,0,none⟩)) (hv:tmps[6]?.getD undef=v) (h0:w.cell? ⟨b,0,none⟩=some x) (h1:w.cell? ⟨c,0,none⟩=some y) :
  (results Tryz.f13 tmps).run Tryz.prog w=.ok (.tuple #[x,y,v]) w:=by
 simp [results,Tryz.results13,ht,hu,hv,go_sem,h0,h1]
def pipeTo1 (o:KO) (S:PS) (L:PTab):Int:=if o.m 1 < o.u 1+2 then 0 else pipeK1 S L
def pipeTo2 (o:KO) (S:PS) (L:PTab):Int:=if o.m 1 < o.u 1+2 then 0 else pipeK2 S L
def KPipeTo (W:World) (a:KA) (k:KS) (i:Nat) (o:KO) (y:Nat×PTab) (e:Ending) (w':World):Prop :=
 e=.returned (.tuple #[.int .i64 (pipeTo1 o k.S y.2),.int .i64 (pipeTo2 o k.S y.2),TErr (withE o 2 (pipeE k.S y.2))])∧KTo W a k (withE o 2 (pipeE k.S y.2)) (fun k' => k'=fileK k i o y (pipedS k.S y.2) (pipedL k.S y.2) (upd o.u 1 (o.u 1+2))) w'
theorem kpipe_yes (h:KIn W w a k C) (hok:KOk k) (hm:Mine k pid i o x y) (hLd:Laid W) :
  Calls Tryz.prog 13 #[.pointer (some ⟨a.kb,0,none⟩),.int .i64 pid] w (fun e w' => KPipeTo W a k i o y e w'):=by
 have HW:=hid (fun w' (tt:Turn (fun _ => False) w w') => who_yes (h.still tt) hok hm.own hm.ko)
 have H:=hid h
 have HOk:=hid hok
 have HM:=hid hm
 have HLd:=hid hLd
 clear h hok hm hLd
 go_enter Tryz.func13,Tryz.ntmps13
 go_wp2_with fail
 refine (HW.out _ ?_).mono ?_
 ·exact ((((Turn.refl _ _).alloc _).alloc _).alloc _)
 rintro e w1 ⟨rfl,hw⟩; subst w1
 go_wp2_with fail
 obtain ⟨C',hI,hb,hC⟩:=pipe_boxes (o:=o) H.out 25 3 3 107
 have hlb:∀ {b:Nat},C' b=(7,0)→¬ b=o.lb:=fun h1 => kmark h1 (hI.clb i o HM.out.ko) (by simp)
 have HWi:=hid (kwith_is (z:=pipeE k.S y.2) (S':=pipedS k.S y.2) (L':=pipedL k.S y.2) hI HOk.out HM.out HLd.out 2 (by omega) (by omega) 54 _ (fun _ _ => rfl)
  (Kp:=fun w' => PipeBox w' a o w.heap.size (w.heap.size+1+1+1) (w.heap.size+1) (w.heap.size+1+1)) (Kq:=fun w' => BoxAt w' (w.heap.size+1) (.int .i64 (pipeK1 k.S y.2))∧BoxAt w' (w.heap.size+1+1) (.int .i64 (pipeK2 k.S y.2))) hb
  (fun w1 w2 h1 t => ⟨h1.1.turned t (hlb hC.1),h1.2.1.turned t (hlb hC.2.1),h1.2.2.1.turned t (hlb hC.2.2.1),h1.2.2.2.turned t (hlb hC.2.2.2)⟩)
  (fun w1 w2 h1 t => ⟨h1.1.turned t (hlb hC.2.2.1),h1.2.turned t (hlb hC.2.2.2)⟩)
  (fun w5 h5 hb5 => kpipe1_is h5 HOk.out HM.out hb5 hC ⟨by omega,by omega,by omega,by omega,by omega⟩))
 have HC:=hid hC
 clear hI hb hC hlb
 refine HWi.out.mono ?_
 rintro e w5 ⟨rfl,hcs⟩
 obtain ⟨k',hI5,hb5,hc5,hok5⟩:∃ k',KIn W w5 a k' C'∧BoxAt w5 (w.heap.size+1) (.int .i64 (pipeTo1 o k.S y.2))∧BoxAt w5 (w.heap.size+1+1) (.int .i64 (pipeTo2 o k.S y.2))∧(∀ w6,KIs W w6 a k'→KTo W a k (withE o 2 (pipeE k.S y.2)) (fun k' => k'=fileK k i o y (pipedS k.S y.2) (pipedL k.S y.2) (upd o.u 1 (o.u 1+2))) w6):=by
  rcases hcs with ⟨hlim,h1,h2⟩ | ⟨hlim,h1,h2⟩
  ·refine ⟨_,h1,by rw [show pipeTo1 o k.S y.2=0 from if_pos hlim]; exact h2.2.2.1,by rw [show pipeTo2 o k.S y.2=0 from if_pos hlim]; exact h2.2.2.2,fun w6 h6 => KTo.no h6 HOk.out ?_⟩
   rw [show withE o 2 (pipeE k.S y.2)=4 from if_pos hlim]; decide
  ·refine ⟨_,h1,by rw [show pipeTo1 o k.S y.2=pipeK1 k.S y.2 from if_neg hlim]; exact h2.1,by rw [show pipeTo2 o k.S y.2=pipeK2 k.S y.2 from if_neg hlim]; exact h2.2,fun w6 h6 => ?_⟩
   rw [show withE o 2 (pipeE k.S y.2)=pipeE k.S y.2 from if_neg hlim]
   by_cases hz:pipeE k.S y.2=0
   ·rw [if_pos hz] at h6
    have hf:=(HOk.out.fit i o HM.out.ko).1
    have hlv:=(HOk.out.live i o x y HM.out.ko HM.out.sp HM.out.tab ⟨pid,HM.out.own⟩).2.1
    obtain ⟨hd6,hj6⟩:=joint_pipe HOk.out.joint HOk.out.dok HM.out.tab
    refine ⟨_,h6,HOk.out.file HM.out hd6 hj6 ⟨upd_other _ _ (by decide),?_,upd_other _ _ (by decide)⟩ (fit_two hf hlim),fun _ => rfl,fun e => absurd hz e⟩
    show upd o.u 1 (o.u 1+2) 1=_
    rw [upd_same,hlv,usedL_pipe hz (fun m hm => (HOk.out.joint.pos i _ HM.out.tab m hm).1)]
    omega
   ·rw [if_neg hz] at h6
    exact fileK_err HM.out h6 HOk.out (if_neg hz) (if_neg hz) hz
 have HI5:=hid hI5
 have HO5:=hid hok5
 have r1:=hb5.1
 have r2:=hb5.2
 have r3:=hc5.1
 have r4:=hc5.2
 have HG:=hid (seven_two (z:=.int .i64 (pipeTo1 o k.S y.2)) (z':=.int .i64 (pipeTo2 o k.S y.2)) hI5 hb5 hc5 HC.out.2.2.1 HC.out.2.2.2 (by omega))
 clear hcs hI5 hb5 hc5 hok5 HI5
 go_wp2_with fail
 go_region
 all_goals go_wp2_with fail
 (try simp only [Exit.inBlock,Exit.then])
 have g1:(((w5.setCell ⟨w.heap.size+1,0,none⟩ (.int .i64 (pipeTo1 o k.S y.2))).setCell ⟨w.heap.size+1+1,0,none⟩ (.int .i64 (pipeTo2 o k.S y.2))).drew).cell? ⟨w.heap.size+1,0,none⟩=some (.int .i64 (pipeTo1 o k.S y.2)):=HG.out.2.1.1
 have g2:(((w5.setCell ⟨w.heap.size+1,0,none⟩ (.int .i64 (pipeTo1 o k.S y.2))).setCell ⟨w.heap.size+1+1,0,none⟩ (.int .i64 (pipeTo2 o k.S y.2))).drew).cell? ⟨w.heap.size+1+1,0,none⟩=some (.int .i64 (pipeTo2 o k.S y.2)):=HG.out.2.2.1
 refine bodyPost_ret (results_pipe rfl rfl rfl g1 g2) rfl ?_
 exact ⟨rfl,HO5.out _ ⟨_,HG.out.1.drewS⟩⟩
end
section
variable {W w w' w1:World} {a:KA} {k:KS} {C C':Nat→Nat×Nat} {pid:Int} {i j:Nat} {o o':KO} {x:Spc} {y:Nat×PTab} {S S':PS} {L L' L0:PTab} {ts:List (Nat×PTab)} {tab:Nat} {t':St} {u' u m:Nat→Int} {e:PE} {n to_:Int}
theorem usedL_dup2 (hp:∀ j,j < 8→0≤(L j).1) (hE:dup2E S L n to_=0):(usedL (dup2L S L n to_):Int)=usedL L+(if slotL L to_=none then 1 else 0)∧(slotL L n).isSome=true∧0≤to_∧to_ < 8:=by
 have hE2:=hE
 unfold dup2E at hE2
 cases hx:entL S L n with
 | none => rw [hx] at hE2; cases hE2
 | some z =>
  obtain ⟨k,e⟩:=z
  obtain ⟨g1,g2,g3,g4,_⟩:=entL_slot hx
  have hs:=(entL_some hx).1
  rw [hx] at hE2
  simp only [Option.elim] at hE2
  have ht:0≤to_∧to_ < 8:=by
   by_cases h:to_ < 0∨8≤to_
   ·rw [if_pos h] at hE2; cases hE2
   ·omega
  refine ⟨?_,by rw [hs]; rfl,ht⟩
  by_cases hne:n=to_
  ·subst hne
   have e1:dup2L S L n n=L:=if_neg (fun h => h.2 rfl)
   rw [e1,if_neg (by rw [hs]; simp)]; omega
  ·have e1:dup2L S L n to_=tset (closeL (bumpE S L n) L to_) to_.toNat ((L n.toNat).1,false):=if_pos ⟨hE,hne⟩
   have hjl:to_.toNat < 8:=by omega
   have u1:=usedL_set (L:=closeL (bumpE S L n) L to_) (j:=to_.toNat) (x:=((L n.toNat).1,false)) hjl
   have ux:usX (((L n.toNat).1,false):Int×Bool)=1:=by
    unfold usX
    have:=hp n.toNat (by omega)
    rw [if_pos (by simp only; omega)]
   rw [ux] at u1
   rw [e1]
   cases hs2:slotL L to_ with
   | none =>
    have hz:(L to_.toNat).1=0:=by
     unfold slotL at hs2
     by_cases hz:(L to_.toNat).1=0
     ·exact hz
     ·rw [if_pos ⟨ht.1,ht.2,hz⟩] at hs2; cases hs2
    have e2:closeL (bumpE S L n) L to_=L:=by
     unfold closeL entL
     rw [hs2]; rfl
    rw [e2] at u1 ⊢
    have uz:usX (L to_.toNat)=0:=by unfold usX; rw [if_neg (by omega)]
    rw [uz] at u1
    rw [if_pos rfl]
    omega
   | some k2 =>
    have hz:=(slotL_some hs2).2.2.1
    have uz:usX (L to_.toNat)=1:=by
     unfold usX
     have:=hp to_.toNat hjl
     rw [if_pos (by omega)]
    rw [if_neg (by simp)]
    unfold closeL at u1 ⊢
    cases hx2:entL (bumpE S L n) L to_ with
    | none =>
     rw [hx2] at u1
     simp only [Option.elim] at u1 ⊢
     omega
    | some z2 =>
     rw [hx2] at u1
     simp only [Option.elim] at u1 ⊢
     have u2:=usedL_set (L:=L) (j:=to_.toNat) (x:=(0,false)) hjl
     have u3:usX ((0:Int),false)=0:=rfl
     rw [tset_self,u3] at u1
     rw [uz,u3] at u2
     omega
theorem done_back:done (done u ((1:Int),(1:Int))) ((1:Int),-1)=u:=by
 funext j
 unfold done upd
 by_cases e:j=1
 ·subst e; simp; omega
 ·simp [e]
def dup2KE (o:KO) (S:PS) (L:PTab) (n to_:Int):Int:=if o.m 1 < o.u 1+1∧slotL L to_=none∧slotL L n≠none∧0≤to_∧to_ < 8 then 4 else dup2E S L n to_
def Dup2To (W:World) (a:KA) (k:KS) (i:Nat) (o:KO) (y:Nat×PTab) (n to_:Int) (e:Ending) (w':World):Prop :=
 e=.returned (TErr (dup2KE o k.S y.2 n to_))∧KTo W a k (dup2KE o k.S y.2 n to_) (fun k' => k'=fileK k i o y (dup2S k.S y.2 n to_) (dup2L k.S y.2 n to_) (upd o.u 1 (usedL (dup2L k.S y.2 n to_)))) w'
/-! ### the walk -/
theorem kdup2_room (h:KIn W w a k C) (hok:KOk k) (hm:Mine k pid i o x y) (hLd:Laid W) (n to_:Int) (hlim:¬ o.m 1 < o.u 1+1) :
  Calls Tryz.prog 73 #[.pointer (some ⟨a.kb,0,none⟩),.int .i64 pid,.int .i64 n,.int .i64 to_] w (fun e w' => Dup2To W a k i o y n to_ e w'):=by
 have HW:=hid (who_yes h hok hm.own hm.ko)
 obtain ⟨hO,hL⟩:=h.at_ hm
 have HUs:=hid (used_is (h.desc.tabs i y hm.tab).1)
 have c1:=hO.c1
 have c2:=hO.c2
 have HLg:=hid hL
 have H:=hid h
 have HOk:=hid hok
 have HM:=hid hm
 have HLd:=hid hLd
 have HTok:=hid h.tok
 have HLm:=hid hlim
 have hwy:why o.u o.m ((1:Int),(1:Int))=if 0 < (1:Int)∧o.m 1 < o.u 1+1 then 4 else 0:=why_more (hok.fit i o hm.ko).1 1 (by omega) 1 (by omega) (by omega)
 have HWy1:=hid hwy
 clear h hok hm hLd hlim hO hL hwy
 unfold Dup2To
 go_enter Tryz.func73,Tryz.ntmps73
 go_wp2_with fail
 refine HW.out.mono ?_
 rintro e w1 ⟨rfl,hw⟩; subst w1
 go_wp2_with fail
 refine HUs.out.mono ?_
 rintro e w2 ⟨rfl,t2⟩
 have c2':=(t2.cell (lt_of_cell c2) id).trans c2
 have hcg:=charge_one (kind:=1) (n:=1) (HLg.out.turned t2 id) (HOk.out.fit i o HM.out.ko).1
 unfold Charged1 at hcg
 have HCg:=hid hcg
 have HK2:=hid (H.out.still t2)
 clear hcg t2 c1 c2 HLg
 go_wp2_with fail
 refine HCg.out.mono ?_
 rintro e w5 (⟨_,rfl,hl5,hf5,t5⟩ | ⟨hne,_⟩)
 rotate_left
 ·rw [HWy1.out,if_neg (fun e => by have:=HLm.out; have:=e.2; omega)] at hne; exact absurd rfl hne
 obtain ⟨C5,hK5⟩:=HK2.out.ledger HM.out.ko hl5 t5
 have hm5:Mine { k with os:=k.os.set i { o with u:=done o.u ((1:Int),(1:Int)),m:=o.m } } pid i { o with u:=done o.u ((1:Int),(1:Int)),m:=o.m } x y:=⟨HM.out.own,set_at HM.out.ko,HM.out.sp,HM.out.tab⟩
 have hA5:=hK5.at_ hm5
 have td:Turn (fun _ => False) w5 w5.drew:=(Turn.refl _ _).drew
 have c25:=(td.cell (lt_of_cell hA5.1.c2) id).trans hA5.1.c2
 simp only at c25
 have hl5':=hA5.2.turned td id
 simp only at hl5'
 have hcg2:=charge_one (kind:=1) (n:=-1) hl5' hf5
 unfold Charged1 at hcg2
 have HCg2:=hid hcg2
 have hw2:why (done o.u ((1:Int),(1:Int))) o.m ((1:Int),-1)=0:=by
  refine why_less hf5 1 (by omega) 1 (by omega) ?_
  have h7:=((HOk.out.fit i o HM.out.ko).1 1 (by omega)).1
  have h8:done o.u ((1:Int),(1:Int)) 1=o.u 1+1:=upd_same _ _ _
  omega
 have HWy2:=hid hw2
 have HK5:=hid hK5
 have HM5:=hid hm5
 have HTd:=hid td
 clear hl5 hf5 t5 hK5 hm5 hA5 hl5' hcg2 hw2 c2' td
 go_upto_region 6 with fail
 refine wp_region_held_drew (S:=fun w' => Turn (fun _ => False) w5 w') (by kernel_rfl) ((Turn.refl _ _).drew) (fun hHeld => ?_)
 refine wpAnyH_take (i:=0) (oi:=({ dst:=some 35,op:=Op.move (Operand.tmp 12),type:=27,pos:="files.go:55",after:=#[],guard:=none }:Oper)) (v:=?v0r) rfl (by kernel_rfl) (by kernel_rfl) (by kernel_rfl) (fun _ _ _ h => h) (Or.inl ⟨by rfl,?y0r⟩) (by assumption) ?r0r
 case y0r => ((intro w hSw; (try dsimp only at hSw); go_simp) <;> with_reducible rfl)
 try simp only [Act.put,List.setIfInBounds_toArray,List.set_cons_zero,List.set_cons_succ]
 refine wpAnyH_take (i:=1) (oi:=({ dst:=some 36,op:=Op.binOp BinOp.neq 27 (Operand.tmp 35) (Operand.const Value.nilIface) 27,type:=4,pos:="files.go:55",after:=#[{ on:=0,ground:=Ground.data }],guard:=none }:Oper)) (v:=?v1r) rfl (by kernel_rfl) (by kernel_rfl) (by kernel_rfl) (fun _ _ _ h => h) (Or.inl ⟨by rfl,?y1r⟩) (by assumption) ?r1r
 case y1r => ((intro w hSw; (try dsimp only at hSw); go_simp) <;> with_reducible rfl)
 try simp only [Act.put,List.setIfInBounds_toArray,List.set_cons_zero,List.set_cons_succ]
 refine wpAnyH_take (i:=2) (oi:=({ dst:=some 37,op:=Op.move (Operand.tmp 36),type:=4,pos:="files.go:55",after:=#[{ on:=1,ground:=Ground.data }],guard:=none }:Oper)) (v:=?v2r) rfl (by kernel_rfl) (by kernel_rfl) (by kernel_rfl) (fun _ _ _ h => h) (Or.inl ⟨by rfl,?y2r⟩) (by assumption) ?r2r
 case y2r => ((intro w hSw; (try dsimp only at hSw); go_simp) <;> with_reducible rfl)
 try simp only [Act.put,List.setIfInBounds_toArray,List.set_cons_zero,List.set_cons_succ]
 refine wpAnyH_take (i:=3) (oi:=({ dst:=some 38,op:=Op.move (Operand.tmp 0),type:=25,pos:="files.go:55",after:=#[{ on:=2,ground:=Ground.guard }],guard:=some (2,true) }:Oper)) (v:=undef) rfl (by kernel_rfl) (by kernel_rfl) (by kernel_rfl) (fun _ _ _ h => h) (Or.inr ⟨by rfl,rfl⟩) (by assumption) ?_
 try simp only [Act.put,List.setIfInBounds_toArray,List.set_cons_zero,List.set_cons_succ]
 refine wpAnyH_take (i:=4) (oi:=({ dst:=some 39,op:=Op.nilCheck (Operand.tmp 38),type:=0,pos:="files.go:55",after:=#[{ on:=3,ground:=Ground.data },{ on:=2,ground:=Ground.guard }],guard:=some (2,true) }:Oper)) (v:=undef) rfl (by kernel_rfl) (by kernel_rfl) (by kernel_rfl) (fun _ _ _ h => h) (Or.inr ⟨by rfl,rfl⟩) (by assumption) ?_
 try simp only [Act.put,List.setIfInBounds_toArray,List.set_cons_zero,List.set_cons_succ]
 refine wpAnyH_take (i:=5) (oi:=({ dst:=some 40,op:=Op.fieldAddr 118 (Operand.tmp 39) 2,type:=0,pos:="files.go:55",after:=#[{ on:=4,ground:=Ground.data },{ on:=2,ground:=Ground.guard }],guard:=some (2,true) }:Oper)) (v:=undef) rfl (by kernel_rfl) (by kernel_rfl) (by kernel_rfl) (fun _ _ _ h => h) (Or.inr ⟨by rfl,rfl⟩) (by assumption) ?_
 try simp only [Act.put,List.setIfInBounds_toArray,List.set_cons_zero,List.set_cons_succ]
 refine wpAnyH_take (i:=6) (oi:=({ dst:=some 41,op:=Op.load 96 (Operand.tmp 40),type:=96,pos:="files.go:55",after:=#[{ on:=5,ground:=Ground.data },{ on:=2,ground:=Ground.guard }],guard:=some (2,true) }:Oper)) (v:=undef) rfl (by kernel_rfl) (by kernel_rfl) (by kernel_rfl) (fun _ _ _ h => h) (Or.inr ⟨by rfl,rfl⟩) (by assumption) ?_
 try simp only [Act.put,List.setIfInBounds_toArray,List.set_cons_zero,List.set_cons_succ]
 refine wpAnyH_take (i:=7) (oi:=({ dst:=some 42,op:=Op.move (Operand.tmp 9),type:=107,pos:="files.go:55",after:=#[{ on:=2,ground:=Ground.guard }],guard:=some (2,true) }:Oper)) (v:=undef) rfl (by kernel_rfl) (by kernel_rfl) (by kernel_rfl) (fun _ _ _ h => h) (Or.inr ⟨by rfl,rfl⟩) (by assumption) ?_
 try simp only [Act.put,List.setIfInBounds_toArray,List.set_cons_zero,List.set_cons_succ]
 refine wpAnyH_take (i:=8) (oi:=({ dst:=some 43,op:=Op.nilCheck (Operand.tmp 42),type:=0,pos:="files.go:55",after:=#[{ on:=7,ground:=Ground.data },{ on:=2,ground:=Ground.guard }],guard:=some (2,true) }:Oper)) (v:=undef) rfl (by kernel_rfl) (by kernel_rfl) (by kernel_rfl) (fun _ _ _ h => h) (Or.inr ⟨by rfl,rfl⟩) (by assumption) ?_
 try simp only [Act.put,List.setIfInBounds_toArray,List.set_cons_zero,List.set_cons_succ]
 refine wpAnyH_take (i:=9) (oi:=({ dst:=some 44,op:=Op.fieldAddr 115 (Operand.tmp 43) 1,type:=0,pos:="files.go:55",after:=#[{ on:=8,ground:=Ground.data },{ on:=2,ground:=Ground.guard }],guard:=some (2,true) }:Oper)) (v:=undef) rfl (by kernel_rfl) (by kernel_rfl) (by kernel_rfl) (fun _ _ _ h => h) (Or.inr ⟨by rfl,rfl⟩) (by assumption) ?_
 try simp only [Act.put,List.setIfInBounds_toArray,List.set_cons_zero,List.set_cons_succ]
 refine wpAnyH_take (i:=10) (oi:=({ dst:=some 45,op:=Op.load 108 (Operand.tmp 44),type:=108,pos:="files.go:55",after:=#[{ on:=9,ground:=Ground.data },{ on:=2,ground:=Ground.guard }],guard:=some (2,true) }:Oper)) (v:=undef) rfl (by kernel_rfl) (by kernel_rfl) (by kernel_rfl) (fun _ _ _ h => h) (Or.inr ⟨by rfl,rfl⟩) (by assumption) ?_
 try simp only [Act.put,List.setIfInBounds_toArray,List.set_cons_zero,List.set_cons_succ]
 refine wpAnyH_take (i:=11) (oi:=({ dst:=some 46,op:=Op.move (Operand.tmp 3),type:=3,pos:="files.go:55",after:=#[{ on:=2,ground:=Ground.guard }],guard:=some (2,true) }:Oper)) (v:=undef) rfl (by kernel_rfl) (by kernel_rfl) (by kernel_rfl) (fun _ _ _ h => h) (Or.inr ⟨by rfl,rfl⟩) (by assumption) ?_
 try simp only [Act.put,List.setIfInBounds_toArray,List.set_cons_zero,List.set_cons_succ]
 refine wpAnyH_take (i:=12) (oi:=({ dst:=some 47,op:=Op.call { callee:=Callee.value (Operand.func 156),args:=#[Operand.tmp 41,Operand.tmp 45,Operand.tmp 46],argTypes:=#[96,108,3] },type:=4,pos:="files.go:55",after:=#[{ on:=6,ground:=Ground.data },{ on:=10,ground:=Ground.data },{ on:=11,ground:=Ground.data },{ on:=2,ground:=Ground.chain },{ on:=2,ground:=Ground.guard }],guard:=some (2,true) }:Oper)) (v:=undef) rfl (by kernel_rfl) (by kernel_rfl) (by kernel_rfl) (fun _ _ _ h => h) (Or.inr ⟨by rfl,rfl⟩) (by assumption) ?_
 try simp only [Act.put,List.setIfInBounds_toArray,List.set_cons_zero,List.set_cons_succ]
 refine wpAnyH_take (i:=13) (oi:=({ dst:=some 48,op:=Op.unOp UnOp.not 4 (Operand.tmp 47),type:=4,pos:="files.go:55",after:=#[{ on:=12,ground:=Ground.data },{ on:=2,ground:=Ground.guard }],guard:=some (2,true) }:Oper)) (v:=undef) rfl (by kernel_rfl) (by kernel_rfl) (by kernel_rfl) (fun _ _ _ h => h) (Or.inr ⟨by rfl,rfl⟩) (by assumption) ?_
 try simp only [Act.put,List.setIfInBounds_toArray,List.set_cons_zero,List.set_cons_succ]
 refine wpAnyH_take (i:=14) (oi:=({ dst:=some 49,op:=Op.pick (Operand.tmp 37) (Operand.tmp 48) (Operand.const (Value.bool false)),type:=4,pos:="files.go:55",after:=#[{ on:=2,ground:=Ground.data },{ on:=13,ground:=Ground.data }],guard:=none }:Oper)) (v:=?v14r) rfl (by kernel_rfl) (by kernel_rfl) (by kernel_rfl) (fun _ _ _ h => h) (Or.inl ⟨by rfl,?y14r⟩) (by assumption) ?r14r
 case y14r => ((intro w hSw; (try dsimp only at hSw); go_simp) <;> with_reducible rfl)
 try simp only [Act.put,List.setIfInBounds_toArray,List.set_cons_zero,List.set_cons_succ]
 refine wpAnyH_take (i:=15) (oi:=({ dst:=some 50,op:=Op.move (Operand.tmp 49),type:=4,pos:="files.go:55",after:=#[{ on:=14,ground:=Ground.data },{ on:=12,ground:=Ground.chain }],guard:=none }:Oper)) (v:=?v15r) rfl (by kernel_rfl) (by kernel_rfl) (by kernel_rfl) (fun _ _ _ h => h) (Or.inl ⟨by rfl,?y15r⟩) (by assumption) ?r15r
 case y15r => ((intro w hSw; (try dsimp only at hSw); go_simp) <;> with_reducible rfl)
 try simp only [Act.put,List.setIfInBounds_toArray,List.set_cons_zero,List.set_cons_succ]
 refine wpAnyH_take (i:=16) (oi:=({ dst:=some 51,op:=Op.move (Operand.tmp 0),type:=25,pos:="files.go:55",after:=#[{ on:=15,ground:=Ground.guard }],guard:=some (15,true) }:Oper)) (v:=undef) rfl (by kernel_rfl) (by kernel_rfl) (by kernel_rfl) (fun _ _ _ h => h) (Or.inr ⟨by rfl,rfl⟩) (by assumption) ?_
 try simp only [Act.put,List.setIfInBounds_toArray,List.set_cons_zero,List.set_cons_succ]
 refine wpAnyH_take (i:=17) (oi:=({ dst:=some 52,op:=Op.nilCheck (Operand.tmp 51),type:=0,pos:="files.go:55",after:=#[{ on:=16,ground:=Ground.data },{ on:=15,ground:=Ground.guard }],guard:=some (15,true) }:Oper)) (v:=undef) rfl (by kernel_rfl) (by kernel_rfl) (by kernel_rfl) (fun _ _ _ h => h) (Or.inr ⟨by rfl,rfl⟩) (by assumption) ?_
 try simp only [Act.put,List.setIfInBounds_toArray,List.set_cons_zero,List.set_cons_succ]
 refine wpAnyH_take (i:=18) (oi:=({ dst:=some 53,op:=Op.fieldAddr 118 (Operand.tmp 52) 2,type:=0,pos:="files.go:55",after:=#[{ on:=17,ground:=Ground.data },{ on:=15,ground:=Ground.guard }],guard:=some (15,true) }:Oper)) (v:=undef) rfl (by kernel_rfl) (by kernel_rfl) (by kernel_rfl) (fun _ _ _ h => h) (Or.inr ⟨by rfl,rfl⟩) (by assumption) ?_
 try simp only [Act.put,List.setIfInBounds_toArray,List.set_cons_zero,List.set_cons_succ]
 refine wpAnyH_take (i:=19) (oi:=({ dst:=some 54,op:=Op.load 96 (Operand.tmp 53),type:=96,pos:="files.go:55",after:=#[{ on:=18,ground:=Ground.data },{ on:=15,ground:=Ground.guard }],guard:=some (15,true) }:Oper)) (v:=undef) rfl (by kernel_rfl) (by kernel_rfl) (by kernel_rfl) (fun _ _ _ h => h) (Or.inr ⟨by rfl,rfl⟩) (by assumption) ?_
 try simp only [Act.put,List.setIfInBounds_toArray,List.set_cons_zero,List.set_cons_succ]
 refine wpAnyH_take (i:=20) (oi:=({ dst:=some 55,op:=Op.move (Operand.tmp 9),type:=107,pos:="files.go:55",after:=#[{ on:=15,ground:=Ground.guard }],guard:=some (15,true) }:Oper)) (v:=undef) rfl (by kernel_rfl) (by kernel_rfl) (by kernel_rfl) (fun _ _ _ h => h) (Or.inr ⟨by rfl,rfl⟩) (by assumption) ?_
 try simp only [Act.put,List.setIfInBounds_toArray,List.set_cons_zero,List.set_cons_succ]
 refine wpAnyH_take (i:=21) (oi:=({ dst:=some 56,op:=Op.nilCheck (Operand.tmp 55),type:=0,pos:="files.go:55",after:=#[{ on:=20,ground:=Ground.data },{ on:=15,ground:=Ground.guard }],guard:=some (15,true) }:Oper)) (v:=undef) rfl (by kernel_rfl) (by kernel_rfl) (by kernel_rfl) (fun _ _ _ h => h) (Or.inr ⟨by rfl,rfl⟩) (by assumption) ?_
 try simp only [Act.put,List.setIfInBounds_toArray,List.set_cons_zero,List.set_cons_succ]
 refine wpAnyH_take (i:=22) (oi:=({ dst:=some 57,op:=Op.fieldAddr 115 (Operand.tmp 56) 1,type:=0,pos:="files.go:55",after:=#[{ on:=21,ground:=Ground.data },{ on:=15,ground:=Ground.guard }],guard:=some (15,true) }:Oper)) (v:=undef) rfl (by kernel_rfl) (by kernel_rfl) (by kernel_rfl) (fun _ _ _ h => h) (Or.inr ⟨by rfl,rfl⟩) (by assumption) ?_
 try simp only [Act.put,List.setIfInBounds_toArray,List.set_cons_zero,List.set_cons_succ]
 refine wpAnyH_take (i:=23) (oi:=({ dst:=some 58,op:=Op.load 108 (Operand.tmp 57),type:=108,pos:="files.go:55",after:=#[{ on:=22,ground:=Ground.data },{ on:=15,ground:=Ground.guard }],guard:=some (15,true) }:Oper)) (v:=undef) rfl (by kernel_rfl) (by kernel_rfl) (by kernel_rfl) (fun _ _ _ h => h) (Or.inr ⟨by rfl,rfl⟩) (by assumption) ?_
 try simp only [Act.put,List.setIfInBounds_toArray,List.set_cons_zero,List.set_cons_succ]
 refine wpAnyH_take (i:=24) (oi:=({ dst:=some 59,op:=Op.move (Operand.tmp 2),type:=3,pos:="files.go:55",after:=#[{ on:=15,ground:=Ground.guard }],guard:=some (15,true) }:Oper)) (v:=undef) rfl (by kernel_rfl) (by kernel_rfl) (by kernel_rfl) (fun _ _ _ h => h) (Or.inr ⟨by rfl,rfl⟩) (by assumption) ?_
 try simp only [Act.put,List.setIfInBounds_toArray,List.set_cons_zero,List.set_cons_succ]
 refine wpAnyH_take (i:=25) (oi:=({ dst:=some 60,op:=Op.call { callee:=Callee.value (Operand.func 156),args:=#[Operand.tmp 54,Operand.tmp 58,Operand.tmp 59],argTypes:=#[96,108,3] },type:=4,pos:="files.go:55",after:=#[{ on:=19,ground:=Ground.data },{ on:=23,ground:=Ground.data },{ on:=24,ground:=Ground.data },{ on:=15,ground:=Ground.chain },{ on:=15,ground:=Ground.guard }],guard:=some (15,true) }:Oper)) (v:=undef) rfl (by kernel_rfl) (by kernel_rfl) (by kernel_rfl) (fun _ _ _ h => h) (Or.inr ⟨by rfl,rfl⟩) (by assumption) ?_
 try simp only [Act.put,List.setIfInBounds_toArray,List.set_cons_zero,List.set_cons_succ]
 refine wpAnyH_take (i:=26) (oi:=({ dst:=some 61,op:=Op.pick (Operand.tmp 50) (Operand.tmp 60) (Operand.const (Value.bool false)),type:=4,pos:="files.go:55",after:=#[{ on:=15,ground:=Ground.data },{ on:=25,ground:=Ground.data }],guard:=none }:Oper)) (v:=?v26r) rfl (by kernel_rfl) (by kernel_rfl) (by kernel_rfl) (fun _ _ _ h => h) (Or.inl ⟨by rfl,?y26r⟩) (by assumption) ?r26r
 case y26r => ((intro w hSw; (try dsimp only at hSw); go_simp) <;> with_reducible rfl)
 try simp only [Act.put,List.setIfInBounds_toArray,List.set_cons_zero,List.set_cons_succ]
 refine wpAnyH_take (i:=27) (oi:=({ dst:=some 62,op:=Op.move (Operand.tmp 61),type:=4,pos:="files.go:55",after:=#[{ on:=26,ground:=Ground.data },{ on:=25,ground:=Ground.chain }],guard:=none }:Oper)) (v:=?v27r) rfl (by kernel_rfl) (by kernel_rfl) (by kernel_rfl) (fun _ _ _ h => h) (Or.inl ⟨by rfl,?y27r⟩) (by assumption) ?r27r
 case y27r => ((intro w hSw; (try dsimp only at hSw); go_simp) <;> with_reducible rfl)
 try simp only [Act.put,List.setIfInBounds_toArray,List.set_cons_zero,List.set_cons_succ]
 refine wpAnyH_take (i:=28) (oi:=({ dst:=some 63,op:=Op.move (Operand.tmp 3),type:=3,pos:="files.go:55",after:=#[{ on:=27,ground:=Ground.guard }],guard:=some (27,true) }:Oper)) (v:=undef) rfl (by kernel_rfl) (by kernel_rfl) (by kernel_rfl) (fun _ _ _ h => h) (Or.inr ⟨by rfl,rfl⟩) (by assumption) ?_
 try simp only [Act.put,List.setIfInBounds_toArray,List.set_cons_zero,List.set_cons_succ]
 refine wpAnyH_take (i:=29) (oi:=({ dst:=some 64,op:=Op.binOp BinOp.geq 3 (Operand.tmp 63) (Operand.const (Value.int IntKind.i64 0)) 3,type:=4,pos:="files.go:55",after:=#[{ on:=28,ground:=Ground.data },{ on:=27,ground:=Ground.guard }],guard:=some (27,true) }:Oper)) (v:=undef) rfl (by kernel_rfl) (by kernel_rfl) (by kernel_rfl) (fun _ _ _ h => h) (Or.inr ⟨by rfl,rfl⟩) (by assumption) ?_
 try simp only [Act.put,List.setIfInBounds_toArray,List.set_cons_zero,List.set_cons_succ]
 refine wpAnyH_take (i:=30) (oi:=({ dst:=some 65,op:=Op.pick (Operand.tmp 62) (Operand.tmp 64) (Operand.const (Value.bool false)),type:=4,pos:="files.go:55",after:=#[{ on:=27,ground:=Ground.data },{ on:=29,ground:=Ground.data }],guard:=none }:Oper)) (v:=?v30r) rfl (by kernel_rfl) (by kernel_rfl) (by kernel_rfl) (fun _ _ _ h => h) (Or.inl ⟨by rfl,?y30r⟩) (by assumption) ?r30r
 case y30r => ((intro w hSw; (try dsimp only at hSw); go_simp) <;> with_reducible rfl)
 try simp only [Act.put,List.setIfInBounds_toArray,List.set_cons_zero,List.set_cons_succ]
 refine wpAnyH_take (i:=31) (oi:=({ dst:=some 66,op:=Op.move (Operand.tmp 65),type:=4,pos:="files.go:55",after:=#[{ on:=30,ground:=Ground.data },{ on:=27,ground:=Ground.chain }],guard:=none }:Oper)) (v:=?v31r) rfl (by kernel_rfl) (by kernel_rfl) (by kernel_rfl) (fun _ _ _ h => h) (Or.inl ⟨by rfl,?y31r⟩) (by assumption) ?r31r
 case y31r => ((intro w hSw; (try dsimp only at hSw); go_simp) <;> with_reducible rfl)
 try simp only [Act.put,List.setIfInBounds_toArray,List.set_cons_zero,List.set_cons_succ]
 refine wpAnyH_take (i:=32) (oi:=({ dst:=some 67,op:=Op.move (Operand.tmp 3),type:=3,pos:="files.go:55",after:=#[{ on:=31,ground:=Ground.guard }],guard:=some (31,true) }:Oper)) (v:=undef) rfl (by kernel_rfl) (by kernel_rfl) (by kernel_rfl) (fun _ _ _ h => h) (Or.inr ⟨by rfl,rfl⟩) (by assumption) ?_
 try simp only [Act.put,List.setIfInBounds_toArray,List.set_cons_zero,List.set_cons_succ]
 refine wpAnyH_take (i:=33) (oi:=({ dst:=some 68,op:=Op.binOp BinOp.lss 3 (Operand.tmp 67) (Operand.const (Value.int IntKind.i64 8)) 3,type:=4,pos:="files.go:55",after:=#[{ on:=32,ground:=Ground.data },{ on:=31,ground:=Ground.guard }],guard:=some (31,true) }:Oper)) (v:=undef) rfl (by kernel_rfl) (by kernel_rfl) (by kernel_rfl) (fun _ _ _ h => h) (Or.inr ⟨by rfl,rfl⟩) (by assumption) ?_
 try simp only [Act.put,List.setIfInBounds_toArray,List.set_cons_zero,List.set_cons_succ]
 refine wpAnyH_take (i:=34) (oi:=({ dst:=some 69,op:=Op.pick (Operand.tmp 66) (Operand.tmp 68) (Operand.const (Value.bool false)),type:=4,pos:="files.go:55",after:=#[{ on:=31,ground:=Ground.data },{ on:=33,ground:=Ground.data }],guard:=none }:Oper)) (v:=?v34r) rfl (by kernel_rfl) (by kernel_rfl) (by kernel_rfl) (fun _ _ _ h => h) (Or.inl ⟨by rfl,?y34r⟩) (by assumption) ?r34r
 case y34r => ((intro w hSw; (try dsimp only at hSw); go_simp) <;> with_reducible rfl)
 try simp only [Act.put,List.setIfInBounds_toArray,List.set_cons_zero,List.set_cons_succ]
 refine wpAnyH_done (by kernel_rfl) ?_ _
 go_wp2_with fail
 refine HCg2.out.mono ?_
 rintro e w6 (⟨_,rfl,hl6,hf6,t6⟩ | ⟨hne,_⟩)
 rotate_left
 ·exact absurd HWy2.out hne
 have hK6:=(HK5.out.still HTd.out).ledger HM5.out.ko hl6 t6
 rw [done_back] at hK6
 have e6:({ ({ k with os:=k.os.set i { o with u:=done o.u ((1:Int),(1:Int)),m:=o.m } }:KS) with os:=(k.os.set i { o with u:=done o.u ((1:Int),(1:Int)),m:=o.m }).set i { ({ o with u:=done o.u ((1:Int),(1:Int)),m:=o.m }:KO) with u:=o.u,m:=o.m } }:KS)=k:=by
  simp only [List.set_set]
  rw [show k.os.set i { o with u:=o.u,m:=o.m }=k.os from list_set_same HM.out.ko]
 have hK6:KIs W w6 a k:=by rw [e6] at hK6; exact hK6
 obtain ⟨C6,hK6⟩:=hK6
 have HK6:=hid hK6
 clear hl6 hf6 t6 hK6 e6 c25
 go_wp2_with fail
 have hd6:=HK6.out.drewS
 have hO6:=(hd6.at_ HM.out).1
 have q1:=hO6.c1
 have q2:=hd6.c2
 have HP:=hid (law_dup2 hd6.desc HOk.out.dok HOk.out.joint (by have:=HOk.out.len; omega) HM.out.tab n to_)
 have HD:=hid hd6
 clear hd6 hO6
 obtain ⟨z,hz⟩:∃ z,dup2E k.S y.2 n to_=z:=⟨_,rfl⟩
 rw [hz] at HP
 have HZ:=hid hz
 clear hz
 go_region_held3 (fun w' => w'.cell? ⟨o.ob,1,none⟩=some (.pointer (some ⟨y.1,0,none⟩))∧w'.cell? ⟨a.kb,2,none⟩=some (.pointer (some ⟨a.fb,0,none⟩)))
  (first | exact ⟨q1,q2⟩ | exact ⟨r1,r2⟩ | go_keep)
  (first | (go_at_call 157; refine HP.out.mono ?_; rintro e w7 ⟨rfl,hd7⟩; have hK7:=HD.out.fileStep HM.out hd7; obtain ⟨C7,hI7⟩:=hK7; have HI7:=hid hI7; have r2:=hI7.c2; have hA7:=(hI7.at_ (mine_file HM.out)); have r1:=hA7.1.c1; have r3:=hA7.1.c2; have HL7:=hid hA7.2; simp only at r1 r3; clear hd7 hI7 hA7))
 all_goals
  by_cases h0:z=0
  ·subst h0
   rw [show TErr 0=.nilIface from rfl]
   have hul:=usedL_dup2 (fun j hj => (HOk.out.joint.pos i _ HM.out.tab j hj).1) HZ.out
   have hdn:(dup2KE o k.S y.2 n to_)=0:=by
    unfold dup2KE
    rw [if_neg (by rintro ⟨p1,_⟩; have:=HLm.out; omega)]
    exact HZ.out
   obtain ⟨U,hU⟩:∃ U,usedL (dup2L k.S y.2 n to_)=U:=⟨_,rfl⟩
   have hU8:U≤8:=by rw [← hU]; exact usedL_le _
   have hUs:=used_is ((HI7.out.drewS.desc.tabs i _ (set_at HM.out.tab)).1)
   simp only at hUs
   rw [hU] at hUs hul
   have HUs2:=hid hUs
   have hV:=(HOk.out.live i o x y HM.out.ko HM.out.sp HM.out.tab ⟨pid,HM.out.own⟩).2.1
   have hwy:why o.u o.m ((1:Int),(U:Int) - usedL y.2)=0:=by
    have h1:=why_more (HOk.out.fit i o HM.out.ko).1 1 (by omega) ((U:Int) - usedL y.2) (by rw [hul.1]; split <;> omega) (by omega)
    have h1:why o.u o.m ((1:Int),(U:Int) - usedL y.2)=_:=h1
    rw [h1,if_neg (by
     rintro ⟨p1,p2⟩
     have h5:=hul.1; have:=HLm.out; split at h5 <;> omega)]
   have HWy:=hid hwy
   have HU:=hid hU
   have HV:=hid hV
   have HDn:=hid hdn
   have tw:Turn (fun _ => False) w7 w7.drew:=(Turn.refl _ _).drew
   have s1:=(tw.cell (lt_of_cell r1) id).trans r1
   have s3:=(tw.cell (lt_of_cell r3) id).trans r3
   have HLd7:=hid (HL7.out.turned tw id)
   have HId7:=hid (HI7.out.still tw)
   have hu8:usedL y.2≤8:=usedL_le _
   have hwrap:IntKind.i64.wrap ((U:Int) - usedL y.2)=(U:Int) - usedL y.2:=IntWalk.i64_in _ (by omega)
   clear hul hdn hU hUs hV hwy tw
   go_wp2_with fail
   go_region_held3 (fun w' => w'.cell? ⟨o.ob,1,none⟩=some (.pointer (some ⟨y.1,0,none⟩))∧w'.cell? ⟨o.ob,2,none⟩=some (.pointer (some ⟨o.lb,0,none⟩)))
    (first | exact ⟨s1,s3⟩ | exact ⟨s18,s38⟩ | exact ⟨s19,s39⟩ | go_keep)
    (first
     | (go_at_call 78; refine HUs2.out.mono ?_; rintro e w8 ⟨rfl,t8⟩; have s18:=(t8.cell (lt_of_cell s1) id).trans s1; have s38:=(t8.cell (lt_of_cell s3) id).trans s3; have HI8:=hid (HId7.out.still t8); have HCg8:=hid (charge_one (kind:=1) (n:=(U:Int) - usedL y.2) (HLd7.out.turned t8 id) (HOk.out.fit i o HM.out.ko).1); unfold Charged1 at HCg8; clear t8)
     | (go_at_call 60; refine HCg8.out.mono ?_; rintro e w9 (⟨_,rfl,hl9,hf9,t9⟩ | ⟨hne,_⟩); rotate_left; exact absurd HWy.out hne; have HR9:=hid (HI8.out.fileLed HM.out hl9 t9); have HF9:=hid hf9; have hI8:=HI8.out; have s19:=(t9.cell (lt_of_cell s18) (fun e => kmark (hI8.cob i _ (set_at HM.out.ko)) (hI8.clb i _ (set_at HM.out.ko)) (by simp) e)).trans s18; have s39:=(t9.cell (lt_of_cell s38) (fun e => kmark (hI8.cob i _ (set_at HM.out.ko)) (hI8.clb i _ (set_at HM.out.ko)) (by simp) e)).trans s38; clear hl9 hf9 t9 hI8))
   all_goals go_wp2_with fail
   all_goals go_returns
   all_goals
    have eu:done o.u ((1:Int),(U:Int) - usedL y.2)=upd o.u 1 (U:Int):=by
     unfold done
     simp only [Int.toNat_one]
     rw [HV.out,show (usedL y.2:Int)+((U:Int) - usedL y.2)=U by omega]
    have hr9:=HR9.out
    have hf9:=HF9.out
    rw [eu] at hr9 hf9
    have hjj:=joint_dup2 HOk.out.joint HOk.out.dok (by have:=HOk.out.len; omega) HM.out.tab HTok.out n to_
    rw [← HU.out] at hr9 hf9
    refine ⟨by rw [HDn.out]; rfl,_,hr9,HOk.out.file HM.out hjj.1 hjj.2 ⟨upd_other _ _ (by decide),upd_same _ _ _,upd_other _ _ (by decide)⟩ hf9,fun _ => rfl,fun e => absurd HDn.out e⟩
  ·have he:=dup2_err (L:=y.2) (by rw [HZ.out]; exact h0)
   have HE:=hid he
   have H0:=hid h0
   have hdn:(dup2KE o k.S y.2 n to_)=z:=by
    unfold dup2KE
    rw [if_neg (by rintro ⟨p1,_⟩; have:=HLm.out; omega)]
    exact HZ.out
   have HDn:=hid hdn
   rw [TErr_of h0]
   clear he hdn
   go_wp2_with fail
   go_returns
   rw [show dup2KE o k.S y.2 n to_=z from HDn.out,TErr_of H0.out]
   exact ⟨rfl,fileK_err HM.out ⟨_,HI7.out⟩ HOk.out HE.out.1 HE.out.2 H0.out⟩
theorem kHas_is (h:KIn W w a k C) (hok:KOk k) (hm:Mine k pid i o x y) (q:Int) :
  Calls Tryz.prog 156 #[.pointer (some ⟨a.fb,0,none⟩),.pointer (some ⟨y.1,0,none⟩),.int .i64 q] w fun e w' => e=.returned (.bool (slotL y.2 q).isSome)∧Turn (fun _ => False) w w':=by
 obtain ⟨F,⟨om,B,P,Ft,D,h1,rfl⟩,h2,h3⟩:=h.desc.files
 exact has_is h1 (h.desc.tabs i _ hm.tab).1 (hok.there hm) q
theorem kdup2_full (h:KIn W w a k C) (hok:KOk k) (hm:Mine k pid i o x y) (hLd:Laid W) (n to_:Int) (hlim:o.m 1 < o.u 1+1) :
  Calls Tryz.prog 73 #[.pointer (some ⟨a.kb,0,none⟩),.int .i64 pid,.int .i64 n,.int .i64 to_] w (fun e w' => Dup2To W a k i o y n to_ e w'):=by
 have HW:=hid (who_yes h hok hm.own hm.ko)
 obtain ⟨hO,hL⟩:=h.at_ hm
 have HUs:=hid (used_is (h.desc.tabs i y hm.tab).1)
 have c1:=hO.c1
 have c2:=hO.c2
 have HLg:=hid hL
 have H:=hid h
 have HOk:=hid hok
 have HM:=hid hm
 have HLd:=hid hLd
 have HTok:=hid h.tok
 have HLm:=hid hlim
 have hwy:why o.u o.m ((1:Int),(1:Int))=if 0 < (1:Int)∧o.m 1 < o.u 1+1 then 4 else 0:=why_more (hok.fit i o hm.ko).1 1 (by omega) 1 (by omega) (by omega)
 have HWy1:=hid hwy
 clear h hok hm hLd hlim hO hL hwy
 unfold Dup2To
 go_enter Tryz.func73,Tryz.ntmps73
 go_wp2_with fail
 refine HW.out.mono ?_
 rintro e w1 ⟨rfl,hw⟩; subst w1
 go_wp2_with fail
 refine HUs.out.mono ?_
 rintro e w2 ⟨rfl,t2⟩
 have c2':=(t2.cell (lt_of_cell c2) id).trans c2
 have hcg:=charge_one (kind:=1) (n:=1) (HLg.out.turned t2 id) (HOk.out.fit i o HM.out.ko).1
 unfold Charged1 at hcg
 have HCg:=hid hcg
 have HK2:=hid (H.out.still t2)
 clear hcg t2 c1 c2 HLg
 go_wp2_with fail
 refine HCg.out.mono ?_
 rintro e w5 (⟨h0,_⟩ | ⟨hne,b,rfl,hb,t5,hbf⟩)
 ·rw [HWy1.out,if_pos ⟨(by omega),by have:=HLm.out; omega⟩] at h0; cases h0
 rw [HWy1.out,if_pos ⟨(by omega),by have:=HLm.out; omega⟩] at hb
 have hK5:=HK2.out.still t5
 have HK5:=hid hK5
 have hO5:=(hK5.drewS.at_ HM.out).1
 have m1:=hO5.c1
 have m2:=hK5.drewS.c2
 have HB:=hid hb
 have HHas:=hid (fun w' (tt:Turn (fun _ => False) w5 w') q => kHas_is (HK5.out.still tt) HOk.out HM.out q)
 clear hne hb t5 hbf hK5 hO5 c2'
 obtain ⟨b1,hb1⟩:∃ b1,(slotL y.2 to_).isSome=b1:=⟨_,rfl⟩
 obtain ⟨b2,hb2⟩:∃ b2,(slotL y.2 n).isSome=b2:=⟨_,rfl⟩
 have HHa:=hid (show Calls Tryz.prog 156 #[.pointer (some ⟨a.fb,0,none⟩),.pointer (some ⟨y.1,0,none⟩),.int .i64 to_] w5.drew fun e w'' => e=.returned (.bool b1)∧Turn (fun _ => False) w5.drew w'' from by have h9:=HHas.out w5.drew ((Turn.refl _ _).drew) to_; rw [hb1] at h9; exact h9)
 have HHn:=hid (fun w' (tt:Turn (fun _ => False) w5 w') => show Calls Tryz.prog 156 #[.pointer (some ⟨a.fb,0,none⟩),.pointer (some ⟨y.1,0,none⟩),.int .i64 n] w' fun e w'' => e=.returned (.bool b2)∧Turn (fun _ => False) w' w'' from by have h9:=HHas.out w' tt n; rw [hb2] at h9; exact h9)
 have HB1:=hid hb1
 have HB2:=hid hb2
 clear HHas hb1 hb2
 go_upto_region 6 with fail
 refine wp_region_held_drew (S:=fun w' => Turn (fun _ => False) w5 w'∧w'.cell? ⟨o.ob,1,none⟩=some (.pointer (some ⟨y.1,0,none⟩))∧w'.cell? ⟨a.kb,2,none⟩=some (.pointer (some ⟨a.fb,0,none⟩))) (by kernel_rfl) (⟨(Turn.refl _ _).drew,m1,m2⟩) (fun hHeld => ?_)
 refine wpAnyH_take (i:=0) (oi:=({ dst:=some 35,op:=Op.move (Operand.tmp 12),type:=27,pos:="files.go:55",after:=#[],guard:=none }:Oper)) (v:=?v0a) rfl (by kernel_rfl) (by kernel_rfl) (by kernel_rfl) (fun _ _ _ h => h) (Or.inl ⟨by rfl,?y0a⟩) (by assumption) ?r0a
 case y0a => ((intro w hSw; (try dsimp only at hSw); go_simp) <;> with_reducible rfl)
 try simp only [Act.put,List.setIfInBounds_toArray,List.set_cons_zero,List.set_cons_succ]
 refine wpAnyH_take (i:=1) (oi:=({ dst:=some 36,op:=Op.binOp BinOp.neq 27 (Operand.tmp 35) (Operand.const Value.nilIface) 27,type:=4,pos:="files.go:55",after:=#[{ on:=0,ground:=Ground.data }],guard:=none }:Oper)) (v:=?v1a) rfl (by kernel_rfl) (by kernel_rfl) (by kernel_rfl) (fun _ _ _ h => h) (Or.inl ⟨by rfl,?y1a⟩) (by assumption) ?r1a
 case y1a => ((intro w hSw; (try dsimp only at hSw); go_simp) <;> with_reducible rfl)
 try simp only [Act.put,List.setIfInBounds_toArray,List.set_cons_zero,List.set_cons_succ]
 refine wpAnyH_take (i:=2) (oi:=({ dst:=some 37,op:=Op.move (Operand.tmp 36),type:=4,pos:="files.go:55",after:=#[{ on:=1,ground:=Ground.data }],guard:=none }:Oper)) (v:=?v2a) rfl (by kernel_rfl) (by kernel_rfl) (by kernel_rfl) (fun _ _ _ h => h) (Or.inl ⟨by rfl,?y2a⟩) (by assumption) ?r2a
 case y2a => ((intro w hSw; (try dsimp only at hSw); go_simp) <;> with_reducible rfl)
 try simp only [Act.put,List.setIfInBounds_toArray,List.set_cons_zero,List.set_cons_succ]
 refine wpAnyH_take (i:=3) (oi:=({ dst:=some 38,op:=Op.move (Operand.tmp 0),type:=25,pos:="files.go:55",after:=#[{ on:=2,ground:=Ground.guard }],guard:=some (2,true) }:Oper)) (v:=?v3a) rfl (by kernel_rfl) (by kernel_rfl) (by kernel_rfl) (fun _ _ _ h => h) (Or.inl ⟨by rfl,?y3a⟩) (by assumption) ?r3a
 case y3a => ((intro w hSw; (try dsimp only at hSw); go_simp) <;> with_reducible rfl)
 try simp only [Act.put,List.setIfInBounds_toArray,List.set_cons_zero,List.set_cons_succ]
 refine wpAnyH_take (i:=4) (oi:=({ dst:=some 39,op:=Op.nilCheck (Operand.tmp 38),type:=0,pos:="files.go:55",after:=#[{ on:=3,ground:=Ground.data },{ on:=2,ground:=Ground.guard }],guard:=some (2,true) }:Oper)) (v:=?v4a) rfl (by kernel_rfl) (by kernel_rfl) (by kernel_rfl) (fun _ _ _ h => h) (Or.inl ⟨by rfl,?y4a⟩) (by assumption) ?r4a
 case y4a => ((intro w hSw; (try dsimp only at hSw); go_simp) <;> with_reducible rfl)
 try simp only [Act.put,List.setIfInBounds_toArray,List.set_cons_zero,List.set_cons_succ]
 refine wpAnyH_take (i:=5) (oi:=({ dst:=some 40,op:=Op.fieldAddr 118 (Operand.tmp 39) 2,type:=0,pos:="files.go:55",after:=#[{ on:=4,ground:=Ground.data },{ on:=2,ground:=Ground.guard }],guard:=some (2,true) }:Oper)) (v:=?v5a) rfl (by kernel_rfl) (by kernel_rfl) (by kernel_rfl) (fun _ _ _ h => h) (Or.inl ⟨by rfl,?y5a⟩) (by assumption) ?r5a
 case y5a => ((intro w hSw; (try dsimp only at hSw); go_simp) <;> with_reducible rfl)
 try simp only [Act.put,List.setIfInBounds_toArray,List.set_cons_zero,List.set_cons_succ]
 refine wpAnyH_take (i:=6) (oi:=({ dst:=some 41,op:=Op.load 96 (Operand.tmp 40),type:=96,pos:="files.go:55",after:=#[{ on:=5,ground:=Ground.data },{ on:=2,ground:=Ground.guard }],guard:=some (2,true) }:Oper)) (v:=?v6a) rfl (by kernel_rfl) (by kernel_rfl) (by kernel_rfl) (fun _ _ _ h => h) (Or.inl ⟨by rfl,?y6a⟩) (by assumption) ?r6a
 case y6a => ((intro w hSw; (try dsimp only at hSw); go_simp) <;> with_reducible rfl)
 try simp only [Act.put,List.setIfInBounds_toArray,List.set_cons_zero,List.set_cons_succ]
 refine wpAnyH_take (i:=7) (oi:=({ dst:=some 42,op:=Op.move (Operand.tmp 9),type:=107,pos:="files.go:55",after:=#[{ on:=2,ground:=Ground.guard }],guard:=some (2,true) }:Oper)) (v:=?v7a) rfl (by kernel_rfl) (by kernel_rfl) (by kernel_rfl) (fun _ _ _ h => h) (Or.inl ⟨by rfl,?y7a⟩) (by assumption) ?r7a
 case y7a => ((intro w hSw; (try dsimp only at hSw); go_simp) <;> with_reducible rfl)
 try simp only [Act.put,List.setIfInBounds_toArray,List.set_cons_zero,List.set_cons_succ]
 refine wpAnyH_take (i:=8) (oi:=({ dst:=some 43,op:=Op.nilCheck (Operand.tmp 42),type:=0,pos:="files.go:55",after:=#[{ on:=7,ground:=Ground.data },{ on:=2,ground:=Ground.guard }],guard:=some (2,true) }:Oper)) (v:=?v8a) rfl (by kernel_rfl) (by kernel_rfl) (by kernel_rfl) (fun _ _ _ h => h) (Or.inl ⟨by rfl,?y8a⟩) (by assumption) ?r8a
 case y8a => ((intro w hSw; (try dsimp only at hSw); go_simp) <;> with_reducible rfl)
 try simp only [Act.put,List.setIfInBounds_toArray,List.set_cons_zero,List.set_cons_succ]
 refine wpAnyH_take (i:=9) (oi:=({ dst:=some 44,op:=Op.fieldAddr 115 (Operand.tmp 43) 1,type:=0,pos:="files.go:55",after:=#[{ on:=8,ground:=Ground.data },{ on:=2,ground:=Ground.guard }],guard:=some (2,true) }:Oper)) (v:=?v9a) rfl (by kernel_rfl) (by kernel_rfl) (by kernel_rfl) (fun _ _ _ h => h) (Or.inl ⟨by rfl,?y9a⟩) (by assumption) ?r9a
 case y9a => ((intro w hSw; (try dsimp only at hSw); go_simp) <;> with_reducible rfl)
 try simp only [Act.put,List.setIfInBounds_toArray,List.set_cons_zero,List.set_cons_succ]
 refine wpAnyH_take (i:=10) (oi:=({ dst:=some 45,op:=Op.load 108 (Operand.tmp 44),type:=108,pos:="files.go:55",after:=#[{ on:=9,ground:=Ground.data },{ on:=2,ground:=Ground.guard }],guard:=some (2,true) }:Oper)) (v:=?v10a) rfl (by kernel_rfl) (by kernel_rfl) (by kernel_rfl) (fun _ _ _ h => h) (Or.inl ⟨by rfl,?y10a⟩) (by assumption) ?r10a
 case y10a => ((intro w hSw; (try dsimp only at hSw); go_simp) <;> with_reducible rfl)
 try simp only [Act.put,List.setIfInBounds_toArray,List.set_cons_zero,List.set_cons_succ]
 refine wpAnyH_take (i:=11) (oi:=({ dst:=some 46,op:=Op.move (Operand.tmp 3),type:=3,pos:="files.go:55",after:=#[{ on:=2,ground:=Ground.guard }],guard:=some (2,true) }:Oper)) (v:=?v11a) rfl (by kernel_rfl) (by kernel_rfl) (by kernel_rfl) (fun _ _ _ h => h) (Or.inl ⟨by rfl,?y11a⟩) (by assumption) ?r11a
 case y11a => ((intro w hSw; (try dsimp only at hSw); go_simp) <;> with_reducible rfl)
 try simp only [Act.put,List.setIfInBounds_toArray,List.set_cons_zero,List.set_cons_succ]
 refine wpAnyH_ready (rs:=[12]) (by kernel_rfl) (by simp) ?_
 refine AllReadyH.cons (o:=({ dst:=some 47,op:=Op.call { callee:=Callee.value (Operand.func 156),args:=#[Operand.tmp 41,Operand.tmp 45,Operand.tmp 46],argTypes:=#[96,108,3] },type:=4,pos:="files.go:55",after:=#[{ on:=6,ground:=Ground.data },{ on:=10,ground:=Ground.data },{ on:=11,ground:=Ground.data },{ on:=2,ground:=Ground.chain },{ on:=2,ground:=Ground.guard }],guard:=some (2,true) }:Oper)) rfl (fun K hK => ?_) AllReadyH.nil
 go_simp
 (go_at_call 156; refine HHa.out.mono ?_; rintro e w6 ⟨rfl,t6⟩; have HT6:=hid ((Turn.refl (fun _ => False) w5).drew.trans t6); have m16:=(t6.cell (lt_of_cell m1) id).trans m1; have m26:=(t6.cell (lt_of_cell m2) id).trans m2; clear t6)
 go_wp2_with fail
 refine hK.out _ _ ?_ (fun hHeld => ?_)
 ·exact ⟨HT6.out,m16,m26⟩
 clear hK K
 try simp only [Act.put,List.setIfInBounds_toArray,List.set_cons_zero,List.set_cons_succ]
 refine wpAnyH_take (i:=13) (oi:=({ dst:=some 48,op:=Op.unOp UnOp.not 4 (Operand.tmp 47),type:=4,pos:="files.go:55",after:=#[{ on:=12,ground:=Ground.data },{ on:=2,ground:=Ground.guard }],guard:=some (2,true) }:Oper)) (v:=?v13a) rfl (by kernel_rfl) (by kernel_rfl) (by kernel_rfl) (fun _ _ _ h => h) (Or.inl ⟨by rfl,?y13a⟩) (by assumption) ?r13a
 case y13a => ((intro w hSw; (try dsimp only at hSw); go_simp) <;> with_reducible rfl)
 try simp only [Act.put,List.setIfInBounds_toArray,List.set_cons_zero,List.set_cons_succ]
 refine wpAnyH_take (i:=14) (oi:=({ dst:=some 49,op:=Op.pick (Operand.tmp 37) (Operand.tmp 48) (Operand.const (Value.bool false)),type:=4,pos:="files.go:55",after:=#[{ on:=2,ground:=Ground.data },{ on:=13,ground:=Ground.data }],guard:=none }:Oper)) (v:=?v14a) rfl (by kernel_rfl) (by kernel_rfl) (by kernel_rfl) (fun _ _ _ h => h) (Or.inl ⟨by rfl,?y14a⟩) (by assumption) ?r14a
 case y14a => ((intro w hSw; (try dsimp only at hSw); go_simp) <;> with_reducible rfl)
 try simp only [Act.put,List.setIfInBounds_toArray,List.set_cons_zero,List.set_cons_succ]
 cases b1 with
 | true =>
  have HNC:=hid (show ¬ (o.m 1 < o.u 1+1∧slotL y.2 to_=none∧slotL y.2 n≠none∧0≤to_∧to_ < 8) from fun hc => by have h9:=HB1.out; rw [hc.2.1] at h9; cases h9)
  refine wpAnyH_take (i:=15) (oi:=({ dst:=some 50,op:=Op.move (Operand.tmp 49),type:=4,pos:="files.go:55",after:=#[{ on:=14,ground:=Ground.data },{ on:=12,ground:=Ground.chain }],guard:=none }:Oper)) (v:=?v15b) rfl (by kernel_rfl) (by kernel_rfl) (by kernel_rfl) (fun _ _ _ h => h) (Or.inl ⟨by rfl,?y15b⟩) (by assumption) ?r15b
  case y15b => ((intro w hSw; (try dsimp only at hSw); go_simp) <;> with_reducible rfl)
  try simp only [Act.put,List.setIfInBounds_toArray,List.set_cons_zero,List.set_cons_succ]
  refine wpAnyH_take (i:=16) (oi:=({ dst:=some 51,op:=Op.move (Operand.tmp 0),type:=25,pos:="files.go:55",after:=#[{ on:=15,ground:=Ground.guard }],guard:=some (15,true) }:Oper)) (v:=undef) rfl (by kernel_rfl) (by kernel_rfl) (by kernel_rfl) (fun _ _ _ h => h) (Or.inr ⟨by rfl,rfl⟩) (by assumption) ?_
  try simp only [Act.put,List.setIfInBounds_toArray,List.set_cons_zero,List.set_cons_succ]
  refine wpAnyH_take (i:=17) (oi:=({ dst:=some 52,op:=Op.nilCheck (Operand.tmp 51),type:=0,pos:="files.go:55",after:=#[{ on:=16,ground:=Ground.data },{ on:=15,ground:=Ground.guard }],guard:=some (15,true) }:Oper)) (v:=undef) rfl (by kernel_rfl) (by kernel_rfl) (by kernel_rfl) (fun _ _ _ h => h) (Or.inr ⟨by rfl,rfl⟩) (by assumption) ?_
  try simp only [Act.put,List.setIfInBounds_toArray,List.set_cons_zero,List.set_cons_succ]
  refine wpAnyH_take (i:=18) (oi:=({ dst:=some 53,op:=Op.fieldAddr 118 (Operand.tmp 52) 2,type:=0,pos:="files.go:55",after:=#[{ on:=17,ground:=Ground.data },{ on:=15,ground:=Ground.guard }],guard:=some (15,true) }:Oper)) (v:=undef) rfl (by kernel_rfl) (by kernel_rfl) (by kernel_rfl) (fun _ _ _ h => h) (Or.inr ⟨by rfl,rfl⟩) (by assumption) ?_
  try simp only [Act.put,List.setIfInBounds_toArray,List.set_cons_zero,List.set_cons_succ]
  refine wpAnyH_take (i:=19) (oi:=({ dst:=some 54,op:=Op.load 96 (Operand.tmp 53),type:=96,pos:="files.go:55",after:=#[{ on:=18,ground:=Ground.data },{ on:=15,ground:=Ground.guard }],guard:=some (15,true) }:Oper)) (v:=undef) rfl (by kernel_rfl) (by kernel_rfl) (by kernel_rfl) (fun _ _ _ h => h) (Or.inr ⟨by rfl,rfl⟩) (by assumption) ?_
  try simp only [Act.put,List.setIfInBounds_toArray,List.set_cons_zero,List.set_cons_succ]
  refine wpAnyH_take (i:=20) (oi:=({ dst:=some 55,op:=Op.move (Operand.tmp 9),type:=107,pos:="files.go:55",after:=#[{ on:=15,ground:=Ground.guard }],guard:=some (15,true) }:Oper)) (v:=undef) rfl (by kernel_rfl) (by kernel_rfl) (by kernel_rfl) (fun _ _ _ h => h) (Or.inr ⟨by rfl,rfl⟩) (by assumption) ?_
  try simp only [Act.put,List.setIfInBounds_toArray,List.set_cons_zero,List.set_cons_succ]
  refine wpAnyH_take (i:=21) (oi:=({ dst:=some 56,op:=Op.nilCheck (Operand.tmp 55),type:=0,pos:="files.go:55",after:=#[{ on:=20,ground:=Ground.data },{ on:=15,ground:=Ground.guard }],guard:=some (15,true) }:Oper)) (v:=undef) rfl (by kernel_rfl) (by kernel_rfl) (by kernel_rfl) (fun _ _ _ h => h) (Or.inr ⟨by rfl,rfl⟩) (by assumption) ?_
  try simp only [Act.put,List.setIfInBounds_toArray,List.set_cons_zero,List.set_cons_succ]
  refine wpAnyH_take (i:=22) (oi:=({ dst:=some 57,op:=Op.fieldAddr 115 (Operand.tmp 56) 1,type:=0,pos:="files.go:55",after:=#[{ on:=21,ground:=Ground.data },{ on:=15,ground:=Ground.guard }],guard:=some (15,true) }:Oper)) (v:=undef) rfl (by kernel_rfl) (by kernel_rfl) (by kernel_rfl) (fun _ _ _ h => h) (Or.inr ⟨by rfl,rfl⟩) (by assumption) ?_
  try simp only [Act.put,List.setIfInBounds_toArray,List.set_cons_zero,List.set_cons_succ]
  refine wpAnyH_take (i:=23) (oi:=({ dst:=some 58,op:=Op.load 108 (Operand.tmp 57),type:=108,pos:="files.go:55",after:=#[{ on:=22,ground:=Ground.data },{ on:=15,ground:=Ground.guard }],guard:=some (15,true) }:Oper)) (v:=undef) rfl (by kernel_rfl) (by kernel_rfl) (by kernel_rfl) (fun _ _ _ h => h) (Or.inr ⟨by rfl,rfl⟩) (by assumption) ?_
  try simp only [Act.put,List.setIfInBounds_toArray,List.set_cons_zero,List.set_cons_succ]
  refine wpAnyH_take (i:=24) (oi:=({ dst:=some 59,op:=Op.move (Operand.tmp 2),type:=3,pos:="files.go:55",after:=#[{ on:=15,ground:=Ground.guard }],guard:=some (15,true) }:Oper)) (v:=undef) rfl (by kernel_rfl) (by kernel_rfl) (by kernel_rfl) (fun _ _ _ h => h) (Or.inr ⟨by rfl,rfl⟩) (by assumption) ?_
  try simp only [Act.put,List.setIfInBounds_toArray,List.set_cons_zero,List.set_cons_succ]
  refine wpAnyH_take (i:=25) (oi:=({ dst:=some 60,op:=Op.call { callee:=Callee.value (Operand.func 156),args:=#[Operand.tmp 54,Operand.tmp 58,Operand.tmp 59],argTypes:=#[96,108,3] },type:=4,pos:="files.go:55",after:=#[{ on:=19,ground:=Ground.data },{ on:=23,ground:=Ground.data },{ on:=24,ground:=Ground.data },{ on:=15,ground:=Ground.chain },{ on:=15,ground:=Ground.guard }],guard:=some (15,true) }:Oper)) (v:=undef) rfl (by kernel_rfl) (by kernel_rfl) (by kernel_rfl) (fun _ _ _ h => h) (Or.inr ⟨by rfl,rfl⟩) (by assumption) ?_
  try simp only [Act.put,List.setIfInBounds_toArray,List.set_cons_zero,List.set_cons_succ]
  refine wpAnyH_take (i:=26) (oi:=({ dst:=some 61,op:=Op.pick (Operand.tmp 50) (Operand.tmp 60) (Operand.const (Value.bool false)),type:=4,pos:="files.go:55",after:=#[{ on:=15,ground:=Ground.data },{ on:=25,ground:=Ground.data }],guard:=none }:Oper)) (v:=?v26b) rfl (by kernel_rfl) (by kernel_rfl) (by kernel_rfl) (fun _ _ _ h => h) (Or.inl ⟨by rfl,?y26b⟩) (by assumption) ?r26b
  case y26b => ((intro w hSw; (try dsimp only at hSw); go_simp) <;> with_reducible rfl)
  try simp only [Act.put,List.setIfInBounds_toArray,List.set_cons_zero,List.set_cons_succ]
  refine wpAnyH_take (i:=27) (oi:=({ dst:=some 62,op:=Op.move (Operand.tmp 61),type:=4,pos:="files.go:55",after:=#[{ on:=26,ground:=Ground.data },{ on:=25,ground:=Ground.chain }],guard:=none }:Oper)) (v:=?v27b) rfl (by kernel_rfl) (by kernel_rfl) (by kernel_rfl) (fun _ _ _ h => h) (Or.inl ⟨by rfl,?y27b⟩) (by assumption) ?r27b
  case y27b => ((intro w hSw; (try dsimp only at hSw); go_simp) <;> with_reducible rfl)
  try simp only [Act.put,List.setIfInBounds_toArray,List.set_cons_zero,List.set_cons_succ]
  refine wpAnyH_take (i:=28) (oi:=({ dst:=some 63,op:=Op.move (Operand.tmp 3),type:=3,pos:="files.go:55",after:=#[{ on:=27,ground:=Ground.guard }],guard:=some (27,true) }:Oper)) (v:=undef) rfl (by kernel_rfl) (by kernel_rfl) (by kernel_rfl) (fun _ _ _ h => h) (Or.inr ⟨by rfl,rfl⟩) (by assumption) ?_
  try simp only [Act.put,List.setIfInBounds_toArray,List.set_cons_zero,List.set_cons_succ]
  refine wpAnyH_take (i:=29) (oi:=({ dst:=some 64,op:=Op.binOp BinOp.geq 3 (Operand.tmp 63) (Operand.const (Value.int IntKind.i64 0)) 3,type:=4,pos:="files.go:55",after:=#[{ on:=28,ground:=Ground.data },{ on:=27,ground:=Ground.guard }],guard:=some (27,true) }:Oper)) (v:=undef) rfl (by kernel_rfl) (by kernel_rfl) (by kernel_rfl) (fun _ _ _ h => h) (Or.inr ⟨by rfl,rfl⟩) (by assumption) ?_
  try simp only [Act.put,List.setIfInBounds_toArray,List.set_cons_zero,List.set_cons_succ]
  refine wpAnyH_take (i:=30) (oi:=({ dst:=some 65,op:=Op.pick (Operand.tmp 62) (Operand.tmp 64) (Operand.const (Value.bool false)),type:=4,pos:="files.go:55",after:=#[{ on:=27,ground:=Ground.data },{ on:=29,ground:=Ground.data }],guard:=none }:Oper)) (v:=?v30b) rfl (by kernel_rfl) (by kernel_rfl) (by kernel_rfl) (fun _ _ _ h => h) (Or.inl ⟨by rfl,?y30b⟩) (by assumption) ?r30b
  case y30b => ((intro w hSw; (try dsimp only at hSw); go_simp) <;> with_reducible rfl)
  try simp only [Act.put,List.setIfInBounds_toArray,List.set_cons_zero,List.set_cons_succ]
  refine wpAnyH_take (i:=31) (oi:=({ dst:=some 66,op:=Op.move (Operand.tmp 65),type:=4,pos:="files.go:55",after:=#[{ on:=30,ground:=Ground.data },{ on:=27,ground:=Ground.chain }],guard:=none }:Oper)) (v:=?v31b) rfl (by kernel_rfl) (by kernel_rfl) (by kernel_rfl) (fun _ _ _ h => h) (Or.inl ⟨by rfl,?y31b⟩) (by assumption) ?r31b
  case y31b => ((intro w hSw; (try dsimp only at hSw); go_simp) <;> with_reducible rfl)
  try simp only [Act.put,List.setIfInBounds_toArray,List.set_cons_zero,List.set_cons_succ]
  refine wpAnyH_take (i:=32) (oi:=({ dst:=some 67,op:=Op.move (Operand.tmp 3),type:=3,pos:="files.go:55",after:=#[{ on:=31,ground:=Ground.guard }],guard:=some (31,true) }:Oper)) (v:=undef) rfl (by kernel_rfl) (by kernel_rfl) (by kernel_rfl) (fun _ _ _ h => h) (Or.inr ⟨by rfl,rfl⟩) (by assumption) ?_
  try simp only [Act.put,List.setIfInBounds_toArray,List.set_cons_zero,List.set_cons_succ]
  refine wpAnyH_take (i:=33) (oi:=({ dst:=some 68,op:=Op.binOp BinOp.lss 3 (Operand.tmp 67) (Operand.const (Value.int IntKind.i64 8)) 3,type:=4,pos:="files.go:55",after:=#[{ on:=32,ground:=Ground.data },{ on:=31,ground:=Ground.guard }],guard:=some (31,true) }:Oper)) (v:=undef) rfl (by kernel_rfl) (by kernel_rfl) (by kernel_rfl) (fun _ _ _ h => h) (Or.inr ⟨by rfl,rfl⟩) (by assumption) ?_
  try simp only [Act.put,List.setIfInBounds_toArray,List.set_cons_zero,List.set_cons_succ]
  refine wpAnyH_take (i:=34) (oi:=({ dst:=some 69,op:=Op.pick (Operand.tmp 66) (Operand.tmp 68) (Operand.const (Value.bool false)),type:=4,pos:="files.go:55",after:=#[{ on:=31,ground:=Ground.data },{ on:=33,ground:=Ground.data }],guard:=none }:Oper)) (v:=?v34b) rfl (by kernel_rfl) (by kernel_rfl) (by kernel_rfl) (fun _ _ _ h => h) (Or.inl ⟨by rfl,?y34b⟩) (by assumption) ?r34b
  case y34b => ((intro w hSw; (try dsimp only at hSw); go_simp) <;> with_reducible rfl)
  try simp only [Act.put,List.setIfInBounds_toArray,List.set_cons_zero,List.set_cons_succ]
  refine wpAnyH_done (by kernel_rfl) ?_ _
  have HK6:=hid (HK5.out.still HT6.out)
  clear HB
  go_wp2_with fail
  have hd6:=HK6.out.drewS
  have hO6:=(hd6.at_ HM.out).1
  have q1:=hO6.c1
  have q2:=hd6.c2
  have HP:=hid (law_dup2 hd6.desc HOk.out.dok HOk.out.joint (by have:=HOk.out.len; omega) HM.out.tab n to_)
  have HD:=hid hd6
  clear hd6 hO6
  obtain ⟨z,hz⟩:∃ z,dup2E k.S y.2 n to_=z:=⟨_,rfl⟩
  rw [hz] at HP
  have HZ:=hid hz
  clear hz
  go_region_held3 (fun w' => w'.cell? ⟨o.ob,1,none⟩=some (.pointer (some ⟨y.1,0,none⟩))∧w'.cell? ⟨a.kb,2,none⟩=some (.pointer (some ⟨a.fb,0,none⟩)))
   (first | exact ⟨q1,q2⟩ | exact ⟨r1,r2⟩ | go_keep)
   (first | (go_at_call 157; refine HP.out.mono ?_; rintro e w7 ⟨rfl,hd7⟩; have hK7:=HD.out.fileStep HM.out hd7; obtain ⟨C7,hI7⟩:=hK7; have HI7:=hid hI7; have r2:=hI7.c2; have hA7:=(hI7.at_ (mine_file HM.out)); have r1:=hA7.1.c1; have r3:=hA7.1.c2; have HL7:=hid hA7.2; simp only at r1 r3; clear hd7 hI7 hA7))
  all_goals
   by_cases h0:z=0
   ·subst h0
    rw [show TErr 0=.nilIface from rfl]
    have hul:=usedL_dup2 (fun j hj => (HOk.out.joint.pos i _ HM.out.tab j hj).1) HZ.out
    have hdn:(dup2KE o k.S y.2 n to_)=0:=by
     unfold dup2KE
     rw [if_neg (by exact HNC.out)]
     exact HZ.out
    obtain ⟨U,hU⟩:∃ U,usedL (dup2L k.S y.2 n to_)=U:=⟨_,rfl⟩
    have hU8:U≤8:=by rw [← hU]; exact usedL_le _
    have hUs:=used_is ((HI7.out.drewS.desc.tabs i _ (set_at HM.out.tab)).1)
    simp only at hUs
    rw [hU] at hUs hul
    have HUs2:=hid hUs
    have hV:=(HOk.out.live i o x y HM.out.ko HM.out.sp HM.out.tab ⟨pid,HM.out.own⟩).2.1
    have hwy:why o.u o.m ((1:Int),(U:Int) - usedL y.2)=0:=by
     have h1:=why_more (HOk.out.fit i o HM.out.ko).1 1 (by omega) ((U:Int) - usedL y.2) (by rw [hul.1]; split <;> omega) (by omega)
     have h1:why o.u o.m ((1:Int),(U:Int) - usedL y.2)=_:=h1
     rw [h1,if_neg (by
      rintro ⟨p1,p2⟩
      by_cases h6:slotL y.2 to_=none
      ·exact HNC.out ⟨by have:=HLm.out; omega,h6,(by intro e; have:=hul.2.1; rw [e] at this; cases this),hul.2.2.1,hul.2.2.2⟩
      ·have h5:=hul.1; rw [if_neg h6] at h5; omega)]
    have HWy:=hid hwy
    have HU:=hid hU
    have HV:=hid hV
    have HDn:=hid hdn
    have tw:Turn (fun _ => False) w7 w7.drew:=(Turn.refl _ _).drew
    have s1:=(tw.cell (lt_of_cell r1) id).trans r1
    have s3:=(tw.cell (lt_of_cell r3) id).trans r3
    have HLd7:=hid (HL7.out.turned tw id)
    have HId7:=hid (HI7.out.still tw)
    have hu8:usedL y.2≤8:=usedL_le _
    have hwrap:IntKind.i64.wrap ((U:Int) - usedL y.2)=(U:Int) - usedL y.2:=IntWalk.i64_in _ (by omega)
    clear hul hdn hU hUs hV hwy tw
    go_wp2_with fail
    go_region_held3 (fun w' => w'.cell? ⟨o.ob,1,none⟩=some (.pointer (some ⟨y.1,0,none⟩))∧w'.cell? ⟨o.ob,2,none⟩=some (.pointer (some ⟨o.lb,0,none⟩)))
     (first | exact ⟨s1,s3⟩ | exact ⟨s18,s38⟩ | exact ⟨s19,s39⟩ | go_keep)
     (first
      | (go_at_call 78; refine HUs2.out.mono ?_; rintro e w8 ⟨rfl,t8⟩; have s18:=(t8.cell (lt_of_cell s1) id).trans s1; have s38:=(t8.cell (lt_of_cell s3) id).trans s3; have HI8:=hid (HId7.out.still t8); have HCg8:=hid (charge_one (kind:=1) (n:=(U:Int) - usedL y.2) (HLd7.out.turned t8 id) (HOk.out.fit i o HM.out.ko).1); unfold Charged1 at HCg8; clear t8)
      | (go_at_call 60; refine HCg8.out.mono ?_; rintro e w9 (⟨_,rfl,hl9,hf9,t9⟩ | ⟨hne,_⟩); rotate_left; exact absurd HWy.out hne; have HR9:=hid (HI8.out.fileLed HM.out hl9 t9); have HF9:=hid hf9; have hI8:=HI8.out; have s19:=(t9.cell (lt_of_cell s18) (fun e => kmark (hI8.cob i _ (set_at HM.out.ko)) (hI8.clb i _ (set_at HM.out.ko)) (by simp) e)).trans s18; have s39:=(t9.cell (lt_of_cell s38) (fun e => kmark (hI8.cob i _ (set_at HM.out.ko)) (hI8.clb i _ (set_at HM.out.ko)) (by simp) e)).trans s38; clear hl9 hf9 t9 hI8))
    all_goals go_wp2_with fail
    all_goals go_returns
    all_goals
     have eu:done o.u ((1:Int),(U:Int) - usedL y.2)=upd o.u 1 (U:Int):=by
      unfold done
      simp only [Int.toNat_one]
      rw [HV.out,show (usedL y.2:Int)+((U:Int) - usedL y.2)=U by omega]
     have hr9:=HR9.out
     have hf9:=HF9.out
     rw [eu] at hr9 hf9
     have hjj:=joint_dup2 HOk.out.joint HOk.out.dok (by have:=HOk.out.len; omega) HM.out.tab HTok.out n to_
     rw [← HU.out] at hr9 hf9
     refine ⟨by rw [HDn.out]; rfl,_,hr9,HOk.out.file HM.out hjj.1 hjj.2 ⟨upd_other _ _ (by decide),upd_same _ _ _,upd_other _ _ (by decide)⟩ hf9,fun _ => rfl,fun e => absurd HDn.out e⟩
   ·have he:=dup2_err (L:=y.2) (by rw [HZ.out]; exact h0)
    have HE:=hid he
    have H0:=hid h0
    have hdn:(dup2KE o k.S y.2 n to_)=z:=by
     unfold dup2KE
     rw [if_neg (by exact HNC.out)]
     exact HZ.out
    have HDn:=hid hdn
    rw [TErr_of h0]
    clear he hdn
    go_wp2_with fail
    go_returns
    rw [show dup2KE o k.S y.2 n to_=z from HDn.out,TErr_of H0.out]
    exact ⟨rfl,fileK_err HM.out ⟨_,HI7.out⟩ HOk.out HE.out.1 HE.out.2 H0.out⟩
 | false =>
  refine wpAnyH_take (i:=15) (oi:=({ dst:=some 50,op:=Op.move (Operand.tmp 49),type:=4,pos:="files.go:55",after:=#[{ on:=14,ground:=Ground.data },{ on:=12,ground:=Ground.chain }],guard:=none }:Oper)) (v:=?v15c) rfl (by kernel_rfl) (by kernel_rfl) (by kernel_rfl) (fun _ _ _ h => h) (Or.inl ⟨by rfl,?y15c⟩) (by assumption) ?r15c
  case y15c => ((intro w hSw; (try dsimp only at hSw); go_simp) <;> with_reducible rfl)
  try simp only [Act.put,List.setIfInBounds_toArray,List.set_cons_zero,List.set_cons_succ]
  refine wpAnyH_take (i:=16) (oi:=({ dst:=some 51,op:=Op.move (Operand.tmp 0),type:=25,pos:="files.go:55",after:=#[{ on:=15,ground:=Ground.guard }],guard:=some (15,true) }:Oper)) (v:=?v16c) rfl (by kernel_rfl) (by kernel_rfl) (by kernel_rfl) (fun _ _ _ h => h) (Or.inl ⟨by rfl,?y16c⟩) (by assumption) ?r16c
  case y16c => ((intro w hSw; (try dsimp only at hSw); go_simp) <;> with_reducible rfl)
  try simp only [Act.put,List.setIfInBounds_toArray,List.set_cons_zero,List.set_cons_succ]
  refine wpAnyH_take (i:=17) (oi:=({ dst:=some 52,op:=Op.nilCheck (Operand.tmp 51),type:=0,pos:="files.go:55",after:=#[{ on:=16,ground:=Ground.data },{ on:=15,ground:=Ground.guard }],guard:=some (15,true) }:Oper)) (v:=?v17c) rfl (by kernel_rfl) (by kernel_rfl) (by kernel_rfl) (fun _ _ _ h => h) (Or.inl ⟨by rfl,?y17c⟩) (by assumption) ?r17c
  case y17c => ((intro w hSw; (try dsimp only at hSw); go_simp) <;> with_reducible rfl)
  try simp only [Act.put,List.setIfInBounds_toArray,List.set_cons_zero,List.set_cons_succ]
  refine wpAnyH_take (i:=18) (oi:=({ dst:=some 53,op:=Op.fieldAddr 118 (Operand.tmp 52) 2,type:=0,pos:="files.go:55",after:=#[{ on:=17,ground:=Ground.data },{ on:=15,ground:=Ground.guard }],guard:=some (15,true) }:Oper)) (v:=?v18c) rfl (by kernel_rfl) (by kernel_rfl) (by kernel_rfl) (fun _ _ _ h => h) (Or.inl ⟨by rfl,?y18c⟩) (by assumption) ?r18c
  case y18c => ((intro w hSw; (try dsimp only at hSw); go_simp) <;> with_reducible rfl)
  try simp only [Act.put,List.setIfInBounds_toArray,List.set_cons_zero,List.set_cons_succ]
  refine wpAnyH_take (i:=19) (oi:=({ dst:=some 54,op:=Op.load 96 (Operand.tmp 53),type:=96,pos:="files.go:55",after:=#[{ on:=18,ground:=Ground.data },{ on:=15,ground:=Ground.guard }],guard:=some (15,true) }:Oper)) (v:=?v19c) rfl (by kernel_rfl) (by kernel_rfl) (by kernel_rfl) (fun _ _ _ h => h) (Or.inl ⟨by rfl,?y19c⟩) (by assumption) ?r19c
  case y19c => ((intro w hSw; (try dsimp only at hSw); go_simp) <;> with_reducible rfl)
  try simp only [Act.put,List.setIfInBounds_toArray,List.set_cons_zero,List.set_cons_succ]
  refine wpAnyH_take (i:=20) (oi:=({ dst:=some 55,op:=Op.move (Operand.tmp 9),type:=107,pos:="files.go:55",after:=#[{ on:=15,ground:=Ground.guard }],guard:=some (15,true) }:Oper)) (v:=?v20c) rfl (by kernel_rfl) (by kernel_rfl) (by kernel_rfl) (fun _ _ _ h => h) (Or.inl ⟨by rfl,?y20c⟩) (by assumption) ?r20c
  case y20c => ((intro w hSw; (try dsimp only at hSw); go_simp) <;> with_reducible rfl)
  try simp only [Act.put,List.setIfInBounds_toArray,List.set_cons_zero,List.set_cons_succ]
  refine wpAnyH_take (i:=21) (oi:=({ dst:=some 56,op:=Op.nilCheck (Operand.tmp 55),type:=0,pos:="files.go:55",after:=#[{ on:=20,ground:=Ground.data },{ on:=15,ground:=Ground.guard }],guard:=some (15,true) }:Oper)) (v:=?v21c) rfl (by kernel_rfl) (by kernel_rfl) (by kernel_rfl) (fun _ _ _ h => h) (Or.inl ⟨by rfl,?y21c⟩) (by assumption) ?r21c
  case y21c => ((intro w hSw; (try dsimp only at hSw); go_simp) <;> with_reducible rfl)
  try simp only [Act.put,List.setIfInBounds_toArray,List.set_cons_zero,List.set_cons_succ]
  refine wpAnyH_take (i:=22) (oi:=({ dst:=some 57,op:=Op.fieldAddr 115 (Operand.tmp 56) 1,type:=0,pos:="files.go:55",after:=#[{ on:=21,ground:=Ground.data },{ on:=15,ground:=Ground.guard }],guard:=some (15,true) }:Oper)) (v:=?v22c) rfl (by kernel_rfl) (by kernel_rfl) (by kernel_rfl) (fun _ _ _ h => h) (Or.inl ⟨by rfl,?y22c⟩) (by assumption) ?r22c
  case y22c => ((intro w hSw; (try dsimp only at hSw); go_simp) <;> with_reducible rfl)
  try simp only [Act.put,List.setIfInBounds_toArray,List.set_cons_zero,List.set_cons_succ]
  refine wpAnyH_take (i:=23) (oi:=({ dst:=some 58,op:=Op.load 108 (Operand.tmp 57),type:=108,pos:="files.go:55",after:=#[{ on:=22,ground:=Ground.data },{ on:=15,ground:=Ground.guard }],guard:=some (15,true) }:Oper)) (v:=?v23c) rfl (by kernel_rfl) (by kernel_rfl) (by kernel_rfl) (fun _ _ _ h => h) (Or.inl ⟨by rfl,?y23c⟩) (by assumption) ?r23c
  case y23c => ((intro w hSw; (try dsimp only at hSw); go_simp) <;> with_reducible rfl)
  try simp only [Act.put,List.setIfInBounds_toArray,List.set_cons_zero,List.set_cons_succ]
  refine wpAnyH_take (i:=24) (oi:=({ dst:=some 59,op:=Op.move (Operand.tmp 2),type:=3,pos:="files.go:55",after:=#[{ on:=15,ground:=Ground.guard }],guard:=some (15,true) }:Oper)) (v:=?v24c) rfl (by kernel_rfl) (by kernel_rfl) (by kernel_rfl) (fun _ _ _ h => h) (Or.inl ⟨by rfl,?y24c⟩) (by assumption) ?r24c
  case y24c => ((intro w hSw; (try dsimp only at hSw); go_simp) <;> with_reducible rfl)
  try simp only [Act.put,List.setIfInBounds_toArray,List.set_cons_zero,List.set_cons_succ]
  refine wpAnyH_ready (rs:=[25]) (by kernel_rfl) (by simp) ?_
  refine AllReadyH.cons (o:=({ dst:=some 60,op:=Op.call { callee:=Callee.value (Operand.func 156),args:=#[Operand.tmp 54,Operand.tmp 58,Operand.tmp 59],argTypes:=#[96,108,3] },type:=4,pos:="files.go:55",after:=#[{ on:=19,ground:=Ground.data },{ on:=23,ground:=Ground.data },{ on:=24,ground:=Ground.data },{ on:=15,ground:=Ground.chain },{ on:=15,ground:=Ground.guard }],guard:=some (15,true) }:Oper)) rfl (fun K hK => ?_) AllReadyH.nil
  go_simp
  (go_at_call 156; refine (HHn.out _ HT6.out).mono ?_; rintro e w7 ⟨rfl,t7⟩; have HT7:=hid (HT6.out.trans t7); have m17:=(t7.cell (lt_of_cell m16) id).trans m16; have m27:=(t7.cell (lt_of_cell m26) id).trans m26; clear t7)
  go_wp2_with fail
  refine hK.out _ _ ?_ (fun hHeld => ?_)
  ·exact ⟨HT7.out,m17,m27⟩
  clear hK K
  try simp only [Act.put,List.setIfInBounds_toArray,List.set_cons_zero,List.set_cons_succ]
  refine wpAnyH_take (i:=26) (oi:=({ dst:=some 61,op:=Op.pick (Operand.tmp 50) (Operand.tmp 60) (Operand.const (Value.bool false)),type:=4,pos:="files.go:55",after:=#[{ on:=15,ground:=Ground.data },{ on:=25,ground:=Ground.data }],guard:=none }:Oper)) (v:=?v26c) rfl (by kernel_rfl) (by kernel_rfl) (by kernel_rfl) (fun _ _ _ h => h) (Or.inl ⟨by rfl,?y26c⟩) (by assumption) ?r26c
  case y26c => ((intro w hSw; (try dsimp only at hSw); go_simp) <;> with_reducible rfl)
  try simp only [Act.put,List.setIfInBounds_toArray,List.set_cons_zero,List.set_cons_succ]
  cases b2 with
  | false =>
   have HNC:=hid (show ¬ (o.m 1 < o.u 1+1∧slotL y.2 to_=none∧slotL y.2 n≠none∧0≤to_∧to_ < 8) from fun hc => by
    have h8:=HB2.out
    cases h9:slotL y.2 n with
    | none => exact hc.2.2.1 h9
    | some _ => rw [h9] at h8; cases h8)
   refine wpAnyH_take (i:=27) (oi:=({ dst:=some 62,op:=Op.move (Operand.tmp 61),type:=4,pos:="files.go:55",after:=#[{ on:=26,ground:=Ground.data },{ on:=25,ground:=Ground.chain }],guard:=none }:Oper)) (v:=?v27d) rfl (by kernel_rfl) (by kernel_rfl) (by kernel_rfl) (fun _ _ _ h => h) (Or.inl ⟨by rfl,?y27d⟩) (by assumption) ?r27d
   case y27d => ((intro w hSw; (try dsimp only at hSw); go_simp) <;> with_reducible rfl)
   try simp only [Act.put,List.setIfInBounds_toArray,List.set_cons_zero,List.set_cons_succ]
   refine wpAnyH_take (i:=28) (oi:=({ dst:=some 63,op:=Op.move (Operand.tmp 3),type:=3,pos:="files.go:55",after:=#[{ on:=27,ground:=Ground.guard }],guard:=some (27,true) }:Oper)) (v:=undef) rfl (by kernel_rfl) (by kernel_rfl) (by kernel_rfl) (fun _ _ _ h => h) (Or.inr ⟨by rfl,rfl⟩) (by assumption) ?_
   try simp only [Act.put,List.setIfInBounds_toArray,List.set_cons_zero,List.set_cons_succ]
   refine wpAnyH_take (i:=29) (oi:=({ dst:=some 64,op:=Op.binOp BinOp.geq 3 (Operand.tmp 63) (Operand.const (Value.int IntKind.i64 0)) 3,type:=4,pos:="files.go:55",after:=#[{ on:=28,ground:=Ground.data },{ on:=27,ground:=Ground.guard }],guard:=some (27,true) }:Oper)) (v:=undef) rfl (by kernel_rfl) (by kernel_rfl) (by kernel_rfl) (fun _ _ _ h => h) (Or.inr ⟨by rfl,rfl⟩) (by assumption) ?_
   try simp only [Act.put,List.setIfInBounds_toArray,List.set_cons_zero,List.set_cons_succ]
   refine wpAnyH_take (i:=30) (oi:=({ dst:=some 65,op:=Op.pick (Operand.tmp 62) (Operand.tmp 64) (Operand.const (Value.bool false)),type:=4,pos:="files.go:55",after:=#[{ on:=27,ground:=Ground.data },{ on:=29,ground:=Ground.data }],guard:=none }:Oper)) (v:=?v30d) rfl (by kernel_rfl) (by kernel_rfl) (by kernel_rfl) (fun _ _ _ h => h) (Or.inl ⟨by rfl,?y30d⟩) (by assumption) ?r30d
   case y30d => ((intro w hSw; (try dsimp only at hSw); go_simp) <;> with_reducible rfl)
   try simp only [Act.put,List.setIfInBounds_toArray,List.set_cons_zero,List.set_cons_succ]
   refine wpAnyH_take (i:=31) (oi:=({ dst:=some 66,op:=Op.move (Operand.tmp 65),type:=4,pos:="files.go:55",after:=#[{ on:=30,ground:=Ground.data },{ on:=27,ground:=Ground.chain }],guard:=none }:Oper)) (v:=?v31d) rfl (by kernel_rfl) (by kernel_rfl) (by kernel_rfl) (fun _ _ _ h => h) (Or.inl ⟨by rfl,?y31d⟩) (by assumption) ?r31d
   case y31d => ((intro w hSw; (try dsimp only at hSw); go_simp) <;> with_reducible rfl)
   try simp only [Act.put,List.setIfInBounds_toArray,List.set_cons_zero,List.set_cons_succ]
   refine wpAnyH_take (i:=32) (oi:=({ dst:=some 67,op:=Op.move (Operand.tmp 3),type:=3,pos:="files.go:55",after:=#[{ on:=31,ground:=Ground.guard }],guard:=some (31,true) }:Oper)) (v:=undef) rfl (by kernel_rfl) (by kernel_rfl) (by kernel_rfl) (fun _ _ _ h => h) (Or.inr ⟨by rfl,rfl⟩) (by assumption) ?_
   try simp only [Act.put,List.setIfInBounds_toArray,List.set_cons_zero,List.set_cons_succ]
   refine wpAnyH_take (i:=33) (oi:=({ dst:=some 68,op:=Op.binOp BinOp.lss 3 (Operand.tmp 67) (Operand.const (Value.int IntKind.i64 8)) 3,type:=4,pos:="files.go:55",after:=#[{ on:=32,ground:=Ground.data },{ on:=31,ground:=Ground.guard }],guard:=some (31,true) }:Oper)) (v:=undef) rfl (by kernel_rfl) (by kernel_rfl) (by kernel_rfl) (fun _ _ _ h => h) (Or.inr ⟨by rfl,rfl⟩) (by assumption) ?_
   try simp only [Act.put,List.setIfInBounds_toArray,List.set_cons_zero,List.set_cons_succ]
   refine wpAnyH_take (i:=34) (oi:=({ dst:=some 69,op:=Op.pick (Operand.tmp 66) (Operand.tmp 68) (Operand.const (Value.bool false)),type:=4,pos:="files.go:55",after:=#[{ on:=31,ground:=Ground.data },{ on:=33,ground:=Ground.data }],guard:=none }:Oper)) (v:=?v34d) rfl (by kernel_rfl) (by kernel_rfl) (by kernel_rfl) (fun _ _ _ h => h) (Or.inl ⟨by rfl,?y34d⟩) (by assumption) ?r34d
   case y34d => ((intro w hSw; (try dsimp only at hSw); go_simp) <;> with_reducible rfl)
   try simp only [Act.put,List.setIfInBounds_toArray,List.set_cons_zero,List.set_cons_succ]
   refine wpAnyH_done (by kernel_rfl) ?_ _
   have HK6:=hid (HK5.out.still HT7.out)
   clear HB
   go_wp2_with fail
   have hd6:=HK6.out.drewS
   have hO6:=(hd6.at_ HM.out).1
   have q1:=hO6.c1
   have q2:=hd6.c2
   have HP:=hid (law_dup2 hd6.desc HOk.out.dok HOk.out.joint (by have:=HOk.out.len; omega) HM.out.tab n to_)
   have HD:=hid hd6
   clear hd6 hO6
   obtain ⟨z,hz⟩:∃ z,dup2E k.S y.2 n to_=z:=⟨_,rfl⟩
   rw [hz] at HP
   have HZ:=hid hz
   clear hz
   go_region_held3 (fun w' => w'.cell? ⟨o.ob,1,none⟩=some (.pointer (some ⟨y.1,0,none⟩))∧w'.cell? ⟨a.kb,2,none⟩=some (.pointer (some ⟨a.fb,0,none⟩)))
    (first | exact ⟨q1,q2⟩ | exact ⟨r1,r2⟩ | go_keep)
    (first | (go_at_call 157; refine HP.out.mono ?_; rintro e w7 ⟨rfl,hd7⟩; have hK7:=HD.out.fileStep HM.out hd7; obtain ⟨C7,hI7⟩:=hK7; have HI7:=hid hI7; have r2:=hI7.c2; have hA7:=(hI7.at_ (mine_file HM.out)); have r1:=hA7.1.c1; have r3:=hA7.1.c2; have HL7:=hid hA7.2; simp only at r1 r3; clear hd7 hI7 hA7))
   all_goals
    by_cases h0:z=0
    ·subst h0
     rw [show TErr 0=.nilIface from rfl]
     have hul:=usedL_dup2 (fun j hj => (HOk.out.joint.pos i _ HM.out.tab j hj).1) HZ.out
     have hdn:(dup2KE o k.S y.2 n to_)=0:=by
      unfold dup2KE
      rw [if_neg (by exact HNC.out)]
      exact HZ.out
     obtain ⟨U,hU⟩:∃ U,usedL (dup2L k.S y.2 n to_)=U:=⟨_,rfl⟩
     have hU8:U≤8:=by rw [← hU]; exact usedL_le _
     have hUs:=used_is ((HI7.out.drewS.desc.tabs i _ (set_at HM.out.tab)).1)
     simp only at hUs
     rw [hU] at hUs hul
     have HUs2:=hid hUs
     have hV:=(HOk.out.live i o x y HM.out.ko HM.out.sp HM.out.tab ⟨pid,HM.out.own⟩).2.1
     have hwy:why o.u o.m ((1:Int),(U:Int) - usedL y.2)=0:=by
      have h1:=why_more (HOk.out.fit i o HM.out.ko).1 1 (by omega) ((U:Int) - usedL y.2) (by rw [hul.1]; split <;> omega) (by omega)
      have h1:why o.u o.m ((1:Int),(U:Int) - usedL y.2)=_:=h1
      rw [h1,if_neg (by
       rintro ⟨p1,p2⟩
       by_cases h6:slotL y.2 to_=none
       ·exact HNC.out ⟨by have:=HLm.out; omega,h6,(by intro e; have:=hul.2.1; rw [e] at this; cases this),hul.2.2.1,hul.2.2.2⟩
       ·have h5:=hul.1; rw [if_neg h6] at h5; omega)]
     have HWy:=hid hwy
     have HU:=hid hU
     have HV:=hid hV
     have HDn:=hid hdn
     have tw:Turn (fun _ => False) w7 w7.drew:=(Turn.refl _ _).drew
     have s1:=(tw.cell (lt_of_cell r1) id).trans r1
     have s3:=(tw.cell (lt_of_cell r3) id).trans r3
     have HLd7:=hid (HL7.out.turned tw id)
     have HId7:=hid (HI7.out.still tw)
     have hu8:usedL y.2≤8:=usedL_le _
     have hwrap:IntKind.i64.wrap ((U:Int) - usedL y.2)=(U:Int) - usedL y.2:=IntWalk.i64_in _ (by omega)
     clear hul hdn hU hUs hV hwy tw
     go_wp2_with fail
     go_region_held3 (fun w' => w'.cell? ⟨o.ob,1,none⟩=some (.pointer (some ⟨y.1,0,none⟩))∧w'.cell? ⟨o.ob,2,none⟩=some (.pointer (some ⟨o.lb,0,none⟩)))
      (first | exact ⟨s1,s3⟩ | exact ⟨s18,s38⟩ | exact ⟨s19,s39⟩ | go_keep)
      (first
       | (go_at_call 78; refine HUs2.out.mono ?_; rintro e w8 ⟨rfl,t8⟩; have s18:=(t8.cell (lt_of_cell s1) id).trans s1; have s38:=(t8.cell (lt_of_cell s3) id).trans s3; have HI8:=hid (HId7.out.still t8); have HCg8:=hid (charge_one (kind:=1) (n:=(U:Int) - usedL y.2) (HLd7.out.turned t8 id) (HOk.out.fit i o HM.out.ko).1); unfold Charged1 at HCg8; clear t8)
       | (go_at_call 60; refine HCg8.out.mono ?_; rintro e w9 (⟨_,rfl,hl9,hf9,t9⟩ | ⟨hne,_⟩); rotate_left; exact absurd HWy.out hne; have HR9:=hid (HI8.out.fileLed HM.out hl9 t9); have HF9:=hid hf9; have hI8:=HI8.out; have s19:=(t9.cell (lt_of_cell s18) (fun e => kmark (hI8.cob i _ (set_at HM.out.ko)) (hI8.clb i _ (set_at HM.out.ko)) (by simp) e)).trans s18; have s39:=(t9.cell (lt_of_cell s38) (fun e => kmark (hI8.cob i _ (set_at HM.out.ko)) (hI8.clb i _ (set_at HM.out.ko)) (by simp) e)).trans s38; clear hl9 hf9 t9 hI8))
     all_goals go_wp2_with fail
     all_goals go_returns
     all_goals
      have eu:done o.u ((1:Int),(U:Int) - usedL y.2)=upd o.u 1 (U:Int):=by
       unfold done
       simp only [Int.toNat_one]
       rw [HV.out,show (usedL y.2:Int)+((U:Int) - usedL y.2)=U by omega]
      have hr9:=HR9.out
      have hf9:=HF9.out
      rw [eu] at hr9 hf9
      have hjj:=joint_dup2 HOk.out.joint HOk.out.dok (by have:=HOk.out.len; omega) HM.out.tab HTok.out n to_
      rw [← HU.out] at hr9 hf9
      refine ⟨by rw [HDn.out]; rfl,_,hr9,HOk.out.file HM.out hjj.1 hjj.2 ⟨upd_other _ _ (by decide),upd_same _ _ _,upd_other _ _ (by decide)⟩ hf9,fun _ => rfl,fun e => absurd HDn.out e⟩
    ·have he:=dup2_err (L:=y.2) (by rw [HZ.out]; exact h0)
     have HE:=hid he
     have H0:=hid h0
     have hdn:(dup2KE o k.S y.2 n to_)=z:=by
      unfold dup2KE
      rw [if_neg (by exact HNC.out)]
      exact HZ.out
     have HDn:=hid hdn
     rw [TErr_of h0]
     clear he hdn
     go_wp2_with fail
     go_returns
     rw [show dup2KE o k.S y.2 n to_=z from HDn.out,TErr_of H0.out]
     exact ⟨rfl,fileK_err HM.out ⟨_,HI7.out⟩ HOk.out HE.out.1 HE.out.2 H0.out⟩
  | true =>
   have HS1:=hid (show slotL y.2 to_=none from by
    have h8:=HB1.out
    cases h9:slotL y.2 to_ with
    | none => rfl
    | some _ => rw [h9] at h8; cases h8)
   have HS12:=hid (show slotL y.2 to_=none∧slotL y.2 n≠none from ⟨HS1.out,fun h9 => (by have h8:=HB2.out; rw [h9] at h8; cases h8)⟩)
   by_cases h0:0≤to_
   ·have e1:decide (0≤to_)=true:=decide_eq_true h0
    have e1':decide (to_ ≥ 0)=true:=decide_eq_true h0
    refine wpAnyH_take (i:=27) (oi:=({ dst:=some 62,op:=Op.move (Operand.tmp 61),type:=4,pos:="files.go:55",after:=#[{ on:=26,ground:=Ground.data },{ on:=25,ground:=Ground.chain }],guard:=none }:Oper)) (v:=?v27e) rfl (by kernel_rfl) (by kernel_rfl) (by kernel_rfl) (fun _ _ _ h => h) (Or.inl ⟨by rfl,?y27e⟩) (by assumption) ?r27e
    case y27e => ((intro w hSw; (try dsimp only at hSw); go_simp) <;> with_reducible rfl)
    try simp only [Act.put,List.setIfInBounds_toArray,List.set_cons_zero,List.set_cons_succ]
    refine wpAnyH_take (i:=28) (oi:=({ dst:=some 63,op:=Op.move (Operand.tmp 3),type:=3,pos:="files.go:55",after:=#[{ on:=27,ground:=Ground.guard }],guard:=some (27,true) }:Oper)) (v:=?v28e) rfl (by kernel_rfl) (by kernel_rfl) (by kernel_rfl) (fun _ _ _ h => h) (Or.inl ⟨by rfl,?y28e⟩) (by assumption) ?r28e
    case y28e => ((intro w hSw; (try dsimp only at hSw); go_simp) <;> with_reducible rfl)
    try simp only [Act.put,List.setIfInBounds_toArray,List.set_cons_zero,List.set_cons_succ]
    refine wpAnyH_take (i:=29) (oi:=({ dst:=some 64,op:=Op.binOp BinOp.geq 3 (Operand.tmp 63) (Operand.const (Value.int IntKind.i64 0)) 3,type:=4,pos:="files.go:55",after:=#[{ on:=28,ground:=Ground.data },{ on:=27,ground:=Ground.guard }],guard:=some (27,true) }:Oper)) (v:=?v29e) rfl (by kernel_rfl) (by kernel_rfl) (by kernel_rfl) (fun _ _ _ h => h) (Or.inl ⟨by rfl,?y29e⟩) (by assumption) ?r29e
    case y29e => ((intro w hSw; (try dsimp only at hSw); go_simp) <;> with_reducible rfl)
    try simp only [Act.put,List.setIfInBounds_toArray,List.set_cons_zero,List.set_cons_succ]
    refine wpAnyH_take (i:=30) (oi:=({ dst:=some 65,op:=Op.pick (Operand.tmp 62) (Operand.tmp 64) (Operand.const (Value.bool false)),type:=4,pos:="files.go:55",after:=#[{ on:=27,ground:=Ground.data },{ on:=29,ground:=Ground.data }],guard:=none }:Oper)) (v:=?v30e) rfl (by kernel_rfl) (by kernel_rfl) (by kernel_rfl) (fun _ _ _ h => h) (Or.inl ⟨by rfl,?y30e⟩) (by assumption) ?r30e
    case y30e => ((intro w hSw; (try dsimp only at hSw); go_simp) <;> with_reducible rfl)
    try simp only [Act.put,List.setIfInBounds_toArray,List.set_cons_zero,List.set_cons_succ]
    by_cases h8:to_ < 8
    ·have e2:decide (to_ < 8)=true:=decide_eq_true h8
     have HCn:=hid (show o.m 1 < o.u 1+1∧slotL y.2 to_=none∧slotL y.2 n≠none∧0≤to_∧to_ < 8 from ⟨by have:=HLm.out; omega,HS12.out.1,HS12.out.2,h0,h8⟩)
     clear h0 h8
     refine wpAnyH_take (i:=31) (oi:=({ dst:=some 66,op:=Op.move (Operand.tmp 65),type:=4,pos:="files.go:55",after:=#[{ on:=30,ground:=Ground.data },{ on:=27,ground:=Ground.chain }],guard:=none }:Oper)) (v:=?v31f) rfl (by kernel_rfl) (by kernel_rfl) (by kernel_rfl) (fun _ _ _ h => h) (Or.inl ⟨by rfl,?y31f⟩) (by assumption) ?r31f
     case y31f => ((intro w hSw; (try dsimp only at hSw); go_simp) <;> with_reducible rfl)
     try simp only [Act.put,List.setIfInBounds_toArray,List.set_cons_zero,List.set_cons_succ]
     refine wpAnyH_take (i:=32) (oi:=({ dst:=some 67,op:=Op.move (Operand.tmp 3),type:=3,pos:="files.go:55",after:=#[{ on:=31,ground:=Ground.guard }],guard:=some (31,true) }:Oper)) (v:=?v32f) rfl (by kernel_rfl) (by kernel_rfl) (by kernel_rfl) (fun _ _ _ h => h) (Or.inl ⟨by rfl,?y32f⟩) (by assumption) ?r32f
     case y32f => ((intro w hSw; (try dsimp only at hSw); go_simp) <;> with_reducible rfl)
     try simp only [Act.put,List.setIfInBounds_toArray,List.set_cons_zero,List.set_cons_succ]
     refine wpAnyH_take (i:=33) (oi:=({ dst:=some 68,op:=Op.binOp BinOp.lss 3 (Operand.tmp 67) (Operand.const (Value.int IntKind.i64 8)) 3,type:=4,pos:="files.go:55",after:=#[{ on:=32,ground:=Ground.data },{ on:=31,ground:=Ground.guard }],guard:=some (31,true) }:Oper)) (v:=?v33f) rfl (by kernel_rfl) (by kernel_rfl) (by kernel_rfl) (fun _ _ _ h => h) (Or.inl ⟨by rfl,?y33f⟩) (by assumption) ?r33f
     case y33f => ((intro w hSw; (try dsimp only at hSw); go_simp) <;> with_reducible rfl)
     try simp only [Act.put,List.setIfInBounds_toArray,List.set_cons_zero,List.set_cons_succ]
     refine wpAnyH_take (i:=34) (oi:=({ dst:=some 69,op:=Op.pick (Operand.tmp 66) (Operand.tmp 68) (Operand.const (Value.bool false)),type:=4,pos:="files.go:55",after:=#[{ on:=31,ground:=Ground.data },{ on:=33,ground:=Ground.data }],guard:=none }:Oper)) (v:=?v34f) rfl (by kernel_rfl) (by kernel_rfl) (by kernel_rfl) (fun _ _ _ h => h) (Or.inl ⟨by rfl,?y34f⟩) (by assumption) ?r34f
     case y34f => ((intro w hSw; (try dsimp only at hSw); go_simp) <;> with_reducible rfl)
     try simp only [Act.put,List.setIfInBounds_toArray,List.set_cons_zero,List.set_cons_succ]
     refine wpAnyH_done (by kernel_rfl) ?_ _
     have HBr:=hid (kbare_at 4 b w7 (HLd.out.turned0 (HK5.out.still HT7.out).turn) ((HT7.out.cell (lt_of_cell HB.out) id).trans HB.out))
     have HK7:=hid (HK5.out.still HT7.out)
     have e4:dup2KE o k.S y.2 n to_=4:=if_pos HCn.out
     have HE4:=hid e4
     clear e4
     go_wp2_with fail
     refine HBr.out.mono ?_
     rintro e w8 ⟨rfl,t8⟩
     have HR:=hid (HK7.out.still t8)
     clear t8
     go_wp2_with fail
     go_returns
     rw [HE4.out]
     exact ⟨rfl,KTo.no ⟨_,HR.out⟩ HOk.out (by decide)⟩
    ·have e2:decide (to_ < 8)=false:=decide_eq_false h8
     have HNC:=hid (show ¬ (o.m 1 < o.u 1+1∧slotL y.2 to_=none∧slotL y.2 n≠none∧0≤to_∧to_ < 8) from fun hc => h8 hc.2.2.2.2)
     clear h0 h8
     refine wpAnyH_take (i:=31) (oi:=({ dst:=some 66,op:=Op.move (Operand.tmp 65),type:=4,pos:="files.go:55",after:=#[{ on:=30,ground:=Ground.data },{ on:=27,ground:=Ground.chain }],guard:=none }:Oper)) (v:=?v31g) rfl (by kernel_rfl) (by kernel_rfl) (by kernel_rfl) (fun _ _ _ h => h) (Or.inl ⟨by rfl,?y31g⟩) (by assumption) ?r31g
     case y31g => ((intro w hSw; (try dsimp only at hSw); go_simp) <;> with_reducible rfl)
     try simp only [Act.put,List.setIfInBounds_toArray,List.set_cons_zero,List.set_cons_succ]
     refine wpAnyH_take (i:=32) (oi:=({ dst:=some 67,op:=Op.move (Operand.tmp 3),type:=3,pos:="files.go:55",after:=#[{ on:=31,ground:=Ground.guard }],guard:=some (31,true) }:Oper)) (v:=?v32g) rfl (by kernel_rfl) (by kernel_rfl) (by kernel_rfl) (fun _ _ _ h => h) (Or.inl ⟨by rfl,?y32g⟩) (by assumption) ?r32g
     case y32g => ((intro w hSw; (try dsimp only at hSw); go_simp) <;> with_reducible rfl)
     try simp only [Act.put,List.setIfInBounds_toArray,List.set_cons_zero,List.set_cons_succ]
     refine wpAnyH_take (i:=33) (oi:=({ dst:=some 68,op:=Op.binOp BinOp.lss 3 (Operand.tmp 67) (Operand.const (Value.int IntKind.i64 8)) 3,type:=4,pos:="files.go:55",after:=#[{ on:=32,ground:=Ground.data },{ on:=31,ground:=Ground.guard }],guard:=some (31,true) }:Oper)) (v:=?v33g) rfl (by kernel_rfl) (by kernel_rfl) (by kernel_rfl) (fun _ _ _ h => h) (Or.inl ⟨by rfl,?y33g⟩) (by assumption) ?r33g
     case y33g => ((intro w hSw; (try dsimp only at hSw); go_simp) <;> with_reducible rfl)
     try simp only [Act.put,List.setIfInBounds_toArray,List.set_cons_zero,List.set_cons_succ]
     refine wpAnyH_take (i:=34) (oi:=({ dst:=some 69,op:=Op.pick (Operand.tmp 66) (Operand.tmp 68) (Operand.const (Value.bool false)),type:=4,pos:="files.go:55",after:=#[{ on:=31,ground:=Ground.data },{ on:=33,ground:=Ground.data }],guard:=none }:Oper)) (v:=?v34g) rfl (by kernel_rfl) (by kernel_rfl) (by kernel_rfl) (fun _ _ _ h => h) (Or.inl ⟨by rfl,?y34g⟩) (by assumption) ?r34g
     case y34g => ((intro w hSw; (try dsimp only at hSw); go_simp) <;> with_reducible rfl)
     try simp only [Act.put,List.setIfInBounds_toArray,List.set_cons_zero,List.set_cons_succ]
     refine wpAnyH_done (by kernel_rfl) ?_ _
     have HK6:=hid (HK5.out.still HT7.out)
     clear HB
     go_wp2_with fail
     have hd6:=HK6.out.drewS
     have hO6:=(hd6.at_ HM.out).1
     have q1:=hO6.c1
     have q2:=hd6.c2
     have HP:=hid (law_dup2 hd6.desc HOk.out.dok HOk.out.joint (by have:=HOk.out.len; omega) HM.out.tab n to_)
     have HD:=hid hd6
     clear hd6 hO6
     obtain ⟨z,hz⟩:∃ z,dup2E k.S y.2 n to_=z:=⟨_,rfl⟩
     rw [hz] at HP
     have HZ:=hid hz
     clear hz
     go_region_held3 (fun w' => w'.cell? ⟨o.ob,1,none⟩=some (.pointer (some ⟨y.1,0,none⟩))∧w'.cell? ⟨a.kb,2,none⟩=some (.pointer (some ⟨a.fb,0,none⟩)))
      (first | exact ⟨q1,q2⟩ | exact ⟨r1,r2⟩ | go_keep)
      (first | (go_at_call 157; refine HP.out.mono ?_; rintro e w7 ⟨rfl,hd7⟩; have hK7:=HD.out.fileStep HM.out hd7; obtain ⟨C7,hI7⟩:=hK7; have HI7:=hid hI7; have r2:=hI7.c2; have hA7:=(hI7.at_ (mine_file HM.out)); have r1:=hA7.1.c1; have r3:=hA7.1.c2; have HL7:=hid hA7.2; simp only at r1 r3; clear hd7 hI7 hA7))
     all_goals
      by_cases h0:z=0
      ·subst h0
       rw [show TErr 0=.nilIface from rfl]
       have hul:=usedL_dup2 (fun j hj => (HOk.out.joint.pos i _ HM.out.tab j hj).1) HZ.out
       have hdn:(dup2KE o k.S y.2 n to_)=0:=by
        unfold dup2KE
        rw [if_neg (by exact HNC.out)]
        exact HZ.out
       obtain ⟨U,hU⟩:∃ U,usedL (dup2L k.S y.2 n to_)=U:=⟨_,rfl⟩
       have hU8:U≤8:=by rw [← hU]; exact usedL_le _
       have hUs:=used_is ((HI7.out.drewS.desc.tabs i _ (set_at HM.out.tab)).1)
       simp only at hUs
       rw [hU] at hUs hul
       have HUs2:=hid hUs
       have hV:=(HOk.out.live i o x y HM.out.ko HM.out.sp HM.out.tab ⟨pid,HM.out.own⟩).2.1
       have hwy:why o.u o.m ((1:Int),(U:Int) - usedL y.2)=0:=by
        have h1:=why_more (HOk.out.fit i o HM.out.ko).1 1 (by omega) ((U:Int) - usedL y.2) (by rw [hul.1]; split <;> omega) (by omega)
        have h1:why o.u o.m ((1:Int),(U:Int) - usedL y.2)=_:=h1
        rw [h1,if_neg (by
         rintro ⟨p1,p2⟩
         by_cases h6:slotL y.2 to_=none
         ·exact HNC.out ⟨by have:=HLm.out; omega,h6,(by intro e; have:=hul.2.1; rw [e] at this; cases this),hul.2.2.1,hul.2.2.2⟩
         ·have h5:=hul.1; rw [if_neg h6] at h5; omega)]
       have HWy:=hid hwy
       have HU:=hid hU
       have HV:=hid hV
       have HDn:=hid hdn
       have tw:Turn (fun _ => False) w7 w7.drew:=(Turn.refl _ _).drew
       have s1:=(tw.cell (lt_of_cell r1) id).trans r1
       have s3:=(tw.cell (lt_of_cell r3) id).trans r3
       have HLd7:=hid (HL7.out.turned tw id)
       have HId7:=hid (HI7.out.still tw)
       have hu8:usedL y.2≤8:=usedL_le _
       have hwrap:IntKind.i64.wrap ((U:Int) - usedL y.2)=(U:Int) - usedL y.2:=IntWalk.i64_in _ (by omega)
       clear hul hdn hU hUs hV hwy tw
       go_wp2_with fail
       go_region_held3 (fun w' => w'.cell? ⟨o.ob,1,none⟩=some (.pointer (some ⟨y.1,0,none⟩))∧w'.cell? ⟨o.ob,2,none⟩=some (.pointer (some ⟨o.lb,0,none⟩)))
        (first | exact ⟨s1,s3⟩ | exact ⟨s18,s38⟩ | exact ⟨s19,s39⟩ | go_keep)
        (first
         | (go_at_call 78; refine HUs2.out.mono ?_; rintro e w8 ⟨rfl,t8⟩; have s18:=(t8.cell (lt_of_cell s1) id).trans s1; have s38:=(t8.cell (lt_of_cell s3) id).trans s3; have HI8:=hid (HId7.out.still t8); have HCg8:=hid (charge_one (kind:=1) (n:=(U:Int) - usedL y.2) (HLd7.out.turned t8 id) (HOk.out.fit i o HM.out.ko).1); unfold Charged1 at HCg8; clear t8)
         | (go_at_call 60; refine HCg8.out.mono ?_; rintro e w9 (⟨_,rfl,hl9,hf9,t9⟩ | ⟨hne,_⟩); rotate_left; exact absurd HWy.out hne; have HR9:=hid (HI8.out.fileLed HM.out hl9 t9); have HF9:=hid hf9; have hI8:=HI8.out; have s19:=(t9.cell (lt_of_cell s18) (fun e => kmark (hI8.cob i _ (set_at HM.out.ko)) (hI8.clb i _ (set_at HM.out.ko)) (by simp) e)).trans s18; have s39:=(t9.cell (lt_of_cell s38) (fun e => kmark (hI8.cob i _ (set_at HM.out.ko)) (hI8.clb i _ (set_at HM.out.ko)) (by simp) e)).trans s38; clear hl9 hf9 t9 hI8))
       all_goals go_wp2_with fail
       all_goals go_returns
       all_goals
        have eu:done o.u ((1:Int),(U:Int) - usedL y.2)=upd o.u 1 (U:Int):=by
         unfold done
         simp only [Int.toNat_one]
         rw [HV.out,show (usedL y.2:Int)+((U:Int) - usedL y.2)=U by omega]
        have hr9:=HR9.out
        have hf9:=HF9.out
        rw [eu] at hr9 hf9
        have hjj:=joint_dup2 HOk.out.joint HOk.out.dok (by have:=HOk.out.len; omega) HM.out.tab HTok.out n to_
        rw [← HU.out] at hr9 hf9
        refine ⟨by rw [HDn.out]; rfl,_,hr9,HOk.out.file HM.out hjj.1 hjj.2 ⟨upd_other _ _ (by decide),upd_same _ _ _,upd_other _ _ (by decide)⟩ hf9,fun _ => rfl,fun e => absurd HDn.out e⟩
      ·have he:=dup2_err (L:=y.2) (by rw [HZ.out]; exact h0)
       have HE:=hid he
       have H0:=hid h0
       have hdn:(dup2KE o k.S y.2 n to_)=z:=by
        unfold dup2KE
        rw [if_neg (by exact HNC.out)]
        exact HZ.out
       have HDn:=hid hdn
       rw [TErr_of h0]
       clear he hdn
       go_wp2_with fail
       go_returns
       rw [show dup2KE o k.S y.2 n to_=z from HDn.out,TErr_of H0.out]
       exact ⟨rfl,fileK_err HM.out ⟨_,HI7.out⟩ HOk.out HE.out.1 HE.out.2 H0.out⟩
   ·have e1:decide (0≤to_)=false:=decide_eq_false h0
    have e1':decide (to_ ≥ 0)=false:=decide_eq_false h0
    have HNC:=hid (show ¬ (o.m 1 < o.u 1+1∧slotL y.2 to_=none∧slotL y.2 n≠none∧0≤to_∧to_ < 8) from fun hc => h0 hc.2.2.2.1)
    clear h0
    refine wpAnyH_take (i:=27) (oi:=({ dst:=some 62,op:=Op.move (Operand.tmp 61),type:=4,pos:="files.go:55",after:=#[{ on:=26,ground:=Ground.data },{ on:=25,ground:=Ground.chain }],guard:=none }:Oper)) (v:=?v27h) rfl (by kernel_rfl) (by kernel_rfl) (by kernel_rfl) (fun _ _ _ h => h) (Or.inl ⟨by rfl,?y27h⟩) (by assumption) ?r27h
    case y27h => ((intro w hSw; (try dsimp only at hSw); go_simp) <;> with_reducible rfl)
    try simp only [Act.put,List.setIfInBounds_toArray,List.set_cons_zero,List.set_cons_succ]
    refine wpAnyH_take (i:=28) (oi:=({ dst:=some 63,op:=Op.move (Operand.tmp 3),type:=3,pos:="files.go:55",after:=#[{ on:=27,ground:=Ground.guard }],guard:=some (27,true) }:Oper)) (v:=?v28h) rfl (by kernel_rfl) (by kernel_rfl) (by kernel_rfl) (fun _ _ _ h => h) (Or.inl ⟨by rfl,?y28h⟩) (by assumption) ?r28h
    case y28h => ((intro w hSw; (try dsimp only at hSw); go_simp) <;> with_reducible rfl)
    try simp only [Act.put,List.setIfInBounds_toArray,List.set_cons_zero,List.set_cons_succ]
    refine wpAnyH_take (i:=29) (oi:=({ dst:=some 64,op:=Op.binOp BinOp.geq 3 (Operand.tmp 63) (Operand.const (Value.int IntKind.i64 0)) 3,type:=4,pos:="files.go:55",after:=#[{ on:=28,ground:=Ground.data },{ on:=27,ground:=Ground.guard }],guard:=some (27,true) }:Oper)) (v:=?v29h) rfl (by kernel_rfl) (by kernel_rfl) (by kernel_rfl) (fun _ _ _ h => h) (Or.inl ⟨by rfl,?y29h⟩) (by assumption) ?r29h
    case y29h => ((intro w hSw; (try dsimp only at hSw); go_simp) <;> with_reducible rfl)
    try simp only [Act.put,List.setIfInBounds_toArray,List.set_cons_zero,List.set_cons_succ]
    refine wpAnyH_take (i:=30) (oi:=({ dst:=some 65,op:=Op.pick (Operand.tmp 62) (Operand.tmp 64) (Operand.const (Value.bool false)),type:=4,pos:="files.go:55",after:=#[{ on:=27,ground:=Ground.data },{ on:=29,ground:=Ground.data }],guard:=none }:Oper)) (v:=?v30h) rfl (by kernel_rfl) (by kernel_rfl) (by kernel_rfl) (fun _ _ _ h => h) (Or.inl ⟨by rfl,?y30h⟩) (by assumption) ?r30h
    case y30h => ((intro w hSw; (try dsimp only at hSw); go_simp) <;> with_reducible rfl)
    try simp only [Act.put,List.setIfInBounds_toArray,List.set_cons_zero,List.set_cons_succ]
    refine wpAnyH_take (i:=31) (oi:=({ dst:=some 66,op:=Op.move (Operand.tmp 65),type:=4,pos:="files.go:55",after:=#[{ on:=30,ground:=Ground.data },{ on:=27,ground:=Ground.chain }],guard:=none }:Oper)) (v:=?v31h) rfl (by kernel_rfl) (by kernel_rfl) (by kernel_rfl) (fun _ _ _ h => h) (Or.inl ⟨by rfl,?y31h⟩) (by assumption) ?r31h
    case y31h => ((intro w hSw; (try dsimp only at hSw); go_simp) <;> with_reducible rfl)
    try simp only [Act.put,List.setIfInBounds_toArray,List.set_cons_zero,List.set_cons_succ]
    refine wpAnyH_take (i:=32) (oi:=({ dst:=some 67,op:=Op.move (Operand.tmp 3),type:=3,pos:="files.go:55",after:=#[{ on:=31,ground:=Ground.guard }],guard:=some (31,true) }:Oper)) (v:=undef) rfl (by kernel_rfl) (by kernel_rfl) (by kernel_rfl) (fun _ _ _ h => h) (Or.inr ⟨by rfl,rfl⟩) (by assumption) ?_
    try simp only [Act.put,List.setIfInBounds_toArray,List.set_cons_zero,List.set_cons_succ]
    refine wpAnyH_take (i:=33) (oi:=({ dst:=some 68,op:=Op.binOp BinOp.lss 3 (Operand.tmp 67) (Operand.const (Value.int IntKind.i64 8)) 3,type:=4,pos:="files.go:55",after:=#[{ on:=32,ground:=Ground.data },{ on:=31,ground:=Ground.guard }],guard:=some (31,true) }:Oper)) (v:=undef) rfl (by kernel_rfl) (by kernel_rfl) (by kernel_rfl) (fun _ _ _ h => h) (Or.inr ⟨by rfl,rfl⟩) (by assumption) ?_
    try simp only [Act.put,List.setIfInBounds_toArray,List.set_cons_zero,List.set_cons_succ]
    refine wpAnyH_take (i:=34) (oi:=({ dst:=some 69,op:=Op.pick (Operand.tmp 66) (Operand.tmp 68) (Operand.const (Value.bool false)),type:=4,pos:="files.go:55",after:=#[{ on:=31,ground:=Ground.data },{ on:=33,ground:=Ground.data }],guard:=none }:Oper)) (v:=?v34h) rfl (by kernel_rfl) (by kernel_rfl) (by kernel_rfl) (fun _ _ _ h => h) (Or.inl ⟨by rfl,?y34h⟩) (by assumption) ?r34h
    case y34h => ((intro w hSw; (try dsimp only at hSw); go_simp) <;> with_reducible rfl)
    try simp only [Act.put,List.setIfInBounds_toArray,List.set_cons_zero,List.set_cons_succ]
    refine wpAnyH_done (by kernel_rfl) ?_ _
    have HK6:=hid (HK5.out.still HT7.out)
    clear HB
    go_wp2_with fail
    have hd6:=HK6.out.drewS
    have hO6:=(hd6.at_ HM.out).1
    have q1:=hO6.c1
    have q2:=hd6.c2
    have HP:=hid (law_dup2 hd6.desc HOk.out.dok HOk.out.joint (by have:=HOk.out.len; omega) HM.out.tab n to_)
    have HD:=hid hd6
    clear hd6 hO6
    obtain ⟨z,hz⟩:∃ z,dup2E k.S y.2 n to_=z:=⟨_,rfl⟩
    rw [hz] at HP
    have HZ:=hid hz
    clear hz
    go_region_held3 (fun w' => w'.cell? ⟨o.ob,1,none⟩=some (.pointer (some ⟨y.1,0,none⟩))∧w'.cell? ⟨a.kb,2,none⟩=some (.pointer (some ⟨a.fb,0,none⟩)))
     (first | exact ⟨q1,q2⟩ | exact ⟨r1,r2⟩ | go_keep)
     (first | (go_at_call 157; refine HP.out.mono ?_; rintro e w7 ⟨rfl,hd7⟩; have hK7:=HD.out.fileStep HM.out hd7; obtain ⟨C7,hI7⟩:=hK7; have HI7:=hid hI7; have r2:=hI7.c2; have hA7:=(hI7.at_ (mine_file HM.out)); have r1:=hA7.1.c1; have r3:=hA7.1.c2; have HL7:=hid hA7.2; simp only at r1 r3; clear hd7 hI7 hA7))
    all_goals
     by_cases h0:z=0
     ·subst h0
      rw [show TErr 0=.nilIface from rfl]
      have hul:=usedL_dup2 (fun j hj => (HOk.out.joint.pos i _ HM.out.tab j hj).1) HZ.out
      have hdn:(dup2KE o k.S y.2 n to_)=0:=by
       unfold dup2KE
       rw [if_neg (by exact HNC.out)]
       exact HZ.out
      obtain ⟨U,hU⟩:∃ U,usedL (dup2L k.S y.2 n to_)=U:=⟨_,rfl⟩
      have hU8:U≤8:=by rw [← hU]; exact usedL_le _
      have hUs:=used_is ((HI7.out.drewS.desc.tabs i _ (set_at HM.out.tab)).1)
      simp only at hUs
      rw [hU] at hUs hul
      have HUs2:=hid hUs
      have hV:=(HOk.out.live i o x y HM.out.ko HM.out.sp HM.out.tab ⟨pid,HM.out.own⟩).2.1
      have hwy:why o.u o.m ((1:Int),(U:Int) - usedL y.2)=0:=by
       have h1:=why_more (HOk.out.fit i o HM.out.ko).1 1 (by omega) ((U:Int) - usedL y.2) (by rw [hul.1]; split <;> omega) (by omega)
       have h1:why o.u o.m ((1:Int),(U:Int) - usedL y.2)=_:=h1
       rw [h1,if_neg (by
        rintro ⟨p1,p2⟩
        by_cases h6:slotL y.2 to_=none
        ·exact HNC.out ⟨by have:=HLm.out; omega,h6,(by intro e; have:=hul.2.1; rw [e] at this; cases this),hul.2.2.1,hul.2.2.2⟩
        ·have h5:=hul.1; rw [if_neg h6] at h5; omega)]
      have HWy:=hid hwy
      have HU:=hid hU
      have HV:=hid hV
      have HDn:=hid hdn
      have tw:Turn (fun _ => False) w7 w7.drew:=(Turn.refl _ _).drew
      have s1:=(tw.cell (lt_of_cell r1) id).trans r1
      have s3:=(tw.cell (lt_of_cell r3) id).trans r3
      have HLd7:=hid (HL7.out.turned tw id)
      have HId7:=hid (HI7.out.still tw)
      have hu8:usedL y.2≤8:=usedL_le _
      have hwrap:IntKind.i64.wrap ((U:Int) - usedL y.2)=(U:Int) - usedL y.2:=IntWalk.i64_in _ (by omega)
      clear hul hdn hU hUs hV hwy tw
      go_wp2_with fail
      go_region_held3 (fun w' => w'.cell? ⟨o.ob,1,none⟩=some (.pointer (some ⟨y.1,0,none⟩))∧w'.cell? ⟨o.ob,2,none⟩=some (.pointer (some ⟨o.lb,0,none⟩)))
       (first | exact ⟨s1,s3⟩ | exact ⟨s18,s38⟩ | exact ⟨s19,s39⟩ | go_keep)
       (first
        | (go_at_call 78; refine HUs2.out.mono ?_; rintro e w8 ⟨rfl,t8⟩; have s18:=(t8.cell (lt_of_cell s1) id).trans s1; have s38:=(t8.cell (lt_of_cell s3) id).trans s3; have HI8:=hid (HId7.out.still t8); have HCg8:=hid (charge_one (kind:=1) (n:=(U:Int) - usedL y.2) (HLd7.out.turned t8 id) (HOk.out.fit i o HM.out.ko).1); unfold Charged1 at HCg8; clear t8)
        | (go_at_call 60; refine HCg8.out.mono ?_; rintro e w9 (⟨_,rfl,hl9,hf9,t9⟩ | ⟨hne,_⟩); rotate_left; exact absurd HWy.out hne; have HR9:=hid (HI8.out.fileLed HM.out hl9 t9); have HF9:=hid hf9; have hI8:=HI8.out; have s19:=(t9.cell (lt_of_cell s18) (fun e => kmark (hI8.cob i _ (set_at HM.out.ko)) (hI8.clb i _ (set_at HM.out.ko)) (by simp) e)).trans s18; have s39:=(t9.cell (lt_of_cell s38) (fun e => kmark (hI8.cob i _ (set_at HM.out.ko)) (hI8.clb i _ (set_at HM.out.ko)) (by simp) e)).trans s38; clear hl9 hf9 t9 hI8))
      all_goals go_wp2_with fail
      all_goals go_returns
      all_goals
       have eu:done o.u ((1:Int),(U:Int) - usedL y.2)=upd o.u 1 (U:Int):=by
        unfold done
        simp only [Int.toNat_one]
        rw [HV.out,show (usedL y.2:Int)+((U:Int) - usedL y.2)=U by omega]
       have hr9:=HR9.out
       have hf9:=HF9.out
       rw [eu] at hr9 hf9
       have hjj:=joint_dup2 HOk.out.joint HOk.out.dok (by have:=HOk.out.len; omega) HM.out.tab HTok.out n to_
       rw [← HU.out] at hr9 hf9
       refine ⟨by rw [HDn.out]; rfl,_,hr9,HOk.out.file HM.out hjj.1 hjj.2 ⟨upd_other _ _ (by decide),upd_same _ _ _,upd_other _ _ (by decide)⟩ hf9,fun _ => rfl,fun e => absurd HDn.out e⟩
     ·have he:=dup2_err (L:=y.2) (by rw [HZ.out]; exact h0)
      have HE:=hid he
      have H0:=hid h0
      have hdn:(dup2KE o k.S y.2 n to_)=z:=by
       unfold dup2KE
       rw [if_neg (by exact HNC.out)]
       exact HZ.out
      have HDn:=hid hdn
      rw [TErr_of h0]
      clear he hdn
      go_wp2_with fail
      go_returns
      rw [show dup2KE o k.S y.2 n to_=z from HDn.out,TErr_of H0.out]
      exact ⟨rfl,fileK_err HM.out ⟨_,HI7.out⟩ HOk.out HE.out.1 HE.out.2 H0.out⟩
theorem kdup2_yes (h:KIn W w a k C) (hok:KOk k) (hm:Mine k pid i o x y) (hLd:Laid W) (n to_:Int) :
  Calls Tryz.prog 73 #[.pointer (some ⟨a.kb,0,none⟩),.int .i64 pid,.int .i64 n,.int .i64 to_] w (fun e w' => Dup2To W a k i o y n to_ e w'):=by
 by_cases hl:o.m 1 < o.u 1+1
 ·exact kdup2_full h hok hm hLd n to_ hl
 ·exact kdup2_room h hok hm hLd n to_ hl
end
end Go.Proofs.YtamleilijmgoeaaGreatDoor
