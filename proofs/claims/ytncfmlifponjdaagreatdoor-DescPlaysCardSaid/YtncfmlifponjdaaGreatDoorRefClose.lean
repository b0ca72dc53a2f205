/- The document's files: Close. Conditions: each theorem's own premises. A store into a map in two steps, as where two maps are stored at once: an entry is made for a new key, then what it holds is stored. No program in sight. Conditions: each theorem's own premises. Bytes in a block of their own: made of a string, one appended, a string copied in, read back as a string. No program in sight. Conditions: each theorem's own premises. The document's tree: Write. Conditions: each theorem's own premises. errors.As at the target *api.Errno, of an *api.At: one Unwrap, then the api.Errno in it. Condition: the variable errors.errorType holds what is laid; the At lies in memory. plain.Place, and the laws' own 'is' and 'bare': of nil, of an api.Errno, of an *api.At. Condition: the variable errors.errorType holds what is laid ('Laid'). A region's held condition made stronger on the way: no program in sight. No condition. -/
import Derived.Test.YtncfmlifponjdaaGreatDoorRefNames
import Derived.Test.YtncfmlifponjdaaGreatDoorDescTab
import Derived.Test.YtncfmlifponjdaaGreatDoorPipe
import Derived.Test.YtncfmlifponjdaaGreatDoorBase
import Derived.Deep.AppendSrc
import Derived.Laws.IdiomStrings
import Derived.BigRegion
import Derived.Handy
import Derived.Deep.RegionHeld3
namespace Go.Proofs.YtncfmlifponjdaaGreatDoor
open Go.RowKit
set_option linter.unusedVariables false
set_option maxHeartbeats 4000000
set_option maxRecDepth 100000
section
variable {w w' w1:World} {fb rb eb rf pb tab:Nat} {S S':PS} {φ:Int→Int} {π:Nat→Int} {nx n k:Int} {F Ft:Nat→Prop} {L L':PTab} {e:PE}
theorem mdel_mput {κ β:Type} [DecidableEq κ] (m:List (κ×β)) (k:κ) (v:β):mdel (mput m k v) k=mdel m k:=by
 have h1:mdel (mupd m k v) k=mdel m k:=by
  unfold mdel mupd
  rw [List.filter_map]
  have e1:((fun p:κ×β => decide (p.1≠k)) ∘ fun p => if p.1=k then (p.1,v) else p)=fun p => decide (p.1≠k):=by
   funext p
   show decide ((if p.1=k then (p.1,v) else p).1≠k)=_
   by_cases c:p.1=k
   ·rw [if_pos c]
   ·rw [if_neg c]
  rw [e1]
  refine (List.map_congr_left (g:=id) fun t ht => ?_).trans (List.map_id _)
  have c:=of_decide_eq_true (List.mem_filter.1 ht).2
  exact if_neg c
 unfold mput
 split
 ·exact h1
 ·unfold mdel
  rw [List.filter_append]
  simp
def RFilesKept (fb rb tab:Nat) (F:Nat→Prop) (w w':World) (S':PS) (φ:Int→Int) (nx:Int) (L':PTab):Prop :=
 ∃ F' π',RFilesIs w' fb rb S' φ π' nx F'∧RTabIs w' tab (relL φ L')∧Turn (fun k => F k∨k=tab) w w'∧(∀ k,F' k→F k∨w.heap.size≤k)∧¬ F' tab
theorem RFilesKept.to (h:RFilesKept fb rb tab F w w' S' φ nx L'):RFilesTo fb rb tab F w w' S S' φ nx L':=by
 obtain ⟨F',π',a,b,c,d,e⟩:=h
 exact ⟨F',φ,π',nx,a,b,c,d,e,fun _ _ _ => rfl,by omega⟩
theorem RFilesKept.same (h:RFilesIs w' fb rb S φ π nx F) (ht:RTabIs w' tab (relL φ L)) (t:Turn (fun _ => False) w w') (hn:¬ F tab):RFilesKept fb rb tab F w w' S φ nx L :=
 ⟨F,π,h,ht,t.mono (fun _ _ h => h.elim),fun _ h => .inl h,hn⟩
theorem rclose_kept (h:RFilesIs w fb rb S φ π nx F) (hS:DOk S) (hto:TOk S.T) (ha:Alive S.T) (hbd:∀ n p,mget S.T n=some p→p.ds.length≤1000000∧p.held≤1000000000) (ht:RTabIs w tab (relL φ L)) (hok:TabOk S L) (hn:¬ F tab) (n:Int) :
  Calls Tryz.prog 33 #[.pointer (some ⟨fb,0,none⟩),.pointer (some ⟨tab,0,none⟩),.int .i64 n] w fun e w' => e=.returned (.int .i64 (getE L n))∧RFilesKept fb rb tab F w w' (closeS S L n) φ nx (closeL S L n):=by
 have HH:=hid (rhas_rel h ht hok n)
 have HK:Hid (∀ w',Turn (fun _ => False) w w'→RFilesKept fb rb tab F w w' S φ nx L):=hid (fun w' t => .same (h.turned t (fun _ _ => id)) (ht.turned t id) t hn)
 cases hx:entL S L n with
 | none =>
  have e1:getE L n=7:=by unfold getE; rw [entL_none hok hx]; rfl
  have e2:closeS S L n=S:=by unfold closeS; rw [hx]; rfl
  have e4:closeL S L n=L:=by unfold closeL; rw [hx]; rfl
  have e5:(slotL L n).isSome=false:=by rw [entL_none hok hx]; rfl
  rw [e5] at HH
  rw [e1,e2,e4]
  clear h ht hok hn hx e1 e2 e4 e5
  go_enter Tryz.func33,Tryz.ntmps33
  go_wp2_with fail
  refine HH.out.mono ?_
  rintro e w1 ⟨rfl,hw⟩; subst w1
  go_wp2_with fail
  go_returns
  exact ⟨rfl,HK.out _ (Turn.refl _ _)⟩
 | some x =>
  obtain ⟨k,e⟩:=x
  have hs:=(entL_some hx).1
  have he:=(entL_some hx).2
  obtain ⟨hn0,hn8,hnz,hnk⟩:=slotL_some hs
  have e1:getE L n=0:=by unfold getE; rw [hs]; rfl
  have e2:closeS S L n=if 1 < e.refs then putS S k { e with refs:=e.refs - 1 } else goneS (delS S k) e:=by unfold closeS; rw [hx]; rfl
  have e4:closeL S L n=tset L n.toNat (0,false):=by unfold closeL; rw [hx]; rfl
  have e5:(slotL L n).isSome=true:=by rw [hs]; rfl
  rw [e5] at HH
  rw [e1,e2,e4]
  obtain ⟨eb,rf,pb,Ft,hin,rfl⟩:=h
  have hi8:n.toNat < 8:=by omega
  have hniz:(n.toNat:Int)=n:=by omega
  have hEk:=hS.ent k e he
  have hrf:=hEk.1
  have hset:relL φ (tset L n.toNat (0,false))=tset (relL φ L) n.toNat (0,false):=by rw [rel_tset,if_pos rfl]
  have c0:=ht.ent n.toNat hi8
  rw [rel_at hnz hnk] at c0
  have c2:=ht.mark n.toNat hi8
  have z2:=ht.fz (n.toNat * 2)
  have z3:=ht.fz (n.toNat * 2+1)
  obtain ⟨W1,hW1⟩:∃ W1,(w.setCell ⟨tab,n.toNat * 2,none⟩ (.int .i64 0)).setCell ⟨tab,n.toNat * 2+1,none⟩ (.bool false)=W1:=⟨_,rfl⟩
  have tW:Turn (fun q => q=tab) w W1:=by rw [← hW1]; exact ((Turn.refl (fun q => q=tab) w).setCell ⟨tab,n.toNat * 2,none⟩ _ (fun _ => rfl)).setCell ⟨tab,n.toNat * 2+1,none⟩ _ (fun _ => rfl)
  have ht3:RTabIs W1 tab (relL φ (tset L n.toNat (0,false))):=by
   rw [hset,← hW1]
   exact ht.set hi8 0 false (by omega)
  have hi3:=hin.turned tW (fun q hq e => hn (e ▸ hq))
  have r2:=hi3.h2
  have lk:=hi3.lookR he
  obtain ⟨w5,hrun,hm5,t5⟩:=hi3.mR.run_update (P:=Tryz.prog) keyI Tryz.underlying59 Tryz.underlying3 (φ k) (e.refs - 1)
  have hrw:IntKind.i64.wrap ((e.refs:Int) - 1)=(e.refs:Int) - 1:=IntWalk.i64_in _ (by omega)
  have hcast:((e.refs - 1:Nat):Int)=(e.refs:Int) - 1:=by omega
  have lk5:=hm5.run_lookup (P:=Tryz.prog) keyI Tryz.underlying59 Tryz.underlying3 (zeroRInt w5) (φ k) false
  rw [mget_mput,if_pos rfl] at lk5
  have r5:=(t5.cell (lt_of_cell r2) hin.ap.2.1).trans r2
  obtain ⟨K,hK⟩:∃ K,φ k=K:=⟨_,rfl⟩
  rw [hK] at c0 lk hrun lk5
  replace hrun:(Instr.mapUpdate 59 (.map (some rf)) (.int .i64 K) (.int .i64 ((e.refs:Int) - 1))).run Tryz.prog W1=.ok () w5:=by rw [← hcast]; exact hrun
  replace lk5:(Instr.lookup 59 (.map (some rf)) (.int .i64 K) false).run Tryz.prog w5=.ok (.int .i64 ((e.refs:Int) - 1)) w5:=by rw [← hcast]; exact lk5
  by_cases hr1:1 < e.refs
  ·rw [if_pos hr1]
   have HFin:Hid (RFilesKept fb rb tab (RFoots fb eb rf pb Ft) w w5 (putS S k { e with refs:=e.refs - 1 }) φ nx (tset L n.toNat (0,false))):=hid (by
    refine ⟨RFoots fb eb rf pb Ft,π,⟨eb,rf,pb,Ft,hi3.setRefs hS.nd he rfl hm5 t5,rfl⟩,?_,?_,fun _ h => .inl h,hn⟩
    ·exact ht3.turned t5 (fun e => hn (.inr (.inr (.inr (.inl e)))))
    ·exact (tW.mono (fun _ _ e => .inr e)).trans (t5.mono (fun _ _ e => .inl (.inr (.inr (.inr (.inl e)))))))
   have hpos:(0:Int) < (e.refs:Int) - 1:=by omega
   have HW:=hid hW1
   clear hin ht he hn hS hto ha hbd hok hx hs hnz hnk e1 e2 e4 e5 hset tW ht3 hi3 hm5 t5 hK hcast HK hEk hrf hr1 hW1
   go_enter Tryz.func33,Tryz.ntmps33
   go_wp2_with fail
   refine HH.out.mono ?_
   rintro e' w1 ⟨rfl,hw⟩; subst w1
   go_upto_region 5 with fail
   rw [HW.out]
   clear c0 c2 z2 z3
   go_wp2_with fail
   go_returns
   exact ⟨rfl,HFin.out⟩
  ·rw [if_neg hr1]
   have hr0:e.refs=1:=by omega
   obtain ⟨⟨x1,x2,x3,x4,x5⟩,hX⟩:∃ x:RE,fE π e=x:=⟨_,rfl⟩
   have hkd:e.kind=x1:=congrArg (fun x:RE => x.1) hX
   have hnd3:(if e.kind=1 then e.node else 0)=x3:=congrArg (fun x:RE => x.2.2.1) hX
   have hpd4:(if e.kind=1 then 0 else π e.pid)=x4:=congrArg (fun x:RE => x.2.2.2.1) hX
   have hE5:MapIs w5 eb (.int .i64) encI reV (relab φ (fE π) S.es):=hi3.mE.turned t5 hin.ap.2.2.2.1
   have l1:=hE5.run_lookup (P:=Tryz.prog) keyI Tryz.underlying58 Tryz.underlying3 (zeroREnt w5) (φ k) false
   rw [relab_get (hin.al k e he).1,he,Option.map_some,hX,hK] at l1
   replace l1:(Instr.lookup 58 (.map (some eb)) (.int .i64 K) false).run Tryz.prog w5=.ok (.agg #[.int .i64 x1,.int .i64 x2,.int .i64 x3,.int .i64 x4,.int .i64 x5]) w5:=l1
   have r1:=(t5.cell (lt_of_cell hi3.h1) hin.ap.2.1).trans hi3.h1
   rw [hr0] at hrun lk5 hrw lk
   rw [show ((1:Nat):Int) - 1=0 from rfl] at hrun lk5
   rw [show ((1:Nat):Int)=1 from rfl] at lk
   clear hrw
   obtain ⟨ab,hab⟩:∃ ab,w5.heap.size=ab:=⟨_,rfl⟩
   obtain ⟨W6,hW6⟩:∃ W6,w5.alloc (.cells #[.int .i64 x1,.int .i64 x2,.int .i64 x3,.int .i64 x4,.int .i64 x5] 133)=W6:=⟨_,rfl⟩
   have t6:Turn (fun _ => False) w5 W6:=by rw [← hW6]; exact (Turn.refl _ _).alloc _
   have m0:W6.cell? ⟨ab,0,none⟩=some (.int .i64 x1):=by rw [← hW6,← hab]; simp
   have m2:W6.cell? ⟨ab,2,none⟩=some (.int .i64 x3):=by rw [← hW6,← hab]; simp
   have m3:W6.cell? ⟨ab,3,none⟩=some (.int .i64 x4):=by rw [← hW6,← hab]; simp
   have q1:=(t6.cell (lt_of_cell r1) id).trans r1
   have q2:=(t6.cell (lt_of_cell r5) id).trans r5
   have habe:ab≠eb∧ab≠rf:=by
    have h1:=hE5.lt
    have h2:=hm5.lt
    omega
   have HAb:=hid habe
   have HW6:=hid (And.intro hW6 hab)
   have HT6:=hid t6
   have HI3:=hid hi3
   have HT3:=hid ht3
   have HE5:=hid hE5
   have HM5:=hid hm5
   have HT5:=hid t5
   have HTW:=hid tW
   have HE:=hid he
   have HN:=hid hn
   have HKf:=hid hK
   have HX:=hid hX
   have HAp:=hid hin.ap
   have HW:=hid hW1
   have HX3:=hid (And.intro hkd (And.intro hnd3 hpd4))
   have HEk:=hid hEk
   have HTo:=hid (And.intro hto (And.intro ha hbd))
   have HAl:=hid (hin.al k e he).1
   have HPs:=hid hS.pipes
   clear hin ht he hn hS hto ha hbd hok hx hs hnz hnk e1 e2 e4 e5 hset tW ht3 hi3 hm5 t5 hK hcast HK hEk hrf hr1 hW1 hX hkd hnd3 hpd4 hE5 hW6 hab t6 habe
   go_enter Tryz.func33,Tryz.ntmps33
   go_wp2_with fail
   refine HH.out.mono ?_
   rintro e' w1 ⟨rfl,hw⟩; subst w1
   go_upto_region 5 with fail
   rw [HW.out]
   clear c0 c2 z2 z3
   go_upto_region 9 with fail
   rw [HW6.out.1,HW6.out.2]
   clear lk hrun lk5 l1 r1 r2 r5
   have HE6:=hid (HE5.out.turned HT6.out id)
   have HM6:=hid (HM5.out.turned HT6.out id)
   go_upto_region 11 with (first
    | (at_delete; refine wpList_mapdel rfl _ _ 58 3 133 rfl Tryz.underlying58 Tryz.underlying3 keyI eb rfl HE6.out K rfl ?_; intro w7 hm7 t7; have HM7:=hid hm7; have HT7:=hid t7; have q27:=(t7.cell (lt_of_cell q2) HAp.out.1).trans q2; have m07:=(t7.cell (lt_of_cell m0) HAb.out.1).trans m0; have m27:=(t7.cell (lt_of_cell m2) HAb.out.1).trans m2; have m37:=(t7.cell (lt_of_cell m3) HAb.out.1).trans m3; clear hm7 t7)
    | (at_delete; refine wpList_mapdel rfl _ _ 59 3 3 rfl Tryz.underlying59 Tryz.underlying3 keyI rf rfl (HM6.out.turned HT7.out (fun e => HAp.out.2.2.2.1 e.symm)) K rfl ?_; intro w8 hm8 t8; have HM8:=hid hm8; have HT8:=hid t8; have m08:=(t8.cell (lt_of_cell m07) HAb.out.2).trans m07; have m28:=(t8.cell (lt_of_cell m27) HAb.out.2).trans m27; have m38:=(t8.cell (lt_of_cell m37) HAb.out.2).trans m37; clear hm8 t8))
   have HD:Hid (RFilesIn w8 fb rb eb rf pb (delS S k) φ π nx Ft):=hid (HI3.out.gone HE.out (by rw [HKf.out]; exact HM7.out.turned HT8.out HAp.out.2.2.2.1) (by have h:=HM8.out; rw [← HKf.out,mdel_mput] at h; exact h)
    ((((HT5.out.mono (fun _ _ e => .inr e)).trans (HT6.out.mono (fun _ _ h => h.elim))).trans (HT7.out.mono (fun _ _ e => .inl e))).trans (HT8.out.mono (fun _ _ e => .inr e))))
   have HTt:Hid (Turn (fun j => RFoots fb eb rf pb Ft j∨j=tab) w w8):=hid (((((HTW.out.mono (fun _ _ e => .inr e)).trans (HT5.out.mono (fun _ _ e => .inl (.inr (.inr (.inr (.inl e))))))).trans (HT6.out.mono (fun _ _ h => h.elim))).trans (HT7.out.mono (fun _ _ e => .inl (.inr (.inr (.inl e)))))).trans (HT8.out.mono (fun _ _ e => .inl (.inr (.inr (.inr (.inl e)))))))
   have HTb:Hid (RTabIs w8 tab (relL φ (tset L n.toNat (0,false)))):=hid ((((HT3.out.turned HT5.out (fun e => HN.out (.inr (.inr (.inr (.inl e)))))).turned HT6.out id).turned HT7.out (fun e => HN.out (.inr (.inr (.inl e))))).turned HT8.out (fun e => HN.out (.inr (.inr (.inr (.inl e))))))
   clear HE5 HM5 HT5 HTW HT3 HE6 HM6 HT6 HM7 HT7 HM8 HT8 HI3 HW HW6 HAb q1 q2 q27 m0 m2 m3 m07 m27 m37
   have td:Turn (fun _ => False) w8 w8.drew:=(Turn.refl _ _).drew
   by_cases hk1:x1=1
   ·have hkind:e.kind=1:=HX3.out.1.trans hk1
    have hnode:e.node=x3:=by have:=HX3.out.2.1; rw [if_pos hkind] at this; exact this
    subst hk1
    have q0:=HD.out.h0
    obtain ⟨nm,D,hr,hFt⟩:=HD.out.tr
    have hC:=rhold_is (hr.turned td (fun _ _ => id)) HTo.out.1 x3 (-1) (by omega) HTo.out.2.2
    have hdr:=rhold_drop HTo.out.1 HTo.out.2.1 x3
    have HG:=hid (show goneS (delS S k) e=treeS (delS S k) (dropT S.T x3) by unfold goneS; rw [if_pos hkind,hnode]; rfl)
    have hC2:Calls Tryz.prog 59 #[.pointer (some ⟨rb,0,none⟩),.int .i64 x3,.int .i64 (-1)] w8.drew fun e w' => e=.returned (.int .i64 (dropE S.T x3))∧RTreeTo rb Ft w8.drew w' (dropT S.T x3):=by
     refine hC.mono ?_
     rintro e w' ⟨h1,h2⟩
     have h2:RTreeTo rb (RFoot rb nm (delS S k).T D) w8.drew w' (rholdT S.T x3 (-1)):=h2
     rw [hFt]
     rw [hdr.2] at h2
     have h1:e=.returned (.int .i64 (rholdE S.T x3 (-1))):=h1
     rw [hdr.1] at h1
     exact ⟨h1,h2⟩
    have HC:=hid hC2
    clear hr hFt hC hdr hC2 td m38 hkind hnode HX HX3 HEk
    go_wp2_with fail
    go_region_with (go_at_call 59; refine HC.out.mono ?_; rintro e9 w9 ⟨rfl,h9⟩; have H9:=hid h9; clear h9)
    all_goals
     go_wp2_with fail
     go_returns
     rw [HG.out]
     obtain ⟨F',htr,t9,hnew,_⟩:=H9.out
     have td:Turn (fun _ => False) w8 w8.drew:=(Turn.refl _ _).drew
     have hd:=HD.out.still td
     have hlt:=(HTb.out).lt
     refine ⟨rfl,RFoots fb eb rf pb F',π,⟨eb,rf,pb,F',hd.setTree htr t9 hnew,rfl⟩,(HTb.out.turned td id).turned t9 (fun e => HN.out (.inl e)),(HTt.out.trans (td.mono (fun _ _ h => h.elim))).trans (t9.mono (fun _ _ e => .inl (.inl e))),fun j hj => ?_,fun hj => ?_⟩
     ·rcases hj with hj | hj
      ·rcases hnew j hj with h | h
       ·exact .inl (.inl h)
       ·have h1:=HTt.out.size
        have h2:=td.size
        exact .inr (by omega)
      ·exact .inl (.inr hj)
     ·rcases hj with hj | hj
      ·rcases hnew tab hj with h | h
       ·exact HN.out (.inl h)
       ·have h2:=td.size
        omega
      ·exact HN.out (.inr hj)
   ·have hkind:e.kind≠1:=fun h => hk1 (HX3.out.1.symm.trans h)
    obtain ⟨q,hq,hqe⟩:∃ q,S.ps[e.pid]?=some q∧((e.kind=2∧q.e0=1)∨(e.kind=3∧q.e1=1)):=by
     rcases HEk.out.2 with h | ⟨h1,_,q,h2,h3⟩ | ⟨h1,_,q,h2,h3⟩
     ·exact absurd h.1 hkind
     ·exact ⟨q,h2,.inl ⟨h1,h3⟩⟩
     ·exact ⟨q,h2,.inr ⟨h1,h3⟩⟩
    have hpi:π e.pid=x4:=by have:=HX3.out.2.2; rw [if_neg hkind] at this; exact this
    have q3:=HD.out.h3
    have lkp:=(HD.out.still td).lookP (i:=e.pid) (q:=q) hq
    have tz:Turn (fun _ => False) w8 (w8.alloc (.cells #[.string ⟨#[]⟩,.int .i64 0,.int .i64 0] 138)):=(Turn.refl _ _).alloc _
    have lkz:=(HD.out.still tz.drew).lookP (i:=e.pid) (q:=q) hq
    rw [hpi] at lkp lkz
    have hpb:=HPs.out e.pid q hq
    obtain ⟨pa,hpa⟩:∃ pa,w8.heap.size=pa:=⟨_,rfl⟩
    obtain ⟨W9,hW9⟩:∃ W9,(w8.alloc (.cells #[.string q.b,.int .i64 q.e0,.int .i64 q.e1] 138)).drew=W9:=⟨_,rfl⟩
    have t9:Turn (fun _ => False) w8 W9:=by rw [← hW9]; exact ((Turn.refl _ _).alloc _).drew
    have hP:PipeIs W9 pa q.b q.e0 q.e1:=by
     rw [← hW9,← hpa]
     exact ⟨by simp,by simp,by simp,fun i => by simp⟩
    obtain ⟨q',hq'⟩:∃ q',endP q e.kind=q':=⟨_,rfl⟩
    have hkx:e.kind=x1:=HX3.out.1
    have hR:turnR q.e0 q.e1 x1 (-1)=(0,q'.e0,q'.e1)∧q'.b=q.b:=by
     rw [← hq',← hkx]
     unfold turnR endP
     rcases hqe with ⟨h1,h2⟩ | ⟨h1,h2⟩
     ·rw [h1,h2]; exact ⟨rfl,rfl⟩
     ·rw [h1,h2]; exact ⟨rfl,rfl⟩
    have hT:=turn_any hP (by omega) (by omega) x1 (-1) (by omega)
    rw [hR.1] at hT
    have HT:=hid hT
    have HG:=hid (show goneS (delS S k) e=pipeS (delS S k) e.pid q' by
     unfold goneS
     rw [if_neg hkind]
     show (S.ps[e.pid]?).elim _ _=_
     rw [hq]
     show pipeS (delS S k) e.pid (endP q e.kind)=_
     rw [hq'])
    have HQ:=hid (And.intro hq (And.intro hpi hR.2))
    have HT9:=hid t9
    have HW9:=hid (And.intro hW9 hpa)
    have m09:=(t9.cell (lt_of_cell m08) id).trans m08
    have m39:=(t9.cell (lt_of_cell m38) id).trans m38
    have q39:=(t9.cell (lt_of_cell q3) id).trans q3
    have q3z:=(tz.cell (lt_of_cell q3) id).trans q3
    have m3z:=(tz.cell (lt_of_cell m38) id).trans m38
    have m0z:=(tz.cell (lt_of_cell m08) id).trans m08
    have hab9:ab≠pa:=by have:=lt_of_cell m08; simp only at this; omega
    have hfb9:fb≠pa:=by have:=lt_of_cell q3; simp only at this; omega
    have l1:(Instr.lookup 60 (.map (some pb)) (.int .i64 x4) false).run Tryz.prog w8.drew=.ok (.agg #[.string q.b,.int .i64 q.e0,.int .i64 q.e1]) w8.drew:=lkp
    have l2:(Instr.lookup 60 (.map (some pb)) (.int .i64 x4) false).run Tryz.prog (w8.alloc (.cells #[.string ⟨#[]⟩,.int .i64 0,.int .i64 0] 138)).drew=.ok (.agg #[.string q.b,.int .i64 q.e0,.int .i64 q.e1]) (w8.alloc (.cells #[.string ⟨#[]⟩,.int .i64 0,.int .i64 0] 138)).drew:=lkz
    have hk1b:(x1 == 1)=false:=by simpa using hk1
    clear hk1 hkind hqe hpi lkp lkz tz hpb hW9 t9 hP hq' hkx hR hT hpa td hq HX HX3 HEk HPs
    go_wp2_with fail
    go_region
    all_goals
     rw [HW9.out.1,HW9.out.2]
     clear l1 l2 q3 q3z m3z m0z m08 m38 m28
     go_wp2_with fail
     refine HT.out.mono ?_
     rintro e9 w10 ⟨rfl,hp10,t10⟩
     have d0:=(t10.cell (lt_of_cell m09) hab9).trans m09
     have d3:=(t10.cell (lt_of_cell m39) hab9).trans m39
     have d1:=(t10.cell (lt_of_cell q39) hfb9).trans q39
     have p0:=hp10.c0
     have p1:=hp10.c1
     have p2:=hp10.c2
     have tt:Turn (fun j => j=pa) W9 w10.drew:=t10.drew
     have hd9:=HD.out.still HT9.out
     have hpaw:w8.heap.size=pa:=HW9.out.2
     have hd10:RFilesIn w10.drew fb rb eb rf pb (delS S k) φ π nx Ft:=hd9.turned tt (fun j hj e => by have:=HD.out.lows j hj; omega)
     obtain ⟨w11,hrun,hm11,t11⟩:=hd10.mP.run_update (P:=Tryz.prog) keyI Tryz.underlying60 Tryz.underlying3 (π e.pid) q'
     replace hrun:(Instr.mapUpdate 60 (.map (some pb)) (.int .i64 x4) (.agg #[.string q.b,.int .i64 q'.e0,.int .i64 q'.e1])).run Tryz.prog w10.drew=.ok () w11:=by
      have h:=hrun
      rw [HQ.out.2.1] at h
      have e1:rpV q'=.agg #[.string q.b,.int .i64 q'.e0,.int .i64 q'.e1]:=by unfold rpV; rw [HQ.out.2.2]
      rw [e1] at h
      exact h
     have HFin:Hid (RFilesKept fb rb tab (RFoots fb eb rf pb Ft) w w11 (pipeS (delS S k) e.pid q') φ nx (tset L n.toNat (0,false))):=hid (by
      have hlt:=HTb.out.lt
      refine ⟨RFoots fb eb rf pb Ft,π,⟨eb,rf,pb,Ft,hd10.setPipe HQ.out.1 hm11 t11,rfl⟩,?_,?_,fun _ h => .inl h,HN.out⟩
      ·exact ((HTb.out.turned HT9.out id).turned tt (fun e => by omega)).turned t11 (fun e => HN.out (.inr (.inr (.inr (.inr e)))))
      ·have t1:Turn (fun j => RFoots fb eb rf pb Ft j∨j=tab) w W9:=HTt.out.trans (HT9.out.mono (fun _ _ h => h.elim))
       exact (t1.trans' tt (fun j hj e => by have:=HTt.out.size; omega)).trans (t11.mono (fun _ _ e => .inl (.inr (.inr (.inr (.inr e)))))))
     clear hp10 t10 tt hd9 hd10 hm11 t11 hpaw HT
     go_wp2_with fail
     go_region
     go_wp2_with fail
     go_returns
     rw [HG.out]
     exact ⟨rfl,HFin.out⟩
theorem rclose_is (h:RFilesIs w fb rb S φ π nx F) (hS:DOk S) (hto:TOk S.T) (ha:Alive S.T) (hbd:∀ n p,mget S.T n=some p→p.ds.length≤1000000∧p.held≤1000000000) (ht:RTabIs w tab (relL φ L)) (hok:TabOk S L) (hn:¬ F tab) (n:Int) :
  Calls Tryz.prog 33 #[.pointer (some ⟨fb,0,none⟩),.pointer (some ⟨tab,0,none⟩),.int .i64 n] w fun e w' => e=.returned (.int .i64 (getE L n))∧RFilesTo fb rb tab F w w' S (closeS S L n) φ nx (closeL S L n) :=
 (rclose_kept h hS hto ha hbd ht hok hn n).mono fun e w' x => ⟨x.1,x.2.to⟩
end
section
open Go.RowKit Go.MapKept
set_option linter.unusedSectionVars false
section
variable {κ β:Type} [DecidableEq κ] {d:TypeDesc} {enc:κ→Value} {val:β→Value} {w w':World} {b c:Nat} {m:List (κ×β)} {P:Program} {k:κ}
def EntryIn (w:World) (b:Nat) (d:TypeDesc) (enc:κ→Value) (val:β→Value) (m:List (κ×β)) (k:κ) (c:Nat):Prop :=
 ∃ es z,w.heap[b]?=some (.map (es.push { key:=enc k,val:=z,born:=c }) (c+1))∧Stamped es c∧es.toList.map (fun e => (e.key,e.val))=m.map (fun p => (enc p.1,val p.2))∧MNodup m∧mget m k=none∧∀ x∈es.toList,x.key≠enc k
theorem MapIs.run_entry (h:MapIs w b d enc val m) (K:KeyEnc d enc) {T kt et:TypeId} (hT:P.underlying T=some (.map kt et)) (hd:P.underlying kt=some d) {z:Value} (hz:(zeroValue et).run P w=.ok z w) (k:κ) (hn:mget m k=none) :
  ∃ w' c,(Instr.mapEntry T (.map (some b)) (enc k)).run P w=.ok (.tuple #[z,.int .i64 ((c:Nat):Int)]) w'∧EntryIn w' b d enc val m k c∧Turn (fun j => j=b) w w'∧w'.heap.size=w.heap.size:=by
 obtain ⟨es,clock,hb,hs,hm⟩:=h.obj
 rcases find_cases K hm h.nodup k with ⟨h1,h2⟩ | ⟨j,e,v,h1,_,_,_,_,h6⟩
 ·have hne:∀ x∈es.toList,x.key≠enc k:=fun x hx e => by
   have h3:(x.key,x.val)∈m.map (fun p => (enc p.1,val p.2)):=by rw [← hm]; exact List.mem_map.2 ⟨x,hx,rfl⟩
   obtain ⟨p,hp,h4⟩:=List.mem_map.1 h3
   injection h4 with h5 h6
   exact mget_none_iff.1 hn p hp (K.inj _ _ (h5.trans e))
  refine ⟨_,clock,by simp [Instr.mapEntry,run_underlying hT,MapKept.run_getObj_map hb,MapKept.run_checkKey hd (K.key k),MapKept.run_findKey hd h1,hz,MapKept.run_setObj_map _ hb,Result.andThen,goInt],⟨es,z,(heap_set hb).1,hs,hm,h.nodup,hn,hne⟩,turn_setHeap _ _ _,by simp⟩
 ·rw [hn] at h6; cases h6
theorem EntryIn.run_store (h:EntryIn w b d enc val m k c) (T:TypeId) (v:β) :
  ∃ w',(Instr.entryStore T (.map (some b)) (.int .i64 (c:Int)) (val v)).run P w=.ok () w'∧MapIs w' b d enc val (mput m k v)∧Turn (fun j => j=b) w w'∧w'.heap.size=w.heap.size:=by
 obtain ⟨es,z,hb,hs,hm,hnd,hn,hne⟩:=h
 have hidx:(es.push { key:=enc k,val:=z,born:=c }).findIdx? (fun e => (e.born:Int) == (c:Int))=some es.size:=by
  rw [Array.findIdx?_eq_some_iff_getElem]
  refine ⟨by simp,by simp,fun j hj => ?_⟩
  have h1:es[j]∈es.toList:=by simp
  have h2:=hs.1 _ h1
  rw [Array.getElem_push_lt hj]
  simp
  omega
 have hmod:(es.push { key:=enc k,val:=z,born:=c }).modify es.size (fun e => { e with val:=val v })=es.push { key:=enc k,val:=val v,born:=c }:=by
  apply Array.ext
  ·simp
  ·intro i h1 h2
   rw [Array.getElem_modify]
   by_cases e:es.size=i
   ·subst e; simp
   ·have hi:i < es.size:=by simp at h2; omega
    rw [if_neg e,Array.getElem_push_lt hi,Array.getElem_push_lt hi]
 refine ⟨_,by simp [Instr.entryStore,MapKept.run_getObj_map hb,asInt,asIntOf,hidx,MapKept.run_setObj_map _ hb,Result.andThen]; rfl,⟨⟨_,_,(heap_set hb).1,?_,?_⟩,mput_nodup hnd k v⟩,turn_setHeap _ _ _,by simp⟩
 ·rw [hmod]; exact stamped_push hs hne
 ·rw [hmod]
  unfold mput
  rw [hn]
  simp [hm]
end
end
def byteV (x:UInt8):Value:=.int .u8 x.toNat
structure BytesAt (w:World) (g cap:Nat) (l:List UInt8):Prop where
 lt:g < w.heap.size
 cell:∀ j x,l[j]?=some x→w.cell? ⟨g,j,none⟩=some (byteV x)
 there:∀ j,j < cap→(w.cell? ⟨g,j,none⟩).isSome=true
 free:∀ j,j < cap→w.frozen? ⟨g,j,none⟩=false
 le:l.length≤cap
section
variable {P:Program} {w w':World} {g cap:Nat} {l:List UInt8} {S:Nat→Prop}
theorem BytesAt.turned (h:BytesAt w g cap l) (t:Turn S w w') (hn:¬ S g):BytesAt w' g cap l :=
 ⟨Nat.lt_of_lt_of_le h.lt t.size,fun j x hj => by rw [t.cell (a:=⟨g,j,none⟩) h.lt hn]; exact h.cell j x hj,fun j hj => by rw [t.cell (a:=⟨g,j,none⟩) h.lt hn]; exact h.there j hj,fun j hj => by rw [t.frozen (a:=⟨g,j,none⟩) h.lt hn]; exact h.free j hj,h.le⟩
theorem bytes_of_string (w:World) (src dst e:TypeId) (s:ByteArray) (hs:P.underlying src=some .string) (hd:P.underlying dst=some (.slice e)) (he:P.underlying e=some (.int .u8)) :
  ∃ cap w',(convert src dst (.string s)).run P w=.ok (.slice (some ⟨w.heap.size,0,none⟩) s.size cap) w'∧BytesAt w' w.heap.size cap s.data.toList∧Turn (fun _ => False) w w'∧w.heap.size < w'.heap.size:=by
 refine ⟨_,_,run_bytes_of_string w src dst e s hs hd he,?_,((Turn.refl _ w).drew).alloc _,by simp⟩
 have hge:=grownCap_ge w s.size 0 e
 generalize grownCap w s.size 0 e=c at *
 have hsz:(bytesRow s c).size=c:=by
  unfold bytesRow
  rw [Array.size_append,Array.size_map,Array.size_replicate]
  show s.size+(c - s.size)=c
  omega
 have hc:∀ j,(w.drew.alloc (.cells (bytesRow s c) e ((bytesRow s c).size,(bytesRow s c).size+1))).cell? ⟨w.heap.size,j,none⟩=(bytesRow s c)[j]?:=fun j => World.cell?_alloc_mark w.drew _ e _ j
 refine ⟨by simp,fun j x hj => ?_,fun j hj => ?_,fun j hj => ?_,hge⟩
 ·rw [hc]
  obtain ⟨hj1,hj2⟩:=List.getElem?_eq_some_iff.1 hj
  have hj3:j < s.data.size:=by simpa using hj1
  rw [bytesRow_at s c j hj3,← hj2]
  rfl
 ·rw [hc,Array.getElem?_eq_getElem (by rw [hsz]; exact hj)]; rfl
 ·have:=World.frozen?_alloc_mark w.drew (bytesRow s c) e (bytesRow s c).size ((bytesRow s c).size+1) j
  rw [show (⟨w.heap.size,j,none⟩:Addr)=⟨w.drew.heap.size,j,none⟩ from rfl,this]
  simp only [hsz]
  rw [decide_eq_false (by omega)]
  rfl
theorem bytes_back (h:BytesAt w g cap l) (src dst e:TypeId) (c:Nat) (hs:P.underlying src=some (.slice e)) (he:P.underlying e=some (.int .u8)) (hd:P.underlying dst=some .string) :
  (convert src dst (.slice (some ⟨g,0,none⟩) l.length c)).run P w=.ok (.string ⟨l.toArray⟩) w :=
 run_convert_bytes_back w src dst e ⟨g,0,none⟩ c l hs he hd (fun j hj => by rw [Addr.add_lit,Nat.zero_add]; exact h.cell j l[j] (List.getElem?_eq_getElem hj))
theorem wpList_append_byte {ops:Array Oper} {rest:List Oper} {o:Oper} {a:Act} {Q:Exit→Act→World→Prop} {e t:TypeId} {bytes:Nat} {z:Value}
  (hg:o.guard=none) (s x:Operand) (hop:o.op=Op.call { callee:=Callee.builtin Builtin.append,args:=#[s,x],argTypes:=#[t,t] }) (hT:P.underlying t=some (.slice e)) (hI:(P.info? e).map (fun i => (i.zero,i.size,i.bytes))=some (some z,1,bytes)) (hz:z.cells.size=1) (hb:bytes≤16)
  (g cap:Nat) (l:List UInt8) (hs:a.eval s=.slice (some ⟨g,0,none⟩) l.length cap) (hi:BytesAt w g cap l) (b0 c:Nat) (y:UInt8) (hx:a.eval x=.slice (some ⟨b0,0,none⟩) 1 c) (hc:w.cell? ⟨b0,0,none⟩=some (byteV y)) (hl:l.length≤1000000)
  (hK:∀ g' cap' w',BytesAt w' g' cap' (l ++ [y])→Turn (fun j => j=g) w w'→(g'=g∨w.heap.size≤g')→wpList P ops Q rest (a.put o.dst (.slice (some ⟨g',0,none⟩) (l.length+1) cap')) w') :
  wpList P ops Q (o :: rest) a w:=by
 obtain ⟨i0,hi0,hz0,hz1,hz2⟩:=info_split hI
 refine wpList_append_arg w hg s x t hop e i0 z 1 bytes hT hi0 hz0 hz1 hz2 hz (by decide) g 0 l.length cap (l.map byteV) hs (by simp) ?olds ⟨b0,0,none⟩ 1 c [byteV y] hx rfl ?c1 ?c2 ?spare (by unfold maxLen; omega) (by
  have h2:(l.length+1) * bytes≤1000001 * 16:=Nat.mul_le_mul (by omega) hb
  omega) ?room ?grow
 case olds =>
  intro j u hj
  rw [List.getElem?_map,Option.map_eq_some_iff] at hj
  obtain ⟨b,hb1,rfl⟩:=hj
  rw [Nat.zero_add]
  exact hi.cell j b hb1
 case c1 =>
  intro j u hj
  rw [Addr.add_mid]
  cases j with
  | zero => simp at hj; subst hj; exact hc
  | succ j => simp at hj
 case c2 => intro u hu; simp at hu; subst hu; rfl
 case spare =>
  intro hr j hj
  simp at hj; subst hj
  exact ⟨by simpa using hi.there l.length (by omega),by simpa using hi.free l.length (by omega)⟩
 case room =>
  intro hr
  refine hK g cap _ ?_ ((Turn.refl _ w).setCells _ _ _ (fun _ => rfl)) (.inl rfl)
  have hth:∀ j,j < [byteV y].length→(w.cell? ⟨g,0+l.length * 1+j,none⟩).isSome=true:=fun j hj => by
   simp at hj; subst hj; simpa using hi.there l.length (by omega)
  refine ⟨Nat.lt_of_lt_of_le hi.lt ((Turn.refl (fun _ => True) w).setCells g [byteV y] _ (fun _ => trivial)).size,fun j b hj => ?_,fun j hj => ?_,fun j hj => by rw [World.frozen?_setCells]; exact hi.free j hj,by simpa using hr⟩
  ·by_cases hjl:j < l.length
   ·rw [World.cell?_setCells_out g _ _ w ⟨g,j,none⟩ (fun _ _ => .inl (by show j < 0+l.length * 1; omega))]
    rw [List.getElem?_append_left hjl] at hj
    exact hi.cell j b hj
   ·rw [List.getElem?_append_right (by omega)] at hj
    have hj0:j=l.length:=by have:=(List.getElem?_eq_some_iff.1 hj).1; simp at this; omega
    subst hj0
    simp at hj; subst hj
    have:=World.cell?_setCells_in g [byteV y] (0+l.length * 1) w hth 0 (by simp)
    simpa using this
  ·exact World.isSome_setCells g _ _ w _ (hi.there j hj)
 case grow =>
  intro hr v' w1 hown hgr
  obtain ⟨hlen,h0 | ⟨g',cap',cur,rfl,hb',hgg,hnc,hcm,hcs,htk⟩⟩:=hown
  ·omega
  ·have ho:w1.ownsRow w.heap.size e 1 (.slice (some ⟨g',0,none⟩) (l.length+1) cap') (l.length+1) (l.map byteV ++ [byteV y]):=⟨hlen,.inr ⟨g',cap',cur,rfl,hb',hgg,hnc,hcm,hcs,htk⟩⟩
   refine hK g' cap' w1 ?_ ⟨hgr.os,hgr.tape,hgr.output,hgr.size,fun k hk _ => hgr.block k hk (by simp)⟩ (.inr hb')
   refine ⟨(Array.getElem?_eq_some_iff.1 hgg).1,fun j b hj => ?_,fun j hj => ?_,fun j hj => World.ownsRow.frozenAt ho j,by simpa using hnc⟩
   ·have hjl:=(List.getElem?_eq_some_iff.1 hj).1
    rw [World.ownsRow.cellAt ho j (by simpa using hjl)]
    rw [← List.map_singleton,← List.map_append,List.getElem?_map,hj]; rfl
   ·have hc1:j < cur.size:=by rw [hcs]; omega
    simp [World.cell?,hgg,hc1]
theorem run_copy_string (w:World) (dT sT ty e:TypeId) (hu:P.underlying dT=some (.slice e)) (hsz:(P.info? e).map (·.size)=some 1) (off dLen dCap:Nat) (s:ByteArray) (hn:s.size≤dLen) (h:BytesAt w g cap l) (hfit:off+s.size≤l.length) :
  (Builtin.copy_ #[dT,sT] ty #[.slice (some ⟨g,off,none⟩) dLen dCap,.string s]).run P w=.ok (.int .i64 (s.size:Int)) (w.setCells g off (byteCells s)):=by
 have hle:=h.le
 have hst:=run_storeCells_cells (P:=P) g off (byteCells s) 0 w (fun j hj => by rw [byteCells_length] at hj; exact h.there _ (by omega)) (fun j hj => by rw [byteCells_length] at hj; exact h.free _ (by omega)) (fun u hu => by
  obtain ⟨_,_,rfl⟩:=List.mem_map.1 hu
  rfl)
 have hf:=firstCells_string (P:=P) s w
 simp only [Nat.add_zero] at hst
 have hmin:Nat.min s.size dLen=s.size:=Nat.min_eq_left hn
 cases hq:P.info? e with
 | none => simp [hq] at hsz
 | some i =>
  have hi:i.size=1:=by simpa [hq] using hsz
  simp [Builtin.copy_,run_underlying hu,Builtin.lenOf,sizeOf,typeInfo,hq,hi,hmin,hf,hst,goInt]
theorem BytesAt.copied (h:BytesAt w g cap l) (off:Nat) (s:ByteArray) (hfit:off+s.size≤l.length):BytesAt (w.setCells g off (byteCells s)) g cap (l.take off ++ s.data.toList ++ l.drop (off+s.size)):=by
 have hle:=h.le
 have hlen:(l.take off ++ s.data.toList ++ l.drop (off+s.size)).length=l.length:=by
  have:s.data.toList.length=s.size:=by simp
  simp only [List.length_append,List.length_take,List.length_drop,this]; omega
 have hth:∀ j,j < (byteCells s).length→(w.cell? ⟨g,off+j,none⟩).isSome=true:=fun j hj => by rw [byteCells_length] at hj; exact h.there _ (by omega)
 refine ⟨Nat.lt_of_lt_of_le h.lt ((Turn.refl (fun _ => True) w).setCells g (byteCells s) _ (fun _ => trivial)).size,fun j b hj => ?_,fun j hj => World.isSome_setCells g _ _ w _ (h.there j hj),fun j hj => by rw [World.frozen?_setCells]; exact h.free j hj,by rw [hlen]; exact h.le⟩
 have hsl:s.data.toList.length=s.size:=by simp
 have htl:(l.take off).length=off:=by rw [List.length_take]; omega
 by_cases h1:j < off
 ·rw [World.cell?_setCells_out g _ _ w ⟨g,j,none⟩ (fun _ _ => .inl h1)]
  rw [List.append_assoc,List.getElem?_append_left (by omega),List.getElem?_take_of_lt h1] at hj
  exact h.cell j b hj
 ·by_cases h2:j < off+s.size
  ·have hk:j - off < (byteCells s).length:=by rw [byteCells_length]; omega
   have:=World.cell?_setCells_in g (byteCells s) off w hth (j - off) hk
   rw [show off+(j - off)=j by omega] at this
   rw [this]
   rw [List.getElem?_append_left (by rw [List.length_append,htl,hsl]; omega),List.getElem?_append_right (by omega),htl] at hj
   obtain ⟨q1,q2⟩:=List.getElem?_eq_some_iff.1 hj
   refine congrArg some ?_
   have e2:(byteCells s)[j - off]?=some (byteV b):=by
    unfold byteCells
    rw [List.getElem?_map,List.getElem?_eq_getElem q1,q2]; rfl
   exact (List.getElem?_eq_some_iff.1 e2).2
  ·rw [World.cell?_setCells_out g _ _ w ⟨g,j,none⟩ (fun _ _ => .inr (by rw [byteCells_length]; show off+s.size≤j; omega))]
   rw [List.getElem?_append_right (by rw [List.length_append,htl,hsl]; omega),List.length_append,htl,hsl,List.getElem?_drop,show off+s.size+(j - (off+s.size))=j by omega] at hj
   exact h.cell j b hj
end
section
variable {w w' w1 w2 w3 wa:World} {rb nm b d c dn:Nat} {T T1 T2:PT} {B D:Int→Nat} {F:Nat→Prop} {p p' q nn:PN} {n k:Int} {s:ByteArray}
theorem zerosB_list (k:Nat):(zerosB k).data.toList=List.replicate k 0:=by
 unfold zerosB
 show (Go.Lib.repeatL [0] k).toArray.toList=_
 rw [List.toList_toArray]
 induction k with
 | zero => rfl
 | succ k ih => show [0] ++ Go.Lib.repeatL [0] k=_; rw [ih]; rfl
theorem ext_list (x:ByteArray) (a b:Nat):(x.extract a b).data.toList=(x.data.toList.take b).drop a:=by
 rw [ByteArray.data_extract,Array.toList_extract,List.extract_eq_take_drop,← List.drop_take]
theorem app_list (x y:ByteArray):(x ++ y).data.toList=x.data.toList ++ y.data.toList:=by
 rw [ByteArray.data_append,Array.toList_append]
theorem ba_ext2 {a b:ByteArray} (h:a.data.toList=b.data.toList):a=b:=ByteArray.ext (Array.toList_inj.1 h)
theorem len_list (x:ByteArray):x.data.toList.length=x.size:=by simp
theorem writeB_list (d s:ByteArray) (a k:Nat) (l:List UInt8) (hl:l=d.data.toList ++ List.replicate k 0) (hk:d.size+k=max d.size (a+s.size)) (hs:s.size≠0) :
  l.take a ++ s.data.toList ++ l.drop (a+s.size)=(writeB d a s).data.toList:=by
 have hd:=len_list d
 unfold writeB putB
 rw [app_list,app_list,ext_list,ext_list,padB_size,List.drop_zero]
 by_cases h1:d.size < a
 ·have hp:(padB d a).data.toList=d.data.toList ++ List.replicate (a - d.size) 0:=by
   unfold padB; rw [if_pos h1,app_list,zerosB_list]
  rw [hp,hl]
  have e1:(d.data.toList ++ List.replicate k 0).drop (a+s.size)=[]:=List.drop_eq_nil_of_le (by rw [List.length_append,List.length_replicate]; omega)
  have e2:((d.data.toList ++ List.replicate (a - d.size) 0).take (max d.size a)).drop (min (a+s.size) (max d.size a))=[]:=List.drop_eq_nil_of_le (by rw [List.length_take,List.length_append,List.length_replicate]; omega)
  rw [e1,e2]
  congr 2
  rw [List.take_append,List.take_append,hd,List.take_replicate,List.take_replicate]
  congr 2; omega
 ·have hp:padB d a=d:=if_neg h1
  rw [hp,hl]
  have e1:(d.data.toList ++ List.replicate k 0).take a=d.data.toList.take a:=List.take_append_of_le_length (by omega)
  rw [e1]
  congr 1
  have e3:max d.size a=d.size:=by omega
  rw [e3,List.take_of_length_le (by omega)]
  by_cases h2:d.size < a+s.size
  ·rw [List.drop_eq_nil_of_le (by rw [List.length_append,List.length_replicate]; omega),List.drop_eq_nil_of_le (by omega)]
  ·obtain rfl:k=0:=by omega
   rw [List.replicate_zero,List.append_nil,show min (a+s.size) d.size=a+s.size by omega]
theorem rwrite_is (h:RTreeIn w rb nm T D) (hok:TOk T) (n at':Int) (s:ByteArray) (hss:s.size≤4294967281) :
  Calls Tryz.prog 72 #[.pointer (some ⟨rb,0,none⟩),.int .i64 n,.int .i64 at',.string s] w fun e w' => e=.returned (.int .i64 (writeE T n at' s))∧RTreeTo rb (RFoot rb nm T D) w w' (writeT T n at' s):=by
 have H:=hid h
 have HOk:=hid hok
 have HF:=hid (rfile_is h n)
 have HSame:Hid (writeT T n at' s=T→∀ w',Turn (fun _ => False) w w'→RTreeTo rb (RFoot rb nm T D) w w' (writeT T n at' s)):=hid (fun hz w' tt => by
  rw [hz]
  exact RTreeTo.same ⟨nm,D,H.out,rfl⟩ tt)
 clear h hok
 go_enter Tryz.func72,Tryz.ntmps72
 go_wp2_with fail
 refine HF.out.mono ?_
 rintro e w1 ⟨rfl,t1⟩
 have HT1:=hid t1
 by_cases hz:fileE T n=0
 ·obtain ⟨p,hn,hd⟩:=fileE_zero hz
  have h1:=H.out.turned t1 (fun _ _ => id)
  have hh:=h1.hdr
  have H1:=hid h1
  have lk:=h1.look hn
  rw [hd] at lk
  simp only [Bool.false_eq_true,if_false] at lk
  have hdt:dataT T n=p.data:=by unfold dataT; rw [hn]; rfl
  have hsz:=HOk.out.data n p hn
  have h00:¬ (fileE T n≠0):=fun e => e hz
  have HN:=hid hn
  have HD:=hid hd
  rw [hz]
  clear hn hd hz h1 t1
  by_cases ha:at' < 0
  ·have hE:writeE T n at' s=2:=by unfold writeE; rw [if_neg h00,if_pos ha]
   have HR:=hid (HSame.out (if_neg (fun e => by rw [hE] at e; cases e.1)) w1 HT1.out)
   have HE:=hid hE
   clear h00 hdt hss hE
   go_wp2_with fail
   go_returns
   rw [HE.out]
   exact ⟨rfl,HR.out⟩
  ·obtain ⟨a,rfl⟩:∃ a:Nat,at'=a:=⟨at'.toNat,by omega⟩
   by_cases hl:200 < s.size
   ·have hE:writeE T n a s=4:=by unfold writeE; rw [if_neg h00,if_neg ha,if_pos (.inl hl)]
    have HR:=hid (HSame.out (if_neg (fun e => by rw [hE] at e; cases e.1)) w1 HT1.out)
    have hl':(200:Int) < s.size:=by omega
    have HE:=hid hE
    clear h00 hdt hss hE
    go_wp2_with fail
    go_returns
    rw [HE.out]
    exact ⟨rfl,HR.out⟩
   ·have hl':¬ (200:Int) < s.size:=by omega
    have hw0:wrap64 (200 - (s.size:Int))=200 - s.size:=IntWalk.wrap64_in _ (by omega)
    by_cases hl2:200 - (s.size:Int) < a
    ·have hE:writeE T n a s=4:=by unfold writeE; rw [if_neg h00,if_neg ha,if_pos (.inr hl2)]
     have HR:=hid (HSame.out (if_neg (fun e => by rw [hE] at e; cases e.1)) w1 HT1.out)
     have HE:=hid hE
     clear h00 hdt hss hE
     go_wp2_with fail
     go_returns
     rw [HE.out]
     exact ⟨rfl,HR.out⟩
    ·have hE:writeE T n a s=0:=by unfold writeE; rw [if_neg h00,if_neg ha,if_neg (fun e => e.elim hl hl2)]
     by_cases h0:s.size=0
     ·have HR:=hid (HSame.out (if_neg (fun e => e.2 h0)) w1 HT1.out)
      have he:s.toList.isEmpty=true:=by rw [toList_empty]; exact decide_eq_true h0
      have HE:=hid hE
      clear h00 hdt hss hE
      go_wp2_with fail
      go_returns
      rw [HE.out]
      exact ⟨rfl,HR.out⟩
     ·have he:s.toList.isEmpty=false:=by rw [toList_empty]; exact decide_eq_false h0
      have hT:writeT T n a s=mput T n { p with data:=writeB p.data a s }:=by
       unfold writeT
       rw [if_pos ⟨hE,h0⟩,hdt,setDataT_is HN.out]; rfl
      obtain ⟨x,hx⟩:∃ x,p.data=x:=⟨_,rfl⟩
      rw [hx] at lk hsz hT
      obtain ⟨k,hk⟩:∃ k,x.size+k=max x.size (a+s.size):=⟨max x.size (a+s.size) - x.size,by omega⟩
      obtain ⟨W,hW⟩:∃ W,w1.alloc (.cells #[.map none,.bool false,.string x,.int .i64 (p.held:Int)] 77)=W:=⟨_,rfl⟩
      have tW:Turn (fun _ => False) w1 W:=by rw [← hW]; exact (Turn.refl _ _).alloc _
      have hsW:W.heap.size=w1.heap.size+1:=by rw [← hW]; simp
      have hcW:∀ j v,#[Value.map none,.bool false,.string x,.int .i64 (p.held:Int)][j]?=some v→W.cell? ⟨w1.heap.size,j,none⟩=some v:=fun j v hj => by rw [← hW,World.cell?_alloc_mark]; exact hj
      obtain ⟨c0,w2,hcv,hB2,t2,hs2⟩:=bytes_of_string (P:=Tryz.prog) W 9 171 5 x Tryz.underlying9 Tryz.underlying171 Tryz.underlying5
      obtain ⟨G,hG⟩:∃ G,W.heap.size=G:=⟨_,rfl⟩
      rw [hG] at hcv hB2 hs2 hsW
      have HG:=hid hG
      have HB2:=hid hB2
      have HT2:=hid t2
      have HS2:=hid hs2
      have HTW:=hid tW
      have HSW:=hid hsW
      have HCW:=hid hcW
      have HT:=hid hT
      have HE:=hid hE
      have HK:=hid hk
      have hsum:wrap64 ((a:Int)+s.size)=((a+s.size:Nat):Int):=by rw [IntWalk.wrap64_in _ (by omega)]; omega
      have hlx:x.data.toList.length=x.size:=len_list x
      have HLx:=hid hlx
      have Hsum:=hid hsum
      rw [← hW] at hcv
      have HW:=hid hW
      clear h00 hdt hE hT hB2 t2 hs2 tW hsW hcW hx hk hG hlx hsum hW
      go_wp2_with fail
      have e0:((x.size:Nat))=x.data.toList.length:=HLx.out.symm
      rw [e0]
      clear e0
      go_loopg [11] (k) (fun gl v wr => ∃ (g cap:Nat) (l:List UInt8) (i:Nat),v=.slice (some ⟨g,0,none⟩) l.length cap∧Hid (BytesAt wr g cap l)∧Hid (l=x.data.toList ++ List.replicate i 0)∧i+gl=k∧Hid (G≤g)∧Hid (Turn (fun _ => False) W wr))
      case atStart => exact ⟨G,c0,x.data.toList,0,rfl,HB2,hid (by simp),by omega,hid (Nat.le_refl _),HT2⟩
      case round =>
       obtain ⟨g,cap,l,i,rfl,hB,hL,hik,hg,hT⟩:=hrel
       have hll:l.length=x.size+i:=by rw [hL.out,List.length_append,List.length_replicate,HLx.out]
       have HLl:=hid hll
       by_cases hlt:i < k
       ·have hlt':(l.length:Int) < ((a+s.size:Nat):Int):=by have:=HK.out; omega
        have HB1:Hid (BytesAt (wr.alloc (.cells #[.int .u8 0] 5)) g cap l):=hid (hB.out.turned ((Turn.refl (fun _ => False) _).alloc _) id)
        have HC1:Hid ((wr.alloc (.cells #[.int .u8 0] 5)).cell? ⟨wr.heap.size,0,none⟩=some (byteV 0)):=hid (by simp; rfl)
        have hl9:l.length≤1000000:=by have:=HK.out; omega
        have hs1:=Hsum.out
        clear hll
        go_wp2_with (at_builtin; refine wpList_append_byte (z:=.int .u8 0) (bytes:=1) rfl _ _ rfl Tryz.underlying171 (by kernel_rfl) rfl (by decide) g cap l rfl HB1.out wr.heap.size 1 0 rfl HC1.out hl9 ?_; intro g3 z3 w3 hi3 t3 ho3; have HI3:=hid hi3; have HT3:=hid t3; have HO3:=hid ho3; clear hi3 t3 ho3)
        go_roundg (gk - 1)
        case measure => omega
        case rel =>
         refine ⟨g3,z3,l ++ [0],i+1,by rw [List.length_append]; rfl,HI3,hid ?_,by omega,hid ?_,hid ?_⟩
         ·rw [hL.out,List.append_assoc,List.replicate_succ']
         ·rcases HO3.out with h | h
          ·rw [h]; exact hg.out
          ·rw [World.size_alloc] at h
           have:=hT.out.size
           have:=HG.out
           omega
         ·exact (hT.out.alloc _).trans' HT3.out (fun j hj e => by have:=hg.out; have:=HG.out; omega)
       ·have hlt':¬ (l.length:Int) < ((a+s.size:Nat):Int):=by have:=HK.out; omega
        have hik':i=k:=by omega
        have hfit:a+s.size≤l.length:=by omega
        have hacap:a+s.size≤cap:=Nat.le_trans hfit hB.out.le
        have hcpy:=run_copy_string (P:=Tryz.prog) wr 171 9 3 5 Tryz.underlying171 (by kernel_rfl) a (l.length - a) (cap - a) s (by omega) hB.out hfit
        have hB4:=hB.out.copied a s hfit
        have t4:Turn (fun _ => False) W (wr.setCells g a (byteCells s)):=hT.out.setCells _ _ _ (fun e => by have:=hg.out; have:=HG.out; omega)
        obtain ⟨w4,hw4⟩:∃ w4,wr.setCells g a (byteCells s)=w4:=⟨_,rfl⟩
        rw [hw4] at hcpy hB4 t4
        have hlen4:(l.take a ++ s.data.toList ++ l.drop (a+s.size)).length=l.length:=by
         have h9:s.data.toList.length=s.size:=by simp
         rw [List.length_append,List.length_append,List.length_take,List.length_drop,h9]; omega
        have hbk:=bytes_back (P:=Tryz.prog) hB4 171 9 5 cap Tryz.underlying171 Tryz.underlying5 Tryz.underlying9
        have hY:(⟨(l.take a ++ s.data.toList ++ l.drop (a+s.size)).toArray⟩:ByteArray)=writeB x a s:=by
         refine ba_ext2 ?_
         rw [List.toList_toArray]
         exact writeB_list x s a i l hL.out (by rw [hik']; exact HK.out) h0
        rw [hlen4,hY] at hbk
        obtain ⟨Y,hYe⟩:∃ Y,writeB x a s=Y:=⟨_,rfl⟩
        rw [hYe] at hbk
        have hc4:∀ j v,#[Value.map none,.bool false,.string x,.int .i64 (p.held:Int)][j]?=some v→w4.cell? ⟨w1.heap.size,j,none⟩=some v:=fun j v hj => (t4.cell (a:=⟨w1.heap.size,j,none⟩) (by have:=HSW.out; have:=HG.out; show w1.heap.size < _; omega) id).trans (HCW.out j v hj)
        have q0:w4.cell? ⟨w1.heap.size,0,none⟩=some (.map none):=hc4 0 _ rfl
        have q1:w4.cell? ⟨w1.heap.size,1,none⟩=some (.bool false):=hc4 1 _ rfl
        have q2:w4.cell? ⟨w1.heap.size,2,none⟩=some (.string x):=hc4 2 _ rfl
        have q3:w4.cell? ⟨w1.heap.size,3,none⟩=some (.int .i64 (p.held:Int)):=hc4 3 _ rfl
        have f4:∀ j,w4.frozen? ⟨w1.heap.size,j,none⟩=false:=fun j => by
         rw [t4.frozen (a:=⟨w1.heap.size,j,none⟩) (by have:=HSW.out; have:=HG.out; show w1.heap.size < _; omega) id,← HW.out]
         exact World.frozen?_alloc_new _ _ _ _
        have f42:=f4 2
        have HB4:=hid hB4
        have HT4:=hid t4
        have HYe:=hid hYe
        have hs1:=Hsum.out
        have hcp:=hcpy
        clear hcpy
        have ha9:a < l.length:=Nat.lt_of_lt_of_le (Nat.lt_add_of_pos_right (Nat.pos_of_ne_zero h0)) hfit
        have ha8:(a:Int)≤l.length:=Int.ofNat_le.2 (Nat.le_of_lt ha9)
        have hac:a < cap:=Nat.lt_of_lt_of_le (Nat.lt_add_of_pos_right (Nat.pos_of_ne_zero h0)) hacap
        have hal:(l.length:Int)≤cap:=Int.ofNat_le.2 hB.out.le
        clear hB4 hll hw4 hlen4 hY hc4 f4 t4 hYe
        obtain ⟨w5,hw5⟩:∃ w5,w4.setCell ⟨w1.heap.size,2,none⟩ (.string Y)=w5:=⟨_,rfl⟩
        have t5:Turn (fun _ => False) w1 w5:=by
         rw [← hw5]
         exact (HTW.out.trans HT4.out).setCell _ _ (fun e => absurd e (Nat.lt_irrefl _))
        obtain ⟨w6,hrun,hin6,t6,hf6⟩:=rstore_fin H1.out HN.out HD.out { p with data:=Y } HD.out rfl t5.drew
        have hto:RTreeTo rb (RFoot rb nm T D) w w6 (writeT T n a s):=by
         rw [HT.out,HYe.out]
         exact ⟨_,⟨nm,D,hin6,rfl⟩,(HT1.out.mono (fun _ _ h => h.elim)).trans t6,fun j hj => .inl (hf6 j hj),fun v hv => hin6.hdr.trans (H.out.hdr.symm.trans hv)⟩
        have HTo:=hid hto
        have h5:=(H1.out.turned t5 (fun _ _ => id)).hdr
        simp only at hrun
        rw [← hw5] at hrun h5
        clear hl hl2 hl' ha hsz hlt hik hik' hfit hacap h0 hw5 t5 hin6 t6 hf6 hto
        go_upto_region 16 with fail
        clear lk hcv hbk hcp
        go_region
        all_goals go_wp2_with fail
        all_goals go_returns
        all_goals rw [HE.out]
        all_goals exact ⟨rfl,HTo.out⟩
 ·have hE:writeE T n at' s=fileE T n:=if_pos hz
  have HR:=hid (HSame.out (if_neg (fun e => by rw [hE] at e; exact hz e.1)) w1 t1)
  have hzn:(fileE T n != 0)=true:=by simpa using hz
  have HE:=hid hE
  generalize fileE T n=zz at *
  clear hz hE t1
  go_wp2_with fail
  go_returns
  rw [HE.out]
  exact ⟨rfl,HR.out⟩
end
theorem errno_no_unwrap (v:Value) (xT:TypeId) (w:World):(Instr.typeAssert (.iface 35 v) xT 155 true).run Tryz.prog w=.ok (.tuple #[.nilIface,.bool false]) w:=run_typeAssert_lacksB Tryz.underlying155 (by kernel_rfl) (by kernel_rfl) v xT w
theorem errno_no_at (v:Value) (w:World):(Instr.typeAssert (.iface 35 v) 31 152 true).run Tryz.prog w=.ok (.tuple #[.pointer none,.bool false]) w:=by kernel_rfl
theorem place_nil (w:World):Calls Tryz.prog 49 #[.nilIface] w fun e w' => e=.returned (.tuple #[.int .i64 0,.int .i64 (-1)])∧w'=w:=by
 go_enter Tryz.func49,Tryz.ntmps49
 go_wp2_with fail
 refine (tell_nil w).mono ?_
 rintro e w1 ⟨rfl,rfl⟩
 go_wp2_with fail
 refine wp_loop_rounds 1 ?_
 rw [rounds_succ]
 go_wp2_with fail
 go_ret2
 exact ⟨rfl,rfl⟩
theorem place_errno (z:Int) (w:World) (hg:Laid w):Calls Tryz.prog 49 #[.iface 35 (.int .i64 z)] w fun e w' => e=.returned (.tuple #[.int .i64 z,.int .i64 (-1)])∧Turn (fun _ => False) w w':=by
 have HTe:=hid (tell_errno z w hg)
 have nu:=errno_no_unwrap
 have na:=errno_no_at
 clear hg
 go_enter Tryz.func49,Tryz.ntmps49
 go_wp2_with fail
 refine HTe.out.mono ?_
 rintro e w1 ⟨rfl,t1⟩
 have T1:=hid t1
 clear t1
 go_wp2_with fail
 refine wp_loop_rounds 1 ?_
 rw [rounds_succ]
 go_wp2_with fail
 go_ret2
 exact ⟨rfl,T1.out⟩
/-! ### is,bare: only where they say yes -/
theorem is_nil (w:World):Calls Tryz.prog 20 #[.nilIface,.agg #[.int .i64 0,.int .i64 (-1)]] w fun e w' => e=.returned (.bool true)∧Turn (fun _ => False) w w':=by
 go_enter Tryz.func20,Tryz.ntmps20
 go_wp2_with fail
 refine (place_nil _).mono ?_
 rintro e w1 ⟨rfl,rfl⟩
 go_wp2_with fail
 go_ret
 exact ⟨rfl,(Turn.refl _ _).alloc _⟩
theorem is_errno (z:Int) (w:World) (hg:Laid w):Calls Tryz.prog 20 #[.iface 35 (.int .i64 z),.agg #[.int .i64 z,.int .i64 (-1)]] w fun e w' => e=.returned (.bool true)∧Turn (fun _ => False) w w':=by
 have HA:=hid (hg.turned0 ((Turn.refl (fun _ => False) w).alloc (.cells #[.int .i64 z,.int .i64 (-1)] 83)))
 have c0:(w.alloc (.cells #[.int .i64 z,.int .i64 (-1)] 83)).cell? ⟨w.heap.size,0,none⟩=some (.int .i64 z):=by simp
 have c1:(w.alloc (.cells #[.int .i64 z,.int .i64 (-1)] 83)).cell? ⟨w.heap.size,1,none⟩=some (.int .i64 (-1)):=by simp
 have T0:Turn (fun _ => False) w (w.alloc (.cells #[.int .i64 z,.int .i64 (-1)] 83)):=(Turn.refl _ _).alloc _
 have hz:(z == z)=true:=by simp
 clear hg
 go_enter Tryz.func20,Tryz.ntmps20
 go_wp2_with fail
 generalize w.alloc (.cells #[.int .i64 z,.int .i64 (-1)] 83)=W1 at *
 refine (place_errno z _ HA.out).mono ?_
 rintro e w1 ⟨rfl,t1⟩
 have d0:=(t1.cell (a:=⟨w.heap.size,0,none⟩) (lt_of_cell c0) id).trans c0
 have d1:=(t1.cell (a:=⟨w.heap.size,1,none⟩) (lt_of_cell c1) id).trans c1
 have T1:=hid (T0.trans t1)
 clear t1 c0 c1 T0
 go_wp2_with fail
 go_ret
 exact ⟨rfl,T1.out⟩
theorem refBare (z:Int) (w:World):Calls Tryz.prog 21 #[.int .i64 z] w fun e w' => e=.returned (.agg #[.int .i64 z,.int .i64 (-1)])∧Turn (fun _ => False) w w':=by
 go_enter Tryz.func21,Tryz.ntmps21
 go_wp2_with fail
 go_returns
 exact ⟨by simp,(Turn.refl _ _).alloc _⟩
theorem bare_nil (w:World):Calls Tryz.prog 8 #[.nilIface,.int .i64 0] w fun e w' => e=.returned (.bool true)∧Turn (fun _ => False) w w':=by
 go_enter Tryz.func8,Tryz.ntmps8
 go_wp2_with fail
 refine (refBare 0 _).mono ?_
 rintro e w1 ⟨rfl,t1⟩
 have T1:=hid t1
 clear t1
 go_wp2_with fail
 refine (is_nil _).mono ?_
 rintro e w2 ⟨rfl,t2⟩
 have T2:=hid (T1.out.trans t2)
 clear t2
 go_wp2_with fail
 go_ret
 exact ⟨rfl,T2.out⟩
theorem bare_errno (z:Int) (w:World) (hg:Laid w):Calls Tryz.prog 8 #[.iface 35 (.int .i64 z),.int .i64 z] w fun e w' => e=.returned (.bool true)∧Turn (fun _ => False) w w':=by
 have HG:=hid hg
 clear hg
 go_enter Tryz.func8,Tryz.ntmps8
 go_wp2_with fail
 refine (refBare z _).mono ?_
 rintro e w1 ⟨rfl,t1⟩
 have T1:=hid t1
 clear t1
 go_wp2_with fail
 refine (is_errno z _ (HG.out.turned0 T1.out)).mono ?_
 rintro e w2 ⟨rfl,t2⟩
 have T2:=hid (T1.out.trans t2)
 clear t2
 go_wp2_with fail
 go_ret
 exact ⟨rfl,T2.out⟩
theorem wpAnyH_stronger {P:Program} {ops:Array Oper} {Q:Exit→Act→World→Prop} {md:Region.Mode} {S S2:World→Prop} (hs:∀ w,S2 w→S w):∀ (fuel:Nat) (listed:Array Bool) (a:Act) (w:World),wpAnyH P md ops Q S2 fuel listed a w→wpAnyH P md ops Q S fuel listed a w
 | 0,_,_,_,h => h
 | fuel+1,_,_,_,h => ⟨h.1,fun i hi => wpOp_mono (fun a' w' h' => ⟨hs _ h'.1,wpAnyH_stronger hs fuel _ a' w' h'.2⟩) (h.2 i hi)⟩
end Go.Proofs.YtncfmlifponjdaaGreatDoor
