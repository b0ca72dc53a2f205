/- The document's files: Dup2. Conditions: each theorem's own premises. The document's files: an entry comes. Conditions: each theorem's own premises. The document's files: add. Conditions: each theorem's own premises. The document's files: NewFiles. Conditions: each theorem's own premises. The document's files: a pipe comes. Conditions: each theorem's own premises. The document's files: tables beside a change of numbers. Conditions: each theorem's own premises. The document's files within a call: the tree changes, all else is as it was. Conditions: each theorem's own premises. The document's files: Pipe. Conditions: each theorem's own premises. The document's files: Pipe, granted or refused. Conditions: each theorem's own premises. The document's files: File. Conditions: each theorem's own premises. The document's files: Read. Conditions: each theorem's own premises. The document's files: Write. Conditions: each theorem's own premises. The document's files: Fork. Conditions: each theorem's own premises. The document's files: Free. Conditions: each theorem's own premises. -/
import Derived.Test.YtncfmlifponjdaaGreatDoorRefClose
import Derived.Test.YtncfmlifponjdaaGreatDoorDescLaw
import Derived.Test.YtncfmlifponjdaaGreatDoorRefNames
import Derived.Test.YtncfmlifponjdaaGreatDoorDescTab
import Derived.Deep.RegionHeld3
namespace Go.Proofs.YtncfmlifponjdaaGreatDoor
open Go.RowKit
set_option linter.unusedVariables false
set_option maxHeartbeats 4000000
set_option maxRecDepth 100000
section
variable {w w' w1:World} {fb rb eb rf pb tab:Nat} {S S':PS} {φ:Int→Int} {π:Nat→Int} {nx n k:Int} {F Ft:Nat→Prop} {L L':PTab} {e:PE}
theorem rdup2_is (h:RFilesIs w fb rb S φ π nx F) (hS:DOk S) (hto:TOk S.T) (ha:Alive S.T) (hbd:∀ n p,mget S.T n=some p→p.ds.length≤1000000∧p.held≤1000000000) (ht:RTabIs w tab (relL φ L)) (hok:TabOk S L) (hn:¬ F tab) (n to_:Int) (hb:∀ k e,mget S.es k=some e→e.refs < 999000) :
  Calls Tryz.prog 29 #[.pointer (some ⟨fb,0,none⟩),.pointer (some ⟨tab,0,none⟩),.int .i64 n,.int .i64 to_] w fun e w' => e=.returned (.int .i64 (dup2E S L n to_))∧RFilesTo fb rb tab F w w' S (dup2S S L n to_) φ nx (dup2L S L n to_):=by
 have HH:=hid (rhas_rel h ht hok n)
 have HK:Hid (∀ w',Turn (fun _ => False) w w'→RFilesTo fb rb tab F w w' S S φ nx L):=hid (fun w' t => .same (h.turned t (fun _ _ => id)) (ht.turned t id) t hn)
 cases hx:entL S L n with
 | none =>
  have e1:dup2E S L n to_=7:=by unfold dup2E; rw [hx]; rfl
  have e2:dup2S S L n to_=S:=if_neg (fun h => by rw [e1] at h; exact absurd h.1 (by decide))
  have e4:dup2L S L n to_=L:=if_neg (fun h => by rw [e1] at h; exact absurd h.1 (by decide))
  have e5:(slotL L n).isSome=false:=by rw [entL_none hok hx]; rfl
  rw [e5] at HH
  rw [e1,e2,e4]
  clear h ht hok hn hx e1 e2 e4 e5
  go_enter Tryz.func29,Tryz.ntmps29
  go_wp2_with fail
  refine HH.out.mono ?_
  rintro e w1 ⟨rfl,hw⟩; subst w1
  go_wp2_with fail
  go_returns
  exact ⟨rfl,HK.out _ (Turn.refl _ _)⟩
 | some x =>
  obtain ⟨k,e⟩:=x
  have hs:=(entL_some hx).1
  have he:=(entL_some hx).2
  obtain ⟨hn0,hn8,hnz,hnk⟩:=slotL_some hs
  have e5:(slotL L n).isSome=true:=by rw [hs]; rfl
  rw [e5] at HH
  have eE:dup2E S L n to_=if to_ < 0∨8≤to_ then 2 else 0:=by unfold dup2E; rw [hx]; rfl
  by_cases hr:0≤to_∧to_≤7
  ·have e1:dup2E S L n to_=0:=by rw [eE,if_neg (by omega)]
   have HIn:=hid (fun w' => inR_yes to_ 0 7 hr.1 hr.2 w')
   by_cases hnt:n=to_
   ·have e2:dup2S S L n to_=S:=if_neg (fun h => h.2 hnt)
    have e4:dup2L S L n to_=L:=if_neg (fun h => h.2 hnt)
    rw [e1,e2,e4]
    subst hnt
    clear h ht hok hn hx e1 e2 e4 e5 he hs hnz hnk hS hto ha hbd hb eE hr
    go_enter Tryz.func29,Tryz.ntmps29
    go_wp2_with fail
    refine HH.out.mono ?_
    rintro e' w1 ⟨rfl,hw⟩; subst w1
    go_wp2_with fail
    refine (HIn.out _).mono ?_
    rintro e' w1 ⟨rfl,hw⟩; subst w1
    go_wp2_with fail
    go_returns
    exact ⟨rfl,HK.out _ (Turn.refl _ _)⟩
   ·have eb1:bumpE S L n=putS S k { e with refs:=e.refs+1 }:=bumpE_is hx
    have e2:dup2S S L n to_=closeS (bumpE S L n) L to_:=if_pos ⟨e1,hnt⟩
    have e4:dup2L S L n to_=tset (closeL (bumpE S L n) L to_) to_.toNat ((L n.toNat).1,false):=if_pos ⟨e1,hnt⟩
    rw [e1,e2,e4,eb1]
    obtain ⟨eb,rf,pb,Ft,hin,rfl⟩:=h
    have hi8:n.toNat < 8:=by omega
    have hniz:(n.toNat:Int)=n:=by omega
    have ht8:to_.toNat < 8:=by omega
    have htiz:(to_.toNat:Int)=to_:=by omega
    have hnj:n.toNat≠to_.toNat:=by omega
    have hrf:=hb k e he
    have hrw:IntKind.i64.wrap ((e.refs:Int)+1)=(e.refs:Int)+1:=IntWalk.i64_in _ (by omega)
    have c0:=ht.ent n.toNat hi8
    rw [rel_at hnz hnk] at c0
    have r1:=hin.h2
    have td:Turn (fun _ => False) w w.drew:=(Turn.refl _ _).drew
    have lk:=(hin.still td).lookR he
    obtain ⟨w5,hrun,hm5,t5⟩:=(hin.still td).mR.run_update (P:=Tryz.prog) keyI Tryz.underlying59 Tryz.underlying3 (φ k) (e.refs+1)
    obtain ⟨S1,hS1⟩:∃ S1,putS S k { e with refs:=e.refs+1 }=S1:=⟨_,rfl⟩
    have hT1:S1.T=S.T:=by rw [← hS1]; rfl
    have hin1:RFilesIs w5 fb rb S1 φ π nx (RFoots fb eb rf pb Ft):=⟨eb,rf,pb,Ft,by rw [← hS1]; exact (hin.still td).setRefs hS.nd he rfl hm5 t5,rfl⟩
    have ht1:RTabIs w5 tab (relL φ L):=(ht.turned td id).turned t5 (fun e => hn (.inr (.inr (.inr (.inl e)))))
    have hok1:TabOk S1 L:=by rw [← hS1]; exact hok.put
    have hd1:DOk S1:=by rw [← hS1]; exact hS.bump hb he
    have hC:=rclose_is hin1 hd1 (by rw [hT1]; exact hto) (by rw [hT1]; exact ha) (by rw [hT1]; exact hbd) ht1 hok1 hn to_
    have hL1:closeL S1 L to_ n.toNat=L n.toNat:=by
     unfold closeL
     cases entL S1 L to_ with
     | none => rfl
     | some y => exact if_neg hnj
    have hkey:∀ j f,mget S.es j=some f→∃ g,mget S1.es j=some g:=fun j f hj => by
     rw [← hS1]
     show ∃ g,mget (mput S.es k _) j=some g
     rw [mget_mput]
     by_cases c:j=k
     ·exact ⟨_,if_pos c⟩
     ·exact ⟨f,(if_neg c).trans hj⟩
    have tF:Turn (fun j => RFoots fb eb rf pb Ft j∨j=tab) w w5:=(td.mono (fun _ _ h => h.elim)).trans (t5.mono (fun _ _ e => .inl (.inr (.inr (.inr (.inl e))))))
    obtain ⟨K,hK⟩:∃ K,φ k=K:=⟨_,rfl⟩
    rw [hK] at c0 lk hrun
    replace hrun:(Instr.mapUpdate 59 (.map (some rf)) (.int .i64 K) (.int .i64 ((e.refs:Int)+1))).run Tryz.prog w.drew=.ok () w5:=hrun
    rw [hS1]
    have HC:=hid hC
    have HKey:=hid hkey
    have HL1:=hid hL1
    have HTF:=hid tF
    have HNz:=hid (And.intro hnz hnk)
    have HN:=hid hn
    clear hin ht hok hn hx e1 e2 e4 e5 he hs hnz hnk hS hto ha hbd hb eE hr td hm5 t5 hS1 hT1 hin1 ht1 hok1 hd1 hC hL1 hkey tF eb1 HK hK
    go_enter Tryz.func29,Tryz.ntmps29
    go_wp2_with fail
    refine HH.out.mono ?_
    rintro e' w1 ⟨rfl,hw⟩; subst w1
    go_wp2_with fail
    refine (HIn.out _).mono ?_
    rintro e' w1 ⟨rfl,hw⟩; subst w1
    go_wp2_with fail
    go_region
    all_goals
     clear c0 r1 lk
     go_wp2_with fail
     refine HC.out.mono ?_
     rintro e' w7 ⟨rfl,F',φ',π',nx',hf7,ht7,t7,hnew,hn7,hφ,hnx⟩
     have c0:=ht7.ent n.toNat hi8
     have hp0:=ht7.pos n.toNat hi8
     have c2:=ht7.ent to_.toNat ht8
     have c3:=ht7.mark to_.toNat ht8
     have z2:=ht7.fz (to_.toNat * 2)
     have z3:=ht7.fz (to_.toNat * 2+1)
     have hent:(relL φ' (closeL S1 L to_) n.toNat).1=φ' k:=by
      show (if (closeL S1 L to_ n.toNat).1=0 then 0 else φ' ((closeL S1 L to_ n.toNat).1 - 1))=φ' k
      rw [HL1.out,if_neg HNz.out.1,HNz.out.2]
     rw [hent] at c0 hp0
     have HFin:Hid (RFilesTo fb rb tab (RFoots fb eb rf pb Ft) w (((w7.setCell ⟨tab,to_.toNat * 2,none⟩ (.int .i64 (φ' k))).setCell ⟨tab,to_.toNat * 2+1,none⟩ (.bool false)).drew) S (closeS S1 L to_) φ nx (tset (closeL S1 L to_) to_.toNat ((L n.toNat).1,false))):=hid (by
      have tS:Turn (fun q => q=tab) w7 (((w7.setCell ⟨tab,to_.toNat * 2,none⟩ (.int .i64 (φ' k))).setCell ⟨tab,to_.toNat * 2+1,none⟩ (.bool false)).drew):=(((Turn.refl (fun q => q=tab) w7).setCell ⟨tab,to_.toNat * 2,none⟩ _ (fun _ => rfl)).setCell ⟨tab,to_.toNat * 2+1,none⟩ _ (fun _ => rfl)).drew
      refine ⟨F',φ',π',nx',hf7.turned tS (fun q hq e => hn7 (e ▸ hq)),?_,?_,fun j hj => ?_,hn7,fun j f hj => ?_,hnx⟩
      ·rw [rel_tset,if_neg HNz.out.1,HNz.out.2]
       exact (ht7.set ht8 _ false hp0).turned (S:=fun _ => False) (Turn.refl _ _).drew id
      ·exact (HTF.out.trans t7).trans (tS.mono (fun _ _ e => .inr e))
      ·rcases hnew j hj with h | h
       ·exact .inl h
       ·have:=HTF.out.size
        exact .inr (by omega)
      ·obtain ⟨g,hg⟩:=HKey.out j f hj
       exact hφ j g hg)
     clear hf7 ht7 t7 hnew hn7 hφ hnx hent hp0 HC
     go_wp2_with fail
     go_region
     go_wp2_with fail
     go_returns
     exact ⟨rfl,HFin.out⟩
  ·have e1:dup2E S L n to_=2:=by rw [eE,if_pos (by omega)]
   have e2:dup2S S L n to_=S:=if_neg (fun h => by rw [e1] at h; exact absurd h.1 (by decide))
   have e4:dup2L S L n to_=L:=if_neg (fun h => by rw [e1] at h; exact absurd h.1 (by decide))
   have HIn:=hid (fun w' => inR_no to_ 0 7 hr w')
   rw [e1,e2,e4]
   clear h ht hok hn hx e1 e2 e4 e5 he hs hnz hnk hS hto ha hbd hb eE hr
   go_enter Tryz.func29,Tryz.ntmps29
   go_wp2_with fail
   refine HH.out.mono ?_
   rintro e' w1 ⟨rfl,hw⟩; subst w1
   go_wp2_with fail
   refine (HIn.out _).mono ?_
   rintro e' w1 ⟨rfl,hw⟩; subst w1
   go_wp2_with fail
   go_returns
   exact ⟨rfl,HK.out _ (Turn.refl _ _)⟩
end
section
variable {w w' w1:World} {fb rb eb rf pb tab:Nat} {S S':PS} {φ:Int→Int} {π:Nat→Int} {nx n k:Int} {F Ft:Nat→Prop} {L L':PTab} {e:PE}
theorem relab_new_alone {es:List (Int×PE)} {φ:Int→Int} {x:Int} (hk:mget es k=none) (hx:∀ t∈es,φ t.1≠x):Alone (updK φ k x) (mput es k e) k:=fun t ht c => by
 have e1:mput es k e=es ++ [(k,e)]:=by unfold mput; rw [hk]; rfl
 rw [e1] at ht
 rcases List.mem_append.1 ht with h | h
 ·by_cases c2:t.1=k
  ·exact c2
  ·rw [updK_ne c2,updK_at] at c
   exact absurd c (hx t h)
 ·rw [List.mem_singleton.1 h]
theorem RFilesIn.come (h:RFilesIn w fb rb eb rf pb S φ π nx Ft) (hnd:MNodup S.es) (hk:mget S.es k=none) (hnx:nx+1≤500000) (hr:e.refs=1)
  (h0:w'.cell? ⟨fb,0,none⟩=some (.pointer (some ⟨rb,0,none⟩))) (h1:w'.cell? ⟨fb,1,none⟩=some (.map (some eb))) (h2:w'.cell? ⟨fb,2,none⟩=some (.map (some rf))) (h3:w'.cell? ⟨fb,3,none⟩=some (.map (some pb))) (h4:w'.cell? ⟨fb,4,none⟩=some (.int .i64 (nx+1))) (hf:∀ i,w'.frozen? ⟨fb,i,none⟩=false)
  (hm1:MapIs w' eb (.int .i64) encI reV (mput (relab φ (fE π) S.es) (nx+1) (fE π e))) (hm2:MapIs w' rf (.int .i64) encI encNt (mput (relab φ (·.refs) S.es) (nx+1) 1)) (t:Turn (fun j => j=fb∨j=eb∨j=rf) w w') :
  RFilesIn w' fb rb eb rf pb (putS S k e) (updK φ k (nx+1)) π (nx+1) Ft:=by
 obtain ⟨p1,p2,p3,p4,p5,p6⟩:=h.ap
 have hx:∀ u∈S.es,φ u.1≠nx+1:=fun u hu c => by
  have h1:=mget_mem hnd hu
  have:=(h.al u.1 u.2 h1).2
  omega
 have hn0:=h.nx0
 exact {
  h0:=h0,h1:=h1,h2:=h2,h3:=h3,h4:=h4,fz:=hf
  tr:=h.tr.turned t (fun q hq e => by
   rcases e with e | e | e
   ·exact h.out.1 (e ▸ hq)
   ·exact h.out.2.1 (e ▸ hq)
   ·exact h.out.2.2.1 (e ▸ hq))
  mE:=by
   show MapIs w' eb (.int .i64) encI reV (relab (updK φ k (nx+1)) (fE π) (mput S.es k e))
   rw [← relab_new hk hx]; exact hm1
  mR:=by
   have e1:relab (updK φ k (nx+1)) (·.refs) (mput S.es k e)=mput (relab φ (·.refs) S.es) (nx+1) e.refs:=(relab_new (f:=(·.refs)) hk hx).symm
   show MapIs w' rf (.int .i64) encI encNt (relab (updK φ k (nx+1)) (·.refs) (mput S.es k e))
   rw [e1,hr]; exact hm2
  mP:=h.mP.turned t (fun e => by
   rcases e with e | e | e
   ·exact p3 e.symm
   ·exact p5 e.symm
   ·exact p6 e.symm)
  al:=fun j f hj => by
   have hj:mget (mput S.es k e) j=some f:=hj
   by_cases c:j=k
   ·subst c
    refine ⟨relab_new_alone hk hx,?_⟩
    rw [updK_at]; omega
   ·rw [mget_mput,if_neg c] at hj
    obtain ⟨a1,a2⟩:=h.al j f hj
    refine ⟨fun u hu d => ?_,by rw [updK_ne c]; omega⟩
    have e1:mput S.es k e=S.es ++ [(k,e)]:=by unfold mput; rw [hk]; rfl
    have hu:u∈mput S.es k e:=hu
    rw [e1] at hu
    rw [updK_ne c] at d
    rcases List.mem_append.1 hu with h5 | h5
    ·have c3:u.1≠k:=fun c4 => mget_none_iff.1 hk u h5 c4
     rw [updK_ne c3] at d
     exact a1 u h5 d
    ·rw [List.mem_singleton.1 h5,updK_at] at d
     omega
  pal:=fun i q hq => by
   obtain ⟨a1,a2⟩:=h.pal i q hq
   exact ⟨a1,by omega⟩
  nx0:=by omega
  ap:=h.ap
  out:=h.out }
end
section
variable {w w' w1:World} {fb rb eb rf pb tab:Nat} {S S':PS} {φ:Int→Int} {π:Nat→Int} {nx n k:Int} {F Ft:Nat→Prop} {L L' R:PTab} {e:PE} {j:Nat}
theorem radd_is (h:RFilesIn w fb rb eb rf pb S φ π nx Ft) (hnd:MNodup S.es) (hk:mget S.es k=none) (hnx:nx+1≤500000) (hr:e.refs=1) (ht:RTabIs w tab R) (hl:leastL R=j) (hj:j < 8) (hn:¬ RFoots fb eb rf pb Ft tab) :
  Calls Tryz.prog 60 #[.pointer (some ⟨fb,0,none⟩),.pointer (some ⟨tab,0,none⟩),reV (fE π e)] w fun e' w' => e'=.returned (.int .i64 j)∧RFilesIn w' fb rb eb rf pb (putS S k e) (updK φ k (nx+1)) π (nx+1) Ft∧RTabIs w' tab (tset R j (nx+1,false))∧Turn (fun q => q=fb∨q=eb∨q=rf∨q=tab) w w':=by
 obtain ⟨⟨x1,x2,x3,x4,x5⟩,hX⟩:∃ x:RE,fE π e=x:=⟨_,rfl⟩
 have hv:reV (fE π e)=.agg #[.int .i64 x1,.int .i64 x2,.int .i64 x3,.int .i64 x4,.int .i64 x5]:=by rw [hX]; rfl
 rw [hv]
 obtain ⟨p1,p2,p3,p4,p5,p6⟩:=h.ap
 have hx:∀ u∈S.es,φ u.1≠nx+1:=fun u hu c => by
  have h1:=mget_mem hnd hu
  have:=(h.al u.1 u.2 h1).2
  omega
 have hnE:mget (relab φ (fE π) S.es) (nx+1)=none:=mget_none (fun p hp => by
  obtain ⟨t,ht,rfl⟩:=List.mem_map.1 hp
  exact hx t ht)
 have hnR:mget (relab φ (·.refs) S.es) (nx+1)=none:=mget_none (fun p hp => by
  obtain ⟨t,ht,rfl⟩:=List.mem_map.1 hp
  exact hx t ht)
 have hn0:=h.nx0
 obtain ⟨ab,hab⟩:∃ ab,w.heap.size=ab:=⟨_,rfl⟩
 have habl:fb < ab∧tab < ab:=⟨by rw [← hab]; exact lt_of_cell h.h0,by rw [← hab]; exact ht.lt⟩
 obtain ⟨W0,hW0⟩:∃ W0,w.alloc (.cells #[.int .i64 x1,.int .i64 x2,.int .i64 x3,.int .i64 x4,.int .i64 x5] 133)=W0:=⟨_,rfl⟩
 have t0:Turn (fun _ => False) w W0:=by rw [← hW0]; exact (Turn.refl _ _).alloc _
 have h0:=h.still t0
 obtain ⟨W1,hW1⟩:∃ W1,W0.setCell ⟨fb,4,none⟩ (.int .i64 (nx+1))=W1:=⟨_,rfl⟩
 have t1:Turn (fun q => q=fb) W0 W1:=by rw [← hW1]; exact (Turn.refl (fun q => q=fb) W0).setCell ⟨fb,4,none⟩ _ (fun _ => rfl)
 have c40:=h0.h4
 have f40:=h0.fz 4
 have g0:W1.cell? ⟨fb,0,none⟩=some (.pointer (some ⟨rb,0,none⟩)):=by rw [← hW1,World.cell?_setCell_other _ _ _ _ (by simp)]; exact h0.h0
 have g1:W1.cell? ⟨fb,1,none⟩=some (.map (some eb)):=by rw [← hW1,World.cell?_setCell_other _ _ _ _ (by simp)]; exact h0.h1
 have g2:W1.cell? ⟨fb,2,none⟩=some (.map (some rf)):=by rw [← hW1,World.cell?_setCell_other _ _ _ _ (by simp)]; exact h0.h2
 have g3:W1.cell? ⟨fb,3,none⟩=some (.map (some pb)):=by rw [← hW1,World.cell?_setCell_other _ _ _ _ (by simp)]; exact h0.h3
 have g4:W1.cell? ⟨fb,4,none⟩=some (.int .i64 (nx+1)):=by rw [← hW1,World.cell?_setCell_same _ _ _ c40]
 have gf:∀ i,W1.frozen? ⟨fb,i,none⟩=false:=fun i => by rw [← hW1,World.frozen?_setCell]; exact h0.fz i
 have a0:∀ i v,W0.cell? ⟨ab,i,none⟩=some v→W1.cell? ⟨ab,i,none⟩=some v:=fun i v hv => (t1.cell (a:=⟨ab,i,none⟩) (lt_of_cell hv) (fun e => by simp only at e; omega)).trans hv
 have m0:=a0 0 (.int .i64 x1) (by rw [← hW0,← hab]; simp)
 have m1:=a0 1 (.int .i64 x2) (by rw [← hW0,← hab]; simp)
 have m2:=a0 2 (.int .i64 x3) (by rw [← hW0,← hab]; simp)
 have m3:=a0 3 (.int .i64 x4) (by rw [← hW0,← hab]; simp)
 have m4:=a0 4 (.int .i64 x5) (by rw [← hW0,← hab]; simp)
 have td:Turn (fun _ => False) W1 W1.drew:=(Turn.refl _ _).drew
 have hE1:MapIs W1.drew eb (.int .i64) encI reV (relab φ (fE π) S.es):=(h0.mE.turned t1 (fun e => p1 e.symm)).turned td id
 have hR1:MapIs W1.drew rf (.int .i64) encI encNt (relab φ (·.refs) S.es):=(h0.mR.turned t1 (fun e => p2 e.symm)).turned td id
 obtain ⟨wA,cA,rA,eA,tA,sA⟩:=hE1.run_entry (P:=Tryz.prog) keyI Tryz.underlying58 Tryz.underlying3 (zeroREnt _) (nx+1) hnE
 obtain ⟨wB,rB,eB,tB,sB⟩:=eA.run_store (P:=Tryz.prog) 58 (x1,x2,x3,x4,x5)
 have hRB:=(hR1.turned tA (fun e => p4 e.symm)).turned tB (fun e => p4 e.symm)
 obtain ⟨wC,cC,rC,eC,tC,sC⟩:=hRB.run_entry (P:=Tryz.prog) keyI Tryz.underlying59 Tryz.underlying3 (zeroRInt _) (nx+1) hnR
 obtain ⟨wD,rD,eD,tD,sD⟩:=eC.run_store (P:=Tryz.prog) 59 1
 replace rA:(Instr.mapEntry 58 (.map (some eb)) (.int .i64 (nx+1))).run Tryz.prog W1.drew=.ok (.tuple #[.agg #[.int .i64 0,.int .i64 0,.int .i64 0,.int .i64 0,.int .i64 0],.int .i64 (cA:Int)]) wA:=rA
 replace rB:(Instr.entryStore 58 (.map (some eb)) (.int .i64 (cA:Int)) (.agg #[.int .i64 x1,.int .i64 x2,.int .i64 x3,.int .i64 x4,.int .i64 x5])).run Tryz.prog wA=.ok () wB:=rB
 replace rC:(Instr.mapEntry 59 (.map (some rf)) (.int .i64 (nx+1))).run Tryz.prog wB=.ok (.tuple #[.int .i64 0,.int .i64 (cC:Int)]) wC:=rC
 replace rD:(Instr.entryStore 59 (.map (some rf)) (.int .i64 (cC:Int)) (.int .i64 1)).run Tryz.prog wC=.ok () wD:=rD
 have hw1:IntKind.i64.wrap (nx+1)=nx+1:=IntWalk.i64_in _ (by omega)
 have HW:=hid (And.intro hW0 (And.intro hW1 hab))
 have HLe:=hid (fun w' (h:RTabIs w' tab R) => hl ▸ rleast_is h)
 go_enter Tryz.func60,Tryz.ntmps60
 go_upto_region 2 with fail
 have hae:ab≠eb∧ab≠rf:=⟨fun e => by have:=h.mE.lt; omega,fun e => by have:=h.mR.lt; omega⟩
 have mv:∀ i v,W1.cell? ⟨ab,i,none⟩=some v→wA.cell? ⟨ab,i,none⟩=some v:=fun i v hv => (tA.cell (a:=⟨ab,i,none⟩) (lt_of_cell ((td.cell (a:=⟨ab,i,none⟩) (lt_of_cell hv) id).trans hv)) hae.1).trans ((td.cell (a:=⟨ab,i,none⟩) (lt_of_cell hv) id).trans hv)
 have gA2:=(tA.cell (a:=⟨fb,2,none⟩) (lt_of_cell ((td.cell (lt_of_cell g2) id).trans g2)) p1).trans ((td.cell (lt_of_cell g2) id).trans g2)
 have gA4:=(tA.cell (a:=⟨fb,4,none⟩) (lt_of_cell ((td.cell (lt_of_cell g4) id).trans g4)) p1).trans ((td.cell (lt_of_cell g4) id).trans g4)
 have gB2:=(tB.cell (lt_of_cell gA2) p1).trans gA2
 have gB4:=(tB.cell (lt_of_cell gA4) p1).trans gA4
 have u0:=mv _ _ m0
 have u1:=mv _ _ m1
 have u2:=mv _ _ m2
 have u3:=mv _ _ m3
 have u4:=mv _ _ m4
 have tAD:Turn (fun q => q=fb∨q=eb∨q=rf) w wD:=((((((t0.mono (fun _ _ h => h.elim)).trans (t1.mono (fun _ _ e => .inl e))).trans (td.mono (fun _ _ h => h.elim))).trans (tA.mono (fun _ _ e => .inr (.inl e)))).trans (tB.mono (fun _ _ e => .inr (.inl e)))).trans (tC.mono (fun _ _ e => .inr (.inr e)))).trans (tD.mono (fun _ _ e => .inr (.inr e)))
 have t1D:Turn (fun q => q=eb∨q=rf) W1 wD:=((((td.mono (fun _ _ h => h.elim)).trans (tA.mono (fun _ _ e => .inl e))).trans (tB.mono (fun _ _ e => .inl e))).trans (tC.mono (fun _ _ e => .inr e))).trans (tD.mono (fun _ _ e => .inr e))
 have hfe:¬ (fb=eb∨fb=rf):=fun e => e.elim p1 p2
 have cD:∀ i v,W1.cell? ⟨fb,i,none⟩=some v→wD.cell? ⟨fb,i,none⟩=some v:=fun i v hv => (t1D.cell (a:=⟨fb,i,none⟩) (lt_of_cell hv) hfe).trans hv
 have hEB:MapIs wD eb (.int .i64) encI reV (mput (relab φ (fE π) S.es) (nx+1) (fE π e)):=by
  rw [hX]
  exact (eB.turned tC p4).turned tD p4
 have HIN:=hid (h.come hnd hk hnx hr (cD 0 _ g0) (cD 1 _ g1) (cD 2 _ g2) (cD 3 _ g3) (cD 4 _ g4) (fun i => (t1D.frozen (a:=⟨fb,i,none⟩) (show fb < W1.heap.size from lt_of_cell g0) hfe).trans (gf i)) hEB eD tAD)
 have hto:¬ (tab=fb∨tab=eb∨tab=rf):=fun e => hn (by
  rcases e with e | e | e
  ·exact .inr (.inl e)
  ·exact .inr (.inr (.inl e))
  ·exact .inr (.inr (.inr (.inl e))))
 have HTB:=hid (ht.turned tAD hto)
 have HTD:=hid tAD
 have HNt:=hid hto
 have HN:=hid hn
 have gD:=cD 4 _ g4
 clear tAD t1D hfe cD hEB hto h hnd hk hr hX hv hx hnE hnR hl habl t0 h0 t1 c40 f40 a0 td hE1 hR1 eA tA sA eB tB sB hRB eC tC sC eD tD sD mv hae hn0 ht hn hW0 hW1 hab
 go_region
 clear rA rB rC rD u0 u1 u2 u3 u4 gA2 gA4 gB2 gB4 g0 g1 g2 g3 g4 m0 m1 m2 m3 m4
 go_wp2_with fail
 refine (HLe.out _ HTB.out).mono ?_
 rintro e' w20 ⟨rfl,t20⟩
 have hb20:=HTB.out.turned t20 id
 have c2:=hb20.ent j hj
 have c3:=hb20.mark j hj
 have z2:=hb20.fz (j * 2)
 have z3:=hb20.fz (j * 2+1)
 have g20:=(t20.cell (lt_of_cell gD) id).trans gD
 have HT20:=hid t20
 have HB20:=hid hb20
 clear gD t20 hb20
 go_wp2_with fail
 go_region
 go_wp2_with fail
 go_returns
 have tS:Turn (fun q => q=tab) w20 (((w20.setCell ⟨tab,j * 2,none⟩ (.int .i64 (nx+1))).setCell ⟨tab,j * 2+1,none⟩ (.bool false)).drew):=(((Turn.refl (fun q => q=tab) w20).setCell ⟨tab,j * 2,none⟩ _ (fun _ => rfl)).setCell ⟨tab,j * 2+1,none⟩ _ (fun _ => rfl)).drew
 refine ⟨rfl,(HIN.out.still HT20.out).turned tS (fun q hq e => HN.out (e ▸ hq)),(HB20.out.set hj _ false ⟨?_,?_⟩).turned (S:=fun _ => False) (Turn.refl _ _).drew id,?_⟩
 ·have:=HIN.out.nx0.1; omega
 ·omega
 ·exact ((HTD.out.mono (fun q _ e => by rcases e with e | e | e; exact .inl e; exact .inr (.inl e); exact .inr (.inr (.inl e)))).trans (HT20.out.mono (fun _ _ h => h.elim))).trans (tS.mono (fun _ _ e => .inr (.inr (.inr e))))
end
section
variable {w w' w1:World} {rb:Nat} {T:PT} {Ft:Nat→Prop}
theorem rnewFiles_is (h:RTreeIs w rb T Ft) (φ:Int→Int) (π:Nat→Int) :
  Calls Tryz.prog 5 #[.pointer (some ⟨rb,0,none⟩)] w fun e w' => ∃ fb F,e=.returned (.pointer (some ⟨fb,0,none⟩))∧RFilesIs w' fb rb ⟨T,[],[]⟩ φ π 0 F∧Turn (fun _ => False) w w'∧(∀ k,F k→Ft k∨w.heap.size≤k)∧w.heap.size≤fb:=by
 have hmm:=@run_makeMap Tryz.prog
 obtain ⟨z,hz⟩:∃ z,w.heap.size=z:=⟨_,rfl⟩
 obtain ⟨W1,hW1⟩:∃ W1,w.alloc (.map #[] 0)=W1:=⟨_,rfl⟩
 have z1:W1.heap.size=z+1:=by rw [← hW1,World.size_alloc,hz]
 obtain ⟨W2,hW2⟩:∃ W2,W1.alloc (.map #[] 0)=W2:=⟨_,rfl⟩
 have z2:W2.heap.size=z+2:=by rw [← hW2,World.size_alloc,z1]
 obtain ⟨W3,hW3⟩:∃ W3,W2.alloc (.map #[] 0)=W3:=⟨_,rfl⟩
 have z3:W3.heap.size=z+3:=by rw [← hW3,World.size_alloc,z2]
 obtain ⟨W4,hW4⟩:∃ W4,W3.alloc (.cells #[.pointer (some ⟨rb,0,none⟩),.map (some z),.map (some (z+1)),.map (some (z+2)),.int .i64 0] 62)=W4:=⟨_,rfl⟩
 have t1:Turn (fun _ => False) w W1:=by rw [← hW1]; exact (Turn.refl _ _).alloc _
 have t2:Turn (fun _ => False) W1 W2:=by rw [← hW2]; exact (Turn.refl _ _).alloc _
 have t3:Turn (fun _ => False) W2 W3:=by rw [← hW3]; exact (Turn.refl _ _).alloc _
 have t4:Turn (fun _ => False) W3 W4:=by rw [← hW4]; exact (Turn.refl _ _).alloc _
 have k1:MapIs W1 z (.int .i64) encI reV ([]:List (Int×RE)):=by rw [← hW1,← hz]; exact MapIs.made w
 have k2:MapIs W2 (z+1) (.int .i64) encI encNt ([]:List (Int×Nat)):=by rw [← hW2,← z1]; exact MapIs.made W1
 have k3:MapIs W3 (z+2) (.int .i64) encI rpV ([]:List (Int×PP)):=by rw [← hW3,← z2]; exact MapIs.made W2
 have tA:=((t1.trans t2).trans t3).trans t4
 have lowT:∀ x,z≤x→¬ Ft x:=fun x hx hF => by have:=h.foot_lt x hF; omega
 have hin:RFilesIn W4 (z+3) rb z (z+1) (z+2) ⟨T,[],[]⟩ φ π 0 Ft:={
  h0:=by rw [← hW4,← z3]; exact World.cell?_alloc_new _ _ _ _
  h1:=by rw [← hW4,← z3]; exact World.cell?_alloc_new _ _ _ _
  h2:=by rw [← hW4,← z3]; exact World.cell?_alloc_new _ _ _ _
  h3:=by rw [← hW4,← z3]; exact World.cell?_alloc_new _ _ _ _
  h4:=by rw [← hW4,← z3]; exact World.cell?_alloc_new _ _ _ _
  fz:=fun i => by rw [← hW4,← z3]; exact World.frozen?_alloc_new _ _ _ _
  tr:=h.turned tA (fun _ _ => id)
  mE:=((k1.turned t2 id).turned t3 id).turned t4 id
  mR:=(k2.turned t3 id).turned t4 id
  mP:=k3.turned t4 id
  al:=fun k e he => by cases he
  pal:=fun i q hq => by simp at hq
  nx0:=by omega
  ap:=by omega
  out:=⟨lowT _ (by omega),lowT _ (by omega),lowT _ (by omega),lowT _ (by omega)⟩ }
 have HIn:=hid hin
 have HTA:=hid tA
 have HW:=hid (And.intro hz (And.intro hW1 (And.intro hW2 (And.intro hW3 (And.intro hW4 z3)))))
 clear z1 z2 z3 t1 t2 t3 t4 k1 k2 k3 tA lowT hin hz hW1 hW2 hW3 hW4 h
 go_enter Tryz.func5,Tryz.ntmps5
 go_wp2_with fail
 go_returns
 obtain ⟨hz,hW1,hW2,hW3,hW4,_⟩:=HW.out
 have e:(((w.alloc (.map #[] 0)).alloc (.map #[] 0)).alloc (.map #[] 0)).alloc (.cells #[.pointer (some ⟨rb,0,none⟩),.map (some w.heap.size),.map (some (w.heap.size+1)),.map (some (w.heap.size+1+1)),.int .i64 0] 62)=W4:=by
  rw [hz,hW1,hW2,hW3]
  exact hW4
 rw [e]
 refine ⟨z+3,_,?_,⟨z,z+1,z+2,Ft,HIn.out,rfl⟩,HTA.out,fun k hk => ?_,by omega⟩
 ·rw [hz]; rfl
 ·rcases hk with h | h | h | h | h
  ·exact .inl h
  ·exact .inr (by omega)
  ·exact .inr (by omega)
  ·exact .inr (by omega)
  ·exact .inr (by omega)
end
section
variable {w w' w1:World} {fb rb eb rf pb tab:Nat} {S S':PS} {φ:Int→Int} {π:Nat→Int} {nx n k:Int} {F Ft:Nat→Prop} {L L':PTab} {e:PE} {q:PP}
theorem nums_less {ps:List PP} {u:Nat×PP} (h:u∈nums ps):u.1 < ps.length:=(List.getElem?_eq_some_iff.1 (nums_key h)).1
theorem RFilesIn.comePipe (h:RFilesIn w fb rb eb rf pb S φ π nx Ft) (hS:DOk S) (hnx:nx+1≤500000)
  (h0:w'.cell? ⟨fb,0,none⟩=some (.pointer (some ⟨rb,0,none⟩))) (h1:w'.cell? ⟨fb,1,none⟩=some (.map (some eb))) (h2:w'.cell? ⟨fb,2,none⟩=some (.map (some rf))) (h3:w'.cell? ⟨fb,3,none⟩=some (.map (some pb))) (h4:w'.cell? ⟨fb,4,none⟩=some (.int .i64 (nx+1))) (hf:∀ i,w'.frozen? ⟨fb,i,none⟩=false)
  (hm:MapIs w' pb (.int .i64) encI rpV (mput (relab π id (nums S.ps)) (nx+1) q)) (t:Turn (fun j => j=fb∨j=pb) w w') :
  RFilesIn w' fb rb eb rf pb (moreS S q) φ (updK π S.ps.length (nx+1)) (nx+1) Ft:=by
 obtain ⟨p1,p2,p3,p4,p5,p6⟩:=h.ap
 have hn0:=h.nx0
 have hx:∀ u∈nums S.ps,π u.1≠nx+1:=fun u hu c => by
  have:=(h.pal u.1 u.2 (nums_key hu)).2
  omega
 have hk:mget (nums S.ps) S.ps.length=none:=by rw [nums_get]; exact List.getElem?_eq_none (Nat.le_refl _)
 have hsame:∀ u∈S.es,fE (updK π S.ps.length (nx+1)) u.2=fE π u.2:=fun u hu => by
  have hE:=(hS.ent u.1 u.2 (mget_mem hS.nd hu)).2
  unfold fE
  rcases hE with ⟨c,_⟩ | ⟨c,_,q,hq,_⟩ | ⟨c,_,q,hq,_⟩
  ·rw [if_pos c,if_pos c,if_pos c]
  ·have hl:=(List.getElem?_eq_some_iff.1 hq).1
   rw [updK_ne (by omega)]
  ·have hl:=(List.getElem?_eq_some_iff.1 hq).1
   rw [updK_ne (by omega)]
 exact {
  h0:=h0,h1:=h1,h2:=h2,h3:=h3,h4:=h4,fz:=hf
  tr:=h.tr.turned t (fun x hx e => e.elim (fun e => h.out.1 (e ▸ hx)) (fun e => h.out.2.2.2 (e ▸ hx)))
  mE:=by
   show MapIs w' eb (.int .i64) encI reV (relab φ (fE (updK π S.ps.length (nx+1))) S.es)
   rw [relab_congr (φ2:=φ) (f2:=fE (updK π S.ps.length (nx+1))) (φ:=φ) (f:=fE π) (fun u hu => ⟨rfl,hsame u hu⟩)]
   exact h.mE.turned t (fun e => e.elim (fun e => p1 e.symm) p5)
  mR:=h.mR.turned t (fun e => e.elim (fun e => p2 e.symm) p6)
  mP:=by
   show MapIs w' pb (.int .i64) encI rpV (relab (updK π S.ps.length (nx+1)) id (nums (S.ps ++ [q])))
   rw [← nums_new,← relab_new (f:=id) hk hx]; exact hm
  al:=fun k e he => by
   obtain ⟨a1,a2⟩:=h.al k e he
   exact ⟨a1,by omega⟩
  pal:=fun i r hr => by
   have hr:(S.ps ++ [q])[i]?=some r:=hr
   have hnum:nums (moreS S q).ps=nums S.ps ++ [(S.ps.length,q)]:=nums_snoc S.ps q
   by_cases c:i=S.ps.length
   ·subst c
    refine ⟨fun u hu d => ?_,by rw [updK_at]; omega⟩
    rw [hnum] at hu
    rcases List.mem_append.1 hu with h5 | h5
    ·have hl:=nums_less h5
     rw [updK_ne (by omega),updK_at] at d
     exact absurd d (hx u h5)
    ·rw [List.mem_singleton.1 h5]
   ·have hil:i < S.ps.length:=by
     have:=(List.getElem?_eq_some_iff.1 hr).1
     simp at this; omega
    rw [List.getElem?_append_left hil] at hr
    obtain ⟨a1,a2⟩:=h.pal i r hr
    refine ⟨fun u hu d => ?_,by rw [updK_ne c]; omega⟩
    rw [hnum] at hu
    rw [updK_ne c] at d
    rcases List.mem_append.1 hu with h5 | h5
    ·have hl:=nums_less h5
     rw [updK_ne (by omega)] at d
     exact a1 u h5 d
    ·rw [List.mem_singleton.1 h5,updK_at] at d
     omega
  nx0:=by omega
  ap:=h.ap
  out:=h.out }
end
section
variable {w w':World} {tab:Nat} {S:PS} {φ φ':Int→Int} {nx k x:Int} {L L' R R':PTab} {j:Nat} {c:Bool}
theorem RTabIs.congr (h:RTabIs w tab R) (e:∀ i,i < 8→R' i=R i):RTabIs w tab R' :=
 ⟨fun i hi => by rw [e i hi]; exact h.ent i hi,fun i hi => by rw [e i hi]; exact h.mark i hi,h.fz,fun i hi => by rw [e i hi]; exact h.pos i hi⟩
theorem rel_other (hok:TabOk S L) (hφ:∀ k e,mget S.es k=some e→φ' k=φ k):∀ i,i < 8→relL φ' L i=relL φ L i:=fun i hi => by
 unfold relL
 by_cases hz:(L i).1=0
 ·rw [if_pos hz,if_pos hz]
 ·obtain ⟨e,he⟩:=(hok i hi).resolve_left hz
  rw [if_neg hz,if_neg hz,hφ _ e he]
theorem rel_come (hok:TabOk S L) (hk:mget S.es k=none) (hk0:k≠-1):∀ i,i < 8→relL (updK φ k x) (tset L j (k+1,c)) i=tset (relL φ L) j (x,c) i:=fun i hi => by
 rw [rel_tset]
 show (if i=j then (if k+1=0 then (0:Int) else updK φ k x (k+1 - 1),c) else relL (updK φ k x) L i)=if i=j then (x,c) else relL φ L i
 by_cases e:i=j
 ·rw [if_pos e,if_pos e,if_neg (by omega),show k+1 - 1=k from by omega,updK_at]
 ·rw [if_neg e,if_neg e]
  exact rel_other hok (fun k' e' he' => updK_ne (fun c => by rw [c,hk] at he'; cases he')) i hi
end
def RFilesMid (fb rb eb rf pb:Nat) (S:PS) (φ:Int→Int) (π:Nat→Int) (nx:Int) (Ft:Nat→Prop) (w wx:World) (T1:PT):Prop :=
 ∃ Ft1,RFilesIn wx fb rb eb rf pb (treeS S T1) φ π nx Ft1∧(∀ j,Ft1 j→Ft j∨w.heap.size≤j)∧Turn Ft w wx
section
variable {w w' wx w1 w2:World} {fb rb eb rf pb tab:Nat} {S S':PS} {φ:Int→Int} {π:Nat→Int} {nx n k:Int} {F Ft:Nat→Prop} {L L':PTab} {e:PE} {q:PP} {T1 T2:PT}
theorem RFilesMid.start (h:RFilesIn w fb rb eb rf pb S φ π nx Ft):RFilesMid fb rb eb rf pb S φ π nx Ft w w S.T:=⟨Ft,h,fun _ h => .inl h,Turn.refl _ _⟩
theorem RFilesMid.still (h:RFilesMid fb rb eb rf pb S φ π nx Ft w wx T1) (t:Turn (fun _ => False) wx w'):RFilesMid fb rb eb rf pb S φ π nx Ft w w' T1:=by
 obtain ⟨Ft1,h1,h2,h3⟩:=h
 exact ⟨Ft1,h1.still t,h2,h3.trans (t.mono (fun _ _ h => h.elim))⟩
theorem RFilesMid.h0 (h:RFilesMid fb rb eb rf pb S φ π nx Ft w wx T1):wx.cell? ⟨fb,0,none⟩=some (.pointer (some ⟨rb,0,none⟩)):=by
 obtain ⟨Ft1,h1,h2,h3⟩:=h
 exact h1.h0
theorem RFilesMid.find (h:RFilesMid fb rb eb rf pb S φ π nx Ft w wx T1) (hok:TOk T1) (path:ByteArray) (hs:path.size < 4294967281) :
  Calls Tryz.prog 57 #[.pointer (some ⟨rb,0,none⟩),.string path] wx fun e w' => e=.returned (.tuple #[.int .i64 (findT T1 path).2,.int .i64 (findT T1 path).1])∧RFilesMid fb rb eb rf pb S φ π nx Ft w w' T1:=by
 obtain ⟨Ft1,h1,h2,h3⟩:=h
 obtain ⟨nm,D,ht,rfl⟩:=h1.tr
 exact (rfind_is ht hok path hs).mono fun e w' x => ⟨x.1,(RFilesMid.still ⟨_,h1,h2,h3⟩ x.2)⟩
theorem RFilesMid.make (hl:∀ j,RFoots fb eb rf pb Ft j→j < w.heap.size) (h:RFilesMid fb rb eb rf pb S φ π nx Ft w wx T1) (hok:TOk T1) (path:ByteArray) (hs:path.size < 4294967281) (b:Bool) :
  Calls Tryz.prog 58 #[.pointer (some ⟨rb,0,none⟩),.string path,.bool b] wx fun e w' => e=.returned (.tuple #[.int .i64 (makeK T1 path),.int .i64 (makeE T1 path)])∧RFilesMid fb rb eb rf pb S φ π nx Ft w w' (makeT T1 path b):=by
 obtain ⟨Ft1,h1,h2,h3⟩:=h
 obtain ⟨nm,D,ht,hF⟩:=h1.tr
 refine (rmake_is ht hok path hs b).mono fun e w' x => ⟨x.1,?_⟩
 have ht0:RTreeTo rb (RFoot rb nm T1 D) wx w' (makeT T1 path b):=x.2
 obtain ⟨F',htr,t,hnew,_⟩:=ht0
 have hF:Ft1=RFoot rb nm T1 D:=hF
 rw [← hF] at t hnew
 refine ⟨F',h1.setTree htr t hnew,fun j hj => ?_,h3.trans' t (fun j hj hx => (h2 j hx).resolve_right (by omega))⟩
 rcases hnew j hj with h4 | h4
 ·exact h2 j h4
 ·exact .inr (Nat.le_trans h3.size h4)
theorem RFilesMid.hold (h:RFilesMid fb rb eb rf pb S φ π nx Ft w wx T1) (hok:TOk T1) (ha:Alive T1) (n:Int) (hb:∀ n p,mget T1 n=some p→p.ds.length≤1000000∧p.held≤1000000000) :
  Calls Tryz.prog 59 #[.pointer (some ⟨rb,0,none⟩),.int .i64 n,.int .i64 1] wx fun e w' => e=.returned (.int .i64 (fileE T1 n))∧RFilesMid fb rb eb rf pb S φ π nx Ft w w' (holdT T1 n):=by
 obtain ⟨Ft1,h1,h2,h3⟩:=h
 obtain ⟨nm,D,ht,hF⟩:=h1.tr
 have hH:=rhold_one hok ha n
 have hC:=rhold_is ht hok n 1 (by omega) hb
 rw [show rholdE (treeS S T1).T n 1=fileE T1 n from hH.1,show rholdT (treeS S T1).T n 1=holdT T1 n from hH.2] at hC
 refine hC.mono fun e w' x => ⟨x.1,?_⟩
 obtain ⟨F',htr,t,hnew,_⟩:=x.2
 have hF:Ft1=RFoot rb nm T1 D:=hF
 have t:Turn (RFoot rb nm T1 D) wx w':=t
 have hnew:∀ k,F' k→RFoot rb nm T1 D k∨wx.heap.size≤k:=hnew
 rw [← hF] at t hnew
 refine ⟨F',h1.setTree htr t hnew,fun j hj => ?_,h3.trans' t (fun j hj hx => (h2 j hx).resolve_right (by omega))⟩
 rcases hnew j hj with h4 | h4
 ·exact h2 j h4
 ·exact .inr (Nat.le_trans h3.size h4)
theorem RFilesMid.foot (h:RFilesMid fb rb eb rf pb S φ π nx Ft w wx T1):∃ Ft1,RFilesIn wx fb rb eb rf pb (treeS S T1) φ π nx Ft1∧(∀ j,RFoots fb eb rf pb Ft1 j→RFoots fb eb rf pb Ft j∨w.heap.size≤j)∧Turn Ft w wx:=by
 obtain ⟨Ft1,h1,h2,h3⟩:=h
 refine ⟨Ft1,h1,fun j hj => ?_,h3⟩
 rcases hj with hj | hj
 ·rcases h2 j hj with h4 | h4
  ·exact .inl (.inl h4)
  ·exact .inr h4
 ·exact .inl (.inr hj)
theorem RFilesMid.done (h:RFilesMid fb rb eb rf pb S φ π nx Ft w wx T1) (ht:RTabIs w tab (relL φ L)) (hn:¬ RFoots fb eb rf pb Ft tab):RFilesTo fb rb tab (RFoots fb eb rf pb Ft) w wx S (treeS S T1) φ nx L:=by
 obtain ⟨Ft1,h1,h2,h3⟩:=h.foot
 refine ⟨_,φ,π,nx,⟨eb,rf,pb,Ft1,h1,rfl⟩,ht.turned h3 (fun e => hn (.inl e)),h3.mono (fun _ _ e => .inl (.inl e)),h2,fun e => ?_,fun _ _ _ => rfl,by omega⟩
 rcases h2 tab e with h4 | h4
 ·exact hn h4
 ·have:=ht.lt; omega
end
section
variable {w w' w1:World} {fb rb eb rf pb tab:Nat} {S S':PS} {φ:Int→Int} {π:Nat→Int} {nx n k:Int} {F Ft:Nat→Prop} {L L':PTab} {e:PE} {q:PP}
theorem rused_rel (hin:RFilesIn w fb rb eb rf pb S φ π nx Ft) (ht:RTabIs w tab (relL φ L)) (hok:TabOk S L) (hp:∀ i,i < 8→0≤(L i).1) :
  Calls Tryz.prog 13 #[.pointer (some ⟨tab,0,none⟩)] w fun e w' => e=.returned (.int .i64 (usedL L))∧Turn (fun _ => False) w w':=by
 have h1:=rused_is ht
 rw [rel_used hok hp hin] at h1
 exact h1
theorem rpipe_no (h:RFilesIs w fb rb S φ π nx F) (ht:RTabIs w tab (relL φ L)) (hok:TabOk S L) (hp:∀ i,i < 8→0≤(L i).1) (hn:¬ F tab) (hS:S.es.length≤40) (hE:pipeE S L≠0) :
  Calls Tryz.prog 25 #[.pointer (some ⟨fb,0,none⟩),.pointer (some ⟨tab,0,none⟩)] w fun e w' => e=.returned (.tuple #[.int .i64 0,.int .i64 0,.int .i64 12])∧RFilesTo fb rb tab F w w' S S φ nx L:=by
 have HK:Hid (∀ w',Turn (fun _ => False) w w'→RFilesTo fb rb tab F w w' S S φ nx L):=hid (fun w' t => .same (h.turned t (fun _ _ => id)) (ht.turned t id) t hn)
 obtain ⟨eb,rf,pb,Ft,hin,rfl⟩:=h
 have HU:=hid (rused_rel hin ht hok hp)
 obtain ⟨U,hU⟩:∃ U,usedL L=U:=⟨_,rfl⟩
 have hU8:U≤8:=by rw [← hU]; exact usedL_le L
 have hw1:IntKind.i64.wrap ((U:Int)+2)=(U:Int)+2:=IntWalk.i64_in _ (by omega)
 rw [hU] at HU
 by_cases hu:6 < U
 ·have hu':(8:Int) < (U:Int)+2:=by omega
  clear hin ht hok hp hn hE hU hu
  go_enter Tryz.func25,Tryz.ntmps25
  go_wp2_with fail
  refine HU.out.mono ?_
  rintro e w1 ⟨rfl,t⟩
  have HT:=hid t
  clear t
  go_wp2_with fail
  go_ret3
  exact ⟨rfl,HK.out _ HT.out⟩
 ·have hl:38 < S.es.length:=by
   unfold pipeE at hE
   rw [hU] at hE
   by_cases c:38 < S.es.length
   ·exact c
   ·rw [if_neg (by omega)] at hE; exact absurd rfl hE
  have HI:=hid hin
  have hu':¬ (8:Int) < (U:Int)+2:=by omega
  obtain ⟨M,hM⟩:∃ M,S.es.length=M:=⟨_,rfl⟩
  have HM:=hid hM
  rw [hM] at hl hS
  have hw2:IntKind.i64.wrap ((M:Int)+2)=(M:Int)+2:=IntWalk.i64_in _ (by omega)
  have hl':(40:Int) < (M:Int)+2:=by omega
  clear hin ht hok hp hn hE hU hu hM hl
  go_enter Tryz.func25,Tryz.ntmps25
  go_wp2_with fail
  refine HU.out.mono ?_
  rintro e w1 ⟨rfl,t⟩
  have HT:=hid t
  have r1:=(t.cell (lt_of_cell HI.out.h1) id).trans HI.out.h1
  have hlen:=((HI.out.still t).mE.run_len (P:=Tryz.prog) Tryz.underlying58 3)
  rw [relab_len,HM.out] at hlen
  clear t
  go_wp2_with fail
  go_ret3
  exact ⟨rfl,HK.out _ HT.out⟩
end
section
variable {w w' w1:World} {fb rb eb rf pb tab:Nat} {S S':PS} {φ:Int→Int} {π:Nat→Int} {nx n k:Int} {F Ft:Nat→Prop} {L L':PTab} {e:PE} {q:PP}
theorem tabok_come (hok:TabOk S L) (hes:S'.es=S.es) (hk:mget S.es k=none) {j:Nat} {c:Bool}:TabOk (putS S' k e) (tset L j (k+1,c)):=fun i hi => by
 show (if i=j then (k+1,c) else L i).1=0∨∃ f,mget (mput S'.es k e) ((if i=j then (k+1,c) else L i).1 - 1)=some f
 by_cases h:i=j
 ·rw [if_pos h]
  refine .inr ⟨e,?_⟩
  show mget (mput S'.es k e) (k+1 - 1)=some e
  rw [show k+1 - 1=k from by omega,mget_mput,if_pos rfl]
 ·rw [if_neg h]
  rcases hok i hi with h1 | ⟨f,hf⟩
  ·exact .inl h1
  ·refine .inr ⟨f,?_⟩
   rw [mget_mput,hes]
   by_cases h2:(L i).1 - 1=k
   ·rw [h2,hk] at hf; cases hf
   ·rw [if_neg h2]; exact hf
theorem rpipe_is (h:RFilesIs w fb rb S φ π nx F) (hS:DOk S) (ht:RTabIs w tab (relL φ L)) (hok:TabOk S L) (hp:∀ i,i < 8→0≤(L i).1∧(L i).1≤40) (hn:¬ F tab) (hnx:nx+3≤500000) :
  Calls Tryz.prog 25 #[.pointer (some ⟨fb,0,none⟩),.pointer (some ⟨tab,0,none⟩)] w fun e w' => e=.returned (.tuple #[.int .i64 (pipeK1 S L),.int .i64 (pipeK2 S L),.int .i64 (pipeE S L)])∧RFilesTo fb rb tab F w w' S (pipedS S L) φ nx (pipedL S L):=by
 by_cases hE:pipeE S L≠0
 ·have e1:pipeE S L=12:=by
   unfold pipeE at hE ⊢
   by_cases c:6 < usedL L∨38 < S.es.length
   ·rw [if_pos c]
   ·rw [if_neg c] at hE; exact absurd rfl hE
  have e2:pipedS S L=S:=if_neg hE
  have e3:pipedL S L=L:=if_neg hE
  have e4:pipeK1 S L=0:=if_neg hE
  have e5:pipeK2 S L=0:=if_neg hE
  rw [e1,e2,e3,e4,e5]
  exact rpipe_no h ht hok (fun i hi => (hp i hi).1) hn hS.size hE
 ·have hE:pipeE S L=0:=Classical.not_not.1 hE
  obtain ⟨⟨j1,hl1,hj1,hz1⟩,⟨j2,hl2,hj2,hz2⟩,hu6,hlen⟩:=pipe_room hp hE
  obtain ⟨hS1,hS1l,hk1,hk1l,_,_⟩:=pipe_S1 hS hlen
  obtain ⟨hS2,hk2,hk2l⟩:=pipe_S2 hS hlen
  have e2:pipedS S L=pipeS2 S:=if_pos hE
  have e3:pipedL S L=pipeL2 S L:=if_pos hE
  have e4:pipeK1 S L=j1:=(if_pos hE).trans hl1
  have e5:pipeK2 S L=j2:=(if_pos hE).trans hl2
  rw [hE,e2,e3,e4,e5]
  obtain ⟨eb,rf,pb,Ft,hin,rfl⟩:=h
  obtain ⟨p1,p2,p3,p4,p5,p6⟩:=hin.ap
  have HU:=hid (rused_rel hin ht hok (fun i hi => (hp i hi).1))
  obtain ⟨U,hU⟩:∃ U,usedL L=U:=⟨_,rfl⟩
  rw [hU] at HU hu6
  have hu':¬ (8:Int) < (U:Int)+2:=by omega
  have hw1:IntKind.i64.wrap ((U:Int)+2)=(U:Int)+2:=IntWalk.i64_in _ (by omega)
  obtain ⟨M,hM⟩:∃ M,S.es.length=M:=⟨_,rfl⟩
  have HM:=hid hM
  rw [hM] at hlen
  have hw2:IntKind.i64.wrap ((M:Int)+2)=(M:Int)+2:=IntWalk.i64_in _ (by omega)
  have hl':¬ (40:Int) < (M:Int)+2:=by omega
  have hn0:=hin.nx0
  have hw3:IntKind.i64.wrap (nx+1)=nx+1:=IntWalk.i64_in _ (by omega)
  have HI:=hid hin
  have HT:=hid ht
  have HN:=hid hn
  have HS:=hid hS
  have HOk:=hid hok
  have HNx:=hid (show nx+3≤500000 from hnx)
  have HJ:=hid (And.intro (And.intro hl1 (And.intro hj1 hz1)) (And.intro hl2 (And.intro hj2 hz2)))
  have HK:=hid (And.intro (And.intro hk1 hk1l) (And.intro hk2 hk2l))
  have HS1:=hid hS1
  have HAp:=hid hin.ap
  clear hin ht hok hp hn hS hE hU hM e2 e3 e4 e5 hl1 hj1 hz1 hl2 hj2 hz2 hk1 hk1l hk2 hk2l hS1 hS1l hS2 hnx p1 p2 p3 p4 p5 p6
  go_enter Tryz.func25,Tryz.ntmps25
  go_wp2_with fail
  refine HU.out.mono ?_
  rintro e w1 ⟨rfl,t⟩
  have HT1:=hid t
  have hin1:=HI.out.still t
  have r1:=hin1.h1
  have hlen':=hin1.mE.run_len (P:=Tryz.prog) Tryz.underlying58 3
  rw [relab_len,HM.out] at hlen'
  have r3:=hin1.h3
  have r4:=hin1.h4
  have f4:=hin1.fz 4
  obtain ⟨W1,hW1⟩:∃ W1,w1.setCell ⟨fb,4,none⟩ (.int .i64 (nx+1))=W1:=⟨_,rfl⟩
  have tW:Turn (fun q => q=fb) w1 W1:=by rw [← hW1]; exact (Turn.refl (fun q => q=fb) w1).setCell ⟨fb,4,none⟩ _ (fun _ => rfl)
  have g0:W1.cell? ⟨fb,0,none⟩=some (.pointer (some ⟨rb,0,none⟩)):=by rw [← hW1,World.cell?_setCell_other _ _ _ _ (by simp)]; exact hin1.h0
  have g1:W1.cell? ⟨fb,1,none⟩=some (.map (some eb)):=by rw [← hW1,World.cell?_setCell_other _ _ _ _ (by simp)]; exact hin1.h1
  have g2:W1.cell? ⟨fb,2,none⟩=some (.map (some rf)):=by rw [← hW1,World.cell?_setCell_other _ _ _ _ (by simp)]; exact hin1.h2
  have g3:W1.cell? ⟨fb,3,none⟩=some (.map (some pb)):=by rw [← hW1,World.cell?_setCell_other _ _ _ _ (by simp)]; exact hin1.h3
  have g4:W1.cell? ⟨fb,4,none⟩=some (.int .i64 (nx+1)):=by rw [← hW1,World.cell?_setCell_same _ _ _ r4]
  have gf:∀ i,W1.frozen? ⟨fb,i,none⟩=false:=fun i => by rw [← hW1,World.frozen?_setCell]; exact hin1.fz i
  obtain ⟨q1,q2,q3,q4,q5,q6⟩:=HAp.out
  have mP1:=hin1.mP.turned tW (fun e => q3 e.symm)
  obtain ⟨w5,hrun,hm5,t5⟩:=mP1.run_update (P:=Tryz.prog) keyI Tryz.underlying60 Tryz.underlying3 (nx+1) newP
  replace hrun:(Instr.mapUpdate 60 (.map (some pb)) (.int .i64 (nx+1)) (.agg #[.string ⟨#[]⟩,.int .i64 1,.int .i64 1])).run Tryz.prog W1=.ok () w5:=hrun
  have hin5:RFilesIn w5 fb rb eb rf pb (moreS S newP) φ (updK π S.ps.length (nx+1)) (nx+1) Ft :=
   hin1.comePipe HS.out (by have:=HNx.out; omega) ((t5.cell (lt_of_cell g0) q3).trans g0) ((t5.cell (lt_of_cell g1) q3).trans g1) ((t5.cell (lt_of_cell g2) q3).trans g2) ((t5.cell (lt_of_cell g3) q3).trans g3) ((t5.cell (lt_of_cell g4) q3).trans g4) (fun i => (t5.frozen (a:=⟨fb,i,none⟩) (show fb < W1.heap.size from lt_of_cell g0) q3).trans (gf i)) hm5 ((tW.mono (fun _ _ e => .inl e)).trans (t5.mono (fun _ _ e => .inr e)))
  have hnf:¬ (tab=fb∨tab=pb):=fun e => HN.out (e.elim (fun e => .inr (.inl e)) (fun e => .inr (.inr (.inr (.inr e)))))
  have t15:Turn (fun q => q=fb∨q=pb) w1 w5:=(tW.mono (fun _ _ e => .inl e)).trans (t5.mono (fun _ _ e => .inr e))
  have ht5:RTabIs w5 tab (relL φ L):=(HT.out.turned t id).turned t15 hnf
  have hlr:leastL (relL φ L)=j1:=(rel_least HOk.out HI.out).trans HJ.out.1.1
  have HA:=hid (radd_is (e:=⟨2,1,0,S.ps.length,0,1⟩) hin5 HS.out.nd HK.out.1.1 (by have:=HNx.out; omega) rfl ht5 hlr HJ.out.1.2.1 HN.out)
  have eV:reV (fE (updK π S.ps.length (nx+1)) ⟨2,1,0,S.ps.length,0,1⟩)=.agg #[.int .i64 2,.int .i64 1,.int .i64 0,.int .i64 (nx+1),.int .i64 0]:=by
   unfold fE reV
   rw [if_neg (show ¬ (2:Int)=1 by decide),if_neg (show ¬ (2:Int)=1 by decide),updK_at]
  rw [eV] at HA
  have HT15:=hid ((HT1.out.mono (S':=fun q => q=fb∨q=pb) (fun _ _ h => h.elim)).trans t15)
  have r5:=(t5.cell (lt_of_cell g4) q3).trans g4
  clear t hin1 tW g0 g1 g2 gf q1 q2 q3 q4 q5 q6 mP1 hm5 t5 hin5 hnf t15 ht5 hlr eV r5
  go_upto_region 5 with fail
  clear hW1 r1 r3 r4 f4 hlen'
  go_wp2_with fail
  refine HA.out.mono ?_
  rintro e w6 ⟨rfl,hin6,ht6,t6⟩
  have hin6:RFilesIn w6 fb rb eb rf pb (pipeS1 S) (updK φ (freeE S.es) (nx+2)) (updK π S.ps.length (nx+1)) (nx+2) Ft:=by
   have h:=hin6
   rw [show nx+1+1=nx+2 from by omega] at h
   exact h
  have hl1:pipeL1 S L=tset L j1 ((freeE S.es:Int)+1,false):=by unfold pipeL1; rw [HJ.out.1.1]; rfl
  have hok6:TabOk (pipeS1 S) (pipeL1 S L):=by rw [hl1]; exact tabok_come (S':=moreS S newP) HOk.out rfl HK.out.1.1
  have ht6:RTabIs w6 tab (relL (updK φ (freeE S.es) (nx+2)) (pipeL1 S L)):=by
   have h:=ht6
   rw [show nx+1+1=nx+2 from by omega] at h
   refine h.congr fun i hi => ?_
   rw [hl1]
   exact rel_come HOk.out HK.out.1.1 (by omega) i hi
  have hlr2:leastL (relL (updK φ (freeE S.es) (nx+2)) (pipeL1 S L))=j2:=(rel_least hok6 hin6).trans HJ.out.2.1
  have HA2:=hid (radd_is (e:=⟨3,2,0,S.ps.length,0,1⟩) hin6 HS1.out.nd HK.out.2.1 (by have:=HNx.out; omega) rfl ht6 hlr2 HJ.out.2.2.1 HN.out)
  have eV:reV (fE (updK π S.ps.length (nx+1)) ⟨3,2,0,S.ps.length,0,1⟩)=.agg #[.int .i64 3,.int .i64 2,.int .i64 0,.int .i64 (nx+1),.int .i64 0]:=by
   unfold fE reV
   rw [if_neg (show ¬ (3:Int)=1 by decide),if_neg (show ¬ (3:Int)=1 by decide),updK_at]
  rw [eV] at HA2
  have HOk6:=hid hok6
  have HT6:=hid t6
  clear hin6 hl1 hok6 ht6 hlr2 eV t6 HA HU
  go_wp2_with fail
  refine HA2.out.mono ?_
  rintro e w7 ⟨rfl,hin7,ht7,t7⟩
  have HI7:Hid (RFilesIn w7 fb rb eb rf pb (pipeS2 S) (updK (updK φ (freeE S.es) (nx+2)) (freeE (pipeS1 S).es) (nx+3)) (updK π S.ps.length (nx+1)) (nx+3) Ft):=hid (by
   have h:=hin7
   rw [show nx+2+1=nx+3 from by omega] at h
   exact h)
  have HT7:Hid (RTabIs w7 tab (relL (updK (updK φ (freeE S.es) (nx+2)) (freeE (pipeS1 S).es) (nx+3)) (pipeL2 S L))):=hid (by
   have h:=ht7
   rw [show nx+2+1=nx+3 from by omega] at h
   refine h.congr fun i hi => ?_
   have hl2:pipeL2 S L=tset (pipeL1 S L) j2 ((freeE (pipeS1 S).es:Int)+1,false):=by unfold pipeL2; rw [HJ.out.2.1]; rfl
   rw [hl2]
   exact rel_come HOk6.out HK.out.2.1 (by omega) i hi)
  have HTu:=hid t7
  clear hin7 ht7 t7 HA2
  go_wp2_with fail
  go_ret3
  refine ⟨rfl,RFoots fb eb rf pb Ft,_,_,_,⟨eb,rf,pb,Ft,HI7.out,rfl⟩,HT7.out,?_,fun _ h => .inl h,HN.out,fun k e he => ?_,by omega⟩
  ·have m2:∀ q,(q=fb∨q=eb∨q=rf∨q=tab)→(RFoots fb eb rf pb Ft q∨q=tab):=fun q e => by
    rcases e with e | e | e | e
    ·exact .inl (.inr (.inl e))
    ·exact .inl (.inr (.inr (.inl e)))
    ·exact .inl (.inr (.inr (.inr (.inl e))))
    ·exact .inr e
   have m1:∀ q,(q=fb∨q=pb)→(RFoots fb eb rf pb Ft q∨q=tab):=fun q e => by
    rcases e with e | e
    ·exact .inl (.inr (.inl e))
    ·exact .inl (.inr (.inr (.inr (.inr e))))
   exact ((HT15.out.mono (fun q _ e => m1 q e)).trans (HT6.out.mono (fun q _ e => m2 q e))).trans (HTu.out.mono (fun q _ e => m2 q e))
  ·have h1:k≠freeE S.es:=fun c => by rw [c,HK.out.1.1] at he; cases he
   have h2:k≠freeE (pipeS1 S).es:=fun c => by
    have h3:mget (pipeS1 S).es k=some e:=by
     show mget (mput S.es _ _) k=some e
     rw [mget_mput,if_neg h1]; exact he
    rw [c,HK.out.2.1] at h3; cases h3
   rw [updK_ne h2,updK_ne h1]
end
section
variable {w w' w1:World} {fb rb eb rf pb tab:Nat} {S S':PS} {φ:Int→Int} {π:Nat→Int} {nx n k:Int} {F Ft:Nat→Prop} {L L':PTab} {e:PE} {q:PP}
theorem rffile_is (h:RFilesIs w fb rb S φ π nx F) (hS:DOk S) (hto:TOk S.T) (ha:Alive S.T) (ht:RTabIs w tab (relL φ L)) (hok:TabOk S L) (hn:¬ F tab) (hnx:nx+1≤500000) (path:ByteArray) (hs:path.size < 4294967281) (prot:Int) (makes:Bool)
  (hmk:TOk (fileN S.T path makes).2.2) (hbd:∀ n p,mget (fileN S.T path makes).2.2 n=some p→p.ds.length≤1000000∧p.held≤1000000000) :
  Calls Tryz.prog 23 #[.pointer (some ⟨fb,0,none⟩),.pointer (some ⟨tab,0,none⟩),.string path,.int .i64 prot,.bool makes] w fun e w' => e=.returned (.tuple #[.int .i64 (openK S L path prot makes),.int .i64 (openE S L path prot makes)])∧RFilesTo fb rb tab F w w' S (openS S L path prot makes) φ nx (openL S L path prot makes):=by
 have HSame:Hid (∀ w',Turn (fun _ => False) w w'→RFilesTo fb rb tab F w w' S S φ nx L):=hid (fun w' t => .same (h.turned t (fun _ _ => id)) (ht.turned t id) t hn)
 obtain ⟨eb,rf,pb,Ft,hin,rfl⟩:=h
 by_cases hp:prot < 1∨3 < prot
 ·have e1:openE S L path prot makes=1:=if_pos hp
  have e2:openS S L path prot makes=S:=if_pos hp
  have e3:openK S L path prot makes=0:=if_neg (by rw [e1]; decide)
  have e4:openL S L path prot makes=L:=if_neg (by rw [e1]; decide)
  rw [e1,e2,e3,e4]
  have HIn:=hid (fun w' => inR_no prot 1 3 (by omega) w')
  clear hin hS hto ha ht hok hn hnx hs hmk hbd e1 e2 e3 e4 hp
  go_enter Tryz.func23,Tryz.ntmps23
  go_wp2_with fail
  refine (HIn.out _).mono ?_
  rintro e w1 ⟨rfl,hw⟩; subst w1
  go_wp2_with fail
  go_ret2
  exact ⟨rfl,HSame.out _ (Turn.refl _ _)⟩
 ·obtain ⟨hp1,hp2⟩:1≤prot∧prot≤3:=by omega
  have HIn:=hid (fun w' => inR_yes prot 1 3 hp1 hp2 w')
  have hLe:=rleast_is ht
  rw [rel_least hok hin] at hLe
  have HLe:=hid hLe
  obtain ⟨M,hM⟩:∃ M,S.es.length=M:=⟨_,rfl⟩
  have HM:=hid hM
  obtain ⟨Z0,hZ0⟩:∃ Z0,leastL L=Z0:=⟨_,rfl⟩
  rw [hZ0] at HLe
  by_cases hf:leastL L < 0∨40≤S.es.length
  ·have e1:openE S L path prot makes=12:=by unfold openE; rw [if_neg hp,if_pos hf]
   have e2:openS S L path prot makes=S:=by unfold openS; rw [if_neg hp,if_pos hf]
   have e3:openK S L path prot makes=0:=if_neg (by rw [e1]; decide)
   have e4:openL S L path prot makes=L:=if_neg (by rw [e1]; decide)
   rw [e1,e2,e3,e4]
   have HI:=hid hin
   rw [hZ0,hM] at hf
   have HF:=hid hf
   clear hin hS hto ha ht hok hn hnx hs hmk hbd e1 e2 e3 e4 hp hp1 hp2 hf hLe hM hZ0
   go_enter Tryz.func23,Tryz.ntmps23
   go_wp2_with fail
   refine (HIn.out _).mono ?_
   rintro e w1 ⟨rfl,hw⟩; subst w1
   go_wp2_with fail
   refine HLe.out.mono ?_
   rintro e w1 ⟨rfl,t1⟩
   have HT1:=hid t1
   have hin1:=HI.out.still t1
   have r1:=hin1.h1
   have hln:=hin1.mE.run_len (P:=Tryz.prog) Tryz.underlying58 3
   rw [relab_len,HM.out] at hln
   clear t1 hin1
   by_cases hl:Z0 < 0
   ·go_wp2_with fail
    go_ret2
    exact ⟨rfl,HSame.out _ HT1.out⟩
   ·have hl2:(40:Int)≤M:=by have:=HF.out; omega
    go_wp2_with fail
    go_ret2
    exact ⟨rfl,HSame.out _ HT1.out⟩
  ·obtain ⟨j,hl,hj,hjz⟩:=(leastL_spec L).resolve_left (by omega)
   have hlen:S.es.length < 40:=by omega
   obtain ⟨xe,xk,T2,hX⟩:∃ xe xk T2,fileN S.T path makes=(xe,xk,T2):=⟨_,_,_,rfl⟩
   have e1:openE S L path prot makes=fileZ (xe,xk,T2):=by unfold openE; rw [if_neg hp,if_neg hf,hX]
   have e2:openS S L path prot makes=if fileZ (xe,xk,T2)=0 then putS (treeS S (fileH (xe,xk,T2))) (freeE S.es) ⟨1,prot,xk,0,0,1⟩ else treeS S (fileH (xe,xk,T2)):=by unfold openS; rw [if_neg hp,if_neg hf,hX]
   have e3:openK S L path prot makes=if fileZ (xe,xk,T2)=0 then (j:Int) else 0:=by unfold openK; rw [e1,hl]
   have e4:openL S L path prot makes=if fileZ (xe,xk,T2)=0 then tset L j ((freeE S.es:Int)+1,false) else L:=by unfold openL; rw [e1,hl]; rfl
   obtain ⟨Z,hZ⟩:∃ Z,fileZ (xe,xk,T2)=Z:=⟨_,rfl⟩
   rw [hZ] at e1 e2 e3 e4
   obtain ⟨S2,hS2⟩:∃ S2,openS S L path prot makes=S2:=⟨_,rfl⟩
   obtain ⟨K2,hK2⟩:∃ K2,openK S L path prot makes=K2:=⟨_,rfl⟩
   obtain ⟨L2,hL2⟩:∃ L2,openL S L path prot makes=L2:=⟨_,rfl⟩
   rw [e1,hS2,hK2,hL2]
   rw [hS2] at e2
   rw [hK2] at e3
   rw [hL2] at e4
   rw [hX] at hmk hbd
   have halive:Alive T2:=by
    have h:Alive (fileN S.T path makes).2.2:=by
     unfold fileN
     split
     ·exact ha.make path false
     ·exact ha
    rw [hX] at h; exact h
   have E2:=hid e2
   have E3:=hid e3
   have E4:=hid e4
   have HX:=hid hX
   have HZ:=hid hZ
   have HI:=hid hin
   have HT:=hid ht
   have HN:=hid hn
   have HLow:Hid (∀ j,RFoots fb eb rf pb Ft j→j < w.heap.size):=hid hin.lows
   have HS:=hid hS
   have HOk:=hid hok
   have HTo:=hid (And.intro hto (And.intro hmk (And.intro halive hbd)))
   have HNx:=hid hnx
   have HJ:=hid (And.intro hl (And.intro hj hjz))
   have hZ0j:Z0=j:=hZ0.symm.trans hl
   have hl0:¬ Z0 < 0:=by omega
   have hl2:¬ (40:Int)≤M:=by omega
   have HLf:=hid hlen
   clear hin hS hto ha ht hok hn hnx hmk hbd halive e1 e2 e3 e4 hp hp1 hp2 hf hl hj hjz hX hZ hS2 hK2 hL2 hLe hM hZ0 hZ0j hlen
   go_enter Tryz.func23,Tryz.ntmps23
   go_wp2_with fail
   refine (HIn.out _).mono ?_
   rintro e w1 ⟨rfl,hw⟩; subst w1
   go_wp2_with fail
   refine HLe.out.mono ?_
   rintro e w1 ⟨rfl,t1⟩
   have hin1:=HI.out.still t1
   have r1:=hin1.h1
   have hln:=hin1.mE.run_len (P:=Tryz.prog) Tryz.underlying58 3
   rw [relab_len,HM.out] at hln
   have HM1:=hid ((RFilesMid.start HI.out).still t1)
   have h0:=HM1.out.h0
   have HFi:=hid (HM1.out.find HTo.out.1 path hs)
   obtain ⟨fe,hfe⟩:∃ fe,(findT S.T path).1=fe:=⟨_,rfl⟩
   obtain ⟨fk,hfk⟩:∃ fk,(findT S.T path).2=fk:=⟨_,rfl⟩
   obtain ⟨bb,hbb⟩:∃ bb,decide (fe=7∧makes=true)=bb:=⟨_,rfl⟩
   rw [hfe,hfk] at HFi
   have HFe:=hid hfe
   have HFk:=hid hfk
   have HBb:=hid hbb
   clear t1 hin1 hfe hfk hbb
   go_upto_region 5 with fail
   clear r1 hln hl2 hl0
   go_wp2_with fail
   refine HFi.out.mono ?_
   rintro e w2 ⟨rfl,hm⟩
   have HM2:=hid hm
   clear hm HFi h0
   go_upto_region 6 with fail
   go_cut [41] (fun v wx => v=.bool bb∧wx=w2)
   case first =>
    as_aux_lemma =>
     by_cases h7:fe=7
     ·have hb2:bb=makes:=by have:=HBb.out; rw [h7] at this; simpa using this.symm
      have HB2:=hid hb2
      have h7b:(fe == 7)=true:=by simpa using h7
      clear h7 hb2
      go_wp2_with fail
      go_meet
      exact ⟨by rw [HB2.out],rfl⟩
     ·have h7b:(fe == 7)=false:=by simpa using h7
      have hb2:bb=false:=by rw [← HBb.out]; simp [h7]
      have HB2:=hid hb2
      clear h7 hb2
      go_wp2_with fail
      go_meet
      exact ⟨by rw [HB2.out],rfl⟩
   case rest =>
    obtain ⟨rfl,hwc⟩:=hcut
    subst hwc
    have h0:=HM2.out.h0
    go_upto_if 41 with fail
    go_cut [12,13] (fun kv ev wx => kv=.int .i64 xk∧ev=.int .i64 xe∧Hid (RFilesMid fb rb eb rf pb S φ π nx Ft w wx T2))
    case first =>
     as_aux_lemma =>
      have hx:=HX.out
      unfold fileN at hx
      cases bb with
      | true =>
       have h1:=of_decide_eq_true HBb.out
       rw [if_pos ⟨HFe.out.trans h1.1,h1.2⟩] at hx
       injection hx with x1 x2
       injection x2 with x2 x3
       have X1:=hid x1
       have X2:=hid x2
       have X3:=hid x3
       clear x1 x2 x3 h1
       go_wp2_with fail
       refine (HM2.out.make HLow.out HTo.out.1 path hs false).mono ?_
       rintro e w4 ⟨rfl,hm⟩
       have HM4:=hid hm
       clear hm
       go_wp2_with fail
       go_meet
       exact ⟨by rw [← X2.out],by rw [← X1.out],by rw [← X3.out]; exact HM4⟩
      | false =>
       have h1:=of_decide_eq_false HBb.out
       rw [if_neg (fun h => h1 ⟨HFe.out.symm.trans h.1,h.2⟩)] at hx
       injection hx with x1 x2
       injection x2 with x2 x3
       have X1:=hid x1
       have X2:=hid x2
       have X3:=hid x3
       clear x1 x2 x3 h1
       go_wp2_with fail
       go_meet
       exact ⟨by rw [← X2.out,HFk.out],by rw [← X1.out,HFe.out],by rw [← X3.out]; exact HM2⟩
    case rest =>
     obtain ⟨rfl,rfl,HM4⟩:=hcut
     clear HM1 HM2 h0
     have h0:=HM4.out.h0
     by_cases hxe:xe=0
     ·subst hxe
      have hZ2:Z=fileE T2 xk:=by rw [← HZ.out]; exact if_pos rfl
      have hH2:fileH (0,xk,T2)=holdT T2 xk:=if_pos rfl
      rw [hH2] at E2
      have hC:=HM4.out.hold HTo.out.2.1 HTo.out.2.2.1 xk HTo.out.2.2.2
      rw [← hZ2] at hC
      have HC:=hid hC
      clear hC hH2 hZ2
      by_cases hz:Z=0
      ·subst hz
       rw [if_pos rfl] at E2 E3 E4
       go_wp2_with fail
       refine HC.out.mono ?_
       rintro e w5 ⟨rfl,hm⟩
       have HM5:=hid hm
       clear hm HC
       obtain ⟨Ft1,hi5,hC5,ht5⟩:=HM5.out.foot
       have hn1:¬ RFoots fb eb rf pb Ft1 tab:=fun hx => by
        rcases hC5 tab hx with h | h
        ·exact HN.out h
        ·have:=HT.out.lt; omega
       have hfree:=freeE_spec HS.out.nd HLf.out
       have hA:=radd_is (e:=⟨1,prot,xk,0,0,1⟩) (k:=(freeE S.es:Int)) hi5 HS.out.nd hfree.2.1 HNx.out rfl (HT.out.turned ht5 (fun e => HN.out (.inl e))) ((rel_least HOk.out HI.out).trans HJ.out.1) HJ.out.2.1 hn1
       have eV:reV (fE π ⟨1,prot,xk,0,0,1⟩)=.agg #[.int .i64 1,.int .i64 prot,.int .i64 xk,.int .i64 0,.int .i64 0]:=by
        unfold fE reV
        rw [if_pos rfl,if_pos rfl]
       rw [eV] at hA
       have HA:=hid hA
       have HC5:=hid hC5
       have HT5:=hid ht5
       have HN1:=hid hn1
       have HFr:=hid hfree.2.1
       clear hi5 hC5 ht5 hn1 hfree hA eV h0
       go_wp2_with fail
       refine HA.out.mono ?_
       rintro e w7 ⟨rfl,hin7,ht7,t7⟩
       have HI7:=hid hin7
       have HT7:Hid (RTabIs w7 tab (relL (updK φ (freeE S.es) (nx+1)) (tset L j ((freeE S.es:Int)+1,false)))):=hid (ht7.congr fun i hi => rel_come HOk.out HFr.out (by omega) i hi)
       have HTu:=hid t7
       clear hin7 ht7 t7 HA
       go_wp2_with fail
       go_ret2
       rw [E2.out,E3.out,E4.out]
       refine ⟨rfl,RFoots fb eb rf pb Ft1,_,_,_,⟨eb,rf,pb,Ft1,HI7.out,rfl⟩,HT7.out,?_,HC5.out,HN1.out,fun k e he => ?_,by omega⟩
       ·refine (HT5.out.mono (fun _ _ e => .inl (.inl e))).trans' HTu.out (fun q hq e => ?_)
        rcases e with e | e | e | e
        ·exact .inl (.inr (.inl e))
        ·exact .inl (.inr (.inr (.inl e)))
        ·exact .inl (.inr (.inr (.inr (.inl e))))
        ·exact .inr e
       ·have h1:k≠freeE S.es:=fun c => by rw [c,HFr.out] at he; cases he
        rw [updK_ne h1]
      ·rw [if_neg hz] at E2 E3 E4
       have hzb:(Z == 0)=false:=by simpa using hz
       clear hz
       go_wp2_with fail
       refine HC.out.mono ?_
       rintro e w5 ⟨rfl,hm⟩
       have HM5:=hid hm
       clear hm HC
       go_wp2_with fail
       go_ret2
       rw [E2.out,E3.out,E4.out]
       exact ⟨rfl,HM5.out.done HT.out HN.out⟩
     ·have hZ2:Z=xe:=by rw [← HZ.out]; exact if_neg hxe
      have hH2:fileH (xe,xk,T2)=T2:=if_neg hxe
      rw [hH2,if_neg (by rw [hZ2]; exact hxe)] at E2
      rw [if_neg (by rw [hZ2]; exact hxe)] at E3 E4
      have HZ2:=hid hZ2
      have hxb:(xe == 0)=false:=by simpa using hxe
      clear hZ2 hxe hH2
      go_wp2_with fail
      go_ret2
      rw [HZ2.out,E2.out,E3.out,E4.out]
      exact ⟨rfl,HM4.out.done HT.out HN.out⟩
end
theorem readR_is (q:PP) (n:Int):readR q.e1 q.b n=(pRd q n,pRdE q n,(pRdQ q n).b):=by
 unfold readR pRd pRdQ pRdE
 by_cases h1:n < 0
 ·rw [if_pos h1,if_pos h1,if_neg (by decide),if_neg (by decide)]
 ·rw [if_neg h1,if_neg h1]
  by_cases h2:0 < n∧q.b.size=0∧0 < q.e1
  ·rw [if_pos h2,if_pos h2,if_neg (by decide),if_neg (by decide)]
  ·rw [if_neg h2,if_neg h2,if_pos rfl,if_pos rfl]
theorem pRdQ_ends (q:PP) (n:Int):(pRdQ q n).e0=q.e0∧(pRdQ q n).e1=q.e1:=by
 unfold pRdQ
 split <;> exact ⟨rfl,rfl⟩
section
variable {w w' w1:World} {fb rb eb rf pb tab:Nat} {S S':PS} {φ:Int→Int} {π:Nat→Int} {nx n k:Int} {F Ft:Nat→Prop} {L L':PTab} {e:PE} {q:PP}
theorem rfread_is (h:RFilesIs w fb rb S φ π nx F) (hS:DOk S) (hto:TOk S.T) (ht:RTabIs w tab (relL φ L)) (hok:TabOk S L) (hn:¬ F tab) (n many:Int) :
  Calls Tryz.prog 35 #[.pointer (some ⟨fb,0,none⟩),.pointer (some ⟨tab,0,none⟩),.int .i64 n,.int .i64 many] w fun e w' => e=.returned (.tuple #[.string (rdB S L n many),.int .i64 (rdE S L n many)])∧RFilesTo fb rb tab F w w' S (rdS S L n many) φ nx L:=by
 have HH:=hid (rhas_rel h ht hok n)
 have HK:Hid (∀ w',Turn (fun _ => False) w w'→RFilesTo fb rb tab F w w' S S φ nx L):=hid (fun w' t => .same (h.turned t (fun _ _ => id)) (ht.turned t id) t hn)
 cases hx:entL S L n with
 | none =>
  have e1:rdE S L n many=7:=by unfold rdE; rw [hx]; rfl
  have e2:rdS S L n many=S:=by unfold rdS; rw [hx]; rfl
  have e3:rdB S L n many=⟨#[]⟩:=by unfold rdB; rw [hx]; rfl
  have e5:(slotL L n).isSome=false:=by rw [entL_none hok hx]; rfl
  rw [e5] at HH
  rw [e1,e2,e3]
  clear h hS hto ht hok hn hx e1 e2 e3 e5
  go_enter Tryz.func35,Tryz.ntmps35
  go_wp2_with fail
  refine HH.out.mono ?_
  rintro e w1 ⟨rfl,hw⟩; subst w1
  go_wp2_with fail
  go_ret2
  exact ⟨rfl,HK.out _ (Turn.refl _ _)⟩
 | some x =>
  obtain ⟨k,e⟩:=x
  have hs:=(entL_some hx).1
  have he:=(entL_some hx).2
  obtain ⟨hn0,hn8,hnz,hnk⟩:=slotL_some hs
  have e5:(slotL L n).isSome=true:=by rw [hs]; rfl
  rw [e5] at HH
  obtain ⟨eb,rf,pb,Ft,hin,rfl⟩:=h
  have hi8:n.toNat < 8:=by omega
  have hniz:(n.toNat:Int)=n:=by omega
  have hEk:=hS.ent k e he
  have c0:=ht.ent n.toNat hi8
  rw [rel_at hnz hnk] at c0
  have h1:=hin.h1
  have lk:=fun w' (t:Turn (fun _ => False) w w') => (hin.still t).lookE he
  have td:Turn (fun _ => False) w w.drew:=(Turn.refl _ _).drew
  have ta:Turn (fun _ => False) w (w.alloc (rentO (0,0,0,0,0))):=(Turn.refl _ _).alloc _
  have lk1:=lk _ td
  have lk2:=lk _ ta.drew
  have a0:=(ta.cell (lt_of_cell c0) id).trans c0
  have a1:=(ta.cell (lt_of_cell h1) id).trans h1
  obtain ⟨⟨x1,x2,x3,x4,x5⟩,hX⟩:∃ x:RE,fE π e=x:=⟨_,rfl⟩
  have hkd:e.kind=x1:=congrArg (fun x:RE => x.1) hX
  have hpr:e.prot=x2:=congrArg (fun x:RE => x.2.1) hX
  have hnd3:(if e.kind=1 then e.node else 0)=x3:=congrArg (fun x:RE => x.2.2.1) hX
  have hpd4:(if e.kind=1 then 0 else π e.pid)=x4:=congrArg (fun x:RE => x.2.2.2.1) hX
  have hat5:e.at'=x5:=congrArg (fun x:RE => x.2.2.2.2) hX
  rw [hX] at lk1 lk2
  obtain ⟨K,hK⟩:∃ K,φ k=K:=⟨_,rfl⟩
  have HKf:=hid hK
  rw [hK] at c0 a0 lk1 lk2
  have l1:(Instr.lookup 58 (.map (some eb)) (.int .i64 K) false).run Tryz.prog w.drew=.ok (.agg #[.int .i64 x1,.int .i64 x2,.int .i64 x3,.int .i64 x4,.int .i64 x5]) w.drew:=lk1
  have l2:(Instr.lookup 58 (.map (some eb)) (.int .i64 K) false).run Tryz.prog (w.alloc (.cells #[.int .i64 0,.int .i64 0,.int .i64 0,.int .i64 0,.int .i64 0] 133)).drew=.ok (.agg #[.int .i64 x1,.int .i64 x2,.int .i64 x3,.int .i64 x4,.int .i64 x5]) (w.alloc (.cells #[.int .i64 0,.int .i64 0,.int .i64 0,.int .i64 0,.int .i64 0] 133)).drew:=lk2
  have b0:(w.alloc (.cells #[.int .i64 0,.int .i64 0,.int .i64 0,.int .i64 0,.int .i64 0] 133)).cell? ⟨tab,n.toNat * 2,none⟩=some (.int .i64 K):=a0
  have b1:(w.alloc (.cells #[.int .i64 0,.int .i64 0,.int .i64 0,.int .i64 0,.int .i64 0] 133)).cell? ⟨fb,1,none⟩=some (.map (some eb)):=a1
  obtain ⟨ab,hab⟩:∃ ab,w.heap.size=ab:=⟨_,rfl⟩
  obtain ⟨W1,hW1⟩:∃ W1,(w.alloc (.cells #[.int .i64 x1,.int .i64 x2,.int .i64 x3,.int .i64 x4,.int .i64 x5] 133)).drew=W1:=⟨_,rfl⟩
  have tW:Turn (fun _ => False) w W1:=by rw [← hW1]; exact ((Turn.refl _ _).alloc _).drew
  have m0:W1.cell? ⟨ab,0,none⟩=some (.int .i64 x1):=by rw [← hW1,← hab]; simp
  have m1:W1.cell? ⟨ab,1,none⟩=some (.int .i64 x2):=by rw [← hW1,← hab]; simp
  have m2:W1.cell? ⟨ab,2,none⟩=some (.int .i64 x3):=by rw [← hW1,← hab]; simp
  have m3:W1.cell? ⟨ab,3,none⟩=some (.int .i64 x4):=by rw [← hW1,← hab]; simp
  have m4:W1.cell? ⟨ab,4,none⟩=some (.int .i64 x5):=by rw [← hW1,← hab]; simp
  have mf:W1.frozen? ⟨ab,4,none⟩=false:=by rw [← hW1,← hab]; simp
  have HI:=hid hin
  have HT:=hid ht
  have HE:=hid he
  have HN:=hid hn
  have HS:=hid hS
  have HEk:=hid hEk
  have HX:=hid hX
  have HKd:=hid (And.intro hkd (And.intro hpr (And.intro hnd3 (And.intro hpd4 hat5))))
  have HW:=hid (And.intro hW1 hab)
  have HTW:=hid tW
  have HTo:=hid hto
  have HC0:=hid c0
  have HC1:=hid h1
  by_cases hp:e.prot=2
  ·have e1:rdE S L n many=13:=by unfold rdE; rw [hx]; exact if_pos hp
   have e2:rdS S L n many=S:=by unfold rdS; rw [hx]; exact if_pos hp
   have e3:rdB S L n many=⟨#[]⟩:=by unfold rdB; rw [hx]; exact if_pos hp
   rw [e1,e2,e3]
   obtain rfl:x2=2:=by rw [← hpr]; exact hp
   clear hin ht he hn hS hto hX lk1 lk2 a0 a1 lk td ta hok hx hs hnz hnk e5 hK hkd hpr hnd3 hpd4 hat5 hW1 hab tW e1 e2 e3 hp hEk
   go_enter Tryz.func35,Tryz.ntmps35
   go_wp2_with fail
   refine HH.out.mono ?_
   rintro e w1 ⟨rfl,hw⟩; subst w1
   go_wp2_with fail
   go_region
   all_goals
    rw [HW.out.1,HW.out.2]
    clear c0 h1 l1 l2 b0 b1
    go_wp2_with fail
    go_ret2
    exact ⟨rfl,HK.out _ HTW.out⟩
  ·by_cases hk2:e.kind=2
   ·obtain ⟨hp1,q,hq,hq0⟩:e.prot=1∧∃ q,S.ps[e.pid]?=some q∧q.e0=1:=hEk.from hk2
    have e1:rdE S L n many=pRdE q many:=by unfold rdE; rw [hx]; show (if e.prot=2 then 13 else if e.kind=2 then _ else _)=_; rw [if_neg hp,if_pos hk2,hq]; rfl
    have e2:rdS S L n many=pipeS S e.pid (pRdQ q many):=by unfold rdS; rw [hx]; show (if e.prot=2 then S else if e.kind=2 then _ else _)=_; rw [if_neg hp,if_pos hk2,hq]; rfl
    have e3:rdB S L n many=pRd q many:=by unfold rdB; rw [hx]; show (if e.prot=2 then _ else if e.kind=2 then _ else _)=_; rw [if_neg hp,if_pos hk2,hq]; rfl
    rw [e1,e2,e3]
    obtain rfl:x2=1:=by rw [← hpr]; exact hp1
    obtain rfl:x1=2:=by rw [← hkd]; exact hk2
    have hpi:π e.pid=x4:=by rw [if_neg (by rw [hk2]; decide)] at hpd4; exact hpd4
    obtain ⟨hb1,hb2,hb3⟩:=hS.pipes e.pid q hq
    have hW:=hin.still tW
    have q3:=hW.h3
    have lkp:=(hW.still (Turn.refl _ _).drew).lookP (i:=e.pid) (q:=q) hq
    have tz:Turn (fun _ => False) W1 (W1.alloc (.cells #[.string ⟨#[]⟩,.int .i64 0,.int .i64 0] 138)):=(Turn.refl _ _).alloc _
    have lkz:=(hW.still tz.drew).lookP (i:=e.pid) (q:=q) hq
    rw [hpi] at lkp lkz
    obtain ⟨pa,hpa⟩:∃ pa,W1.heap.size=pa:=⟨_,rfl⟩
    obtain ⟨W9,hW9⟩:∃ W9,(W1.alloc (.cells #[.string q.b,.int .i64 q.e0,.int .i64 q.e1] 138)).drew=W9:=⟨_,rfl⟩
    have t9:Turn (fun _ => False) W1 W9:=by rw [← hW9]; exact ((Turn.refl _ _).alloc _).drew
    have hP:PipeIs W9 pa q.b q.e0 q.e1:=by
     rw [← hW9,← hpa]
     exact ⟨by simp,by simp,by simp,fun i => by simp⟩
    have hR:=readR_is q many
    have hT:=refRead_is hP (by omega) many hb1
    rw [hR] at hT
    obtain ⟨q',hq'⟩:∃ q',pRdQ q many=q':=⟨_,rfl⟩
    have hends:=pRdQ_ends q many
    rw [hq'] at hT hends ⊢
    rw [← hends.1,← hends.2] at hT
    have HCR:=hid hT
    have HQ:=hid (And.intro hq hpi)
    have HT9:=hid t9
    have HW9:=hid (And.intro hW9 hpa)
    have m39:=(t9.cell (lt_of_cell m3) id).trans m3
    have q39:=(t9.cell (lt_of_cell q3) id).trans q3
    have q3z:=(tz.cell (lt_of_cell q3) id).trans q3
    have m3z:=(tz.cell (lt_of_cell m3) id).trans m3
    have hab9:ab≠pa:=by have:=lt_of_cell m3; simp only at this; omega
    have hfb9:fb≠pa:=by have:=lt_of_cell q3; simp only at this; omega
    have l3:(Instr.lookup 60 (.map (some pb)) (.int .i64 x4) false).run Tryz.prog W1.drew=.ok (.agg #[.string q.b,.int .i64 q.e0,.int .i64 q.e1]) W1.drew:=lkp
    have l4:(Instr.lookup 60 (.map (some pb)) (.int .i64 x4) false).run Tryz.prog (W1.alloc (.cells #[.string ⟨#[]⟩,.int .i64 0,.int .i64 0] 138)).drew=.ok (.agg #[.string q.b,.int .i64 q.e0,.int .i64 q.e1]) (W1.alloc (.cells #[.string ⟨#[]⟩,.int .i64 0,.int .i64 0] 138)).drew:=lkz
    obtain ⟨RB,hRB⟩:∃ RB,pRd q many=RB:=⟨_,rfl⟩
    obtain ⟨RZ,hRZ⟩:∃ RZ,pRdE q many=RZ:=⟨_,rfl⟩
    rw [hRB,hRZ] at HCR
    rw [hRB,hRZ]
    clear hin ht he hn hS hto hX lk1 lk2 a0 a1 lk td ta hok hx hs hnz hnk e5 hK hkd hpr hnd3 hpd4 hat5 hW1 hab tW e1 e2 e3 hp hEk hk2 hp1 hq hq0 hpi hb1 hb2 hb3 hW lkp tz lkz hpa hW9 t9 hP hR hT hq' hends hRB hRZ HX
    go_enter Tryz.func35,Tryz.ntmps35
    go_wp2_with fail
    refine HH.out.mono ?_
    rintro e w1 ⟨rfl,hw⟩; subst w1
    go_wp2_with fail
    go_region
    all_goals
     rw [HW.out.1,HW.out.2]
     clear c0 h1 l1 l2 b0 b1
     go_wp2_with fail
     go_region
    all_goals
     rw [HW9.out.1,HW9.out.2]
     clear l3 l4 q3 q3z m3z m3 m0 m1 m2 m4 mf
     go_wp2_with fail
     refine HCR.out.mono ?_
     rintro e9 w10 ⟨rfl,hp10,t10⟩
     have d3:=(t10.cell (lt_of_cell m39) hab9).trans m39
     have d1:=(t10.cell (lt_of_cell q39) hfb9).trans q39
     have p0:=hp10.c0
     have p1:=hp10.c1
     have p2:=hp10.c2
     have tt:Turn (fun j => j=pa) W9 w10.drew:=t10.drew
     have hd9:=(HI.out.still HTW.out).still HT9.out
     have hpaw:W1.heap.size=pa:=HW9.out.2
     have hd10:RFilesIn w10.drew fb rb eb rf pb S φ π nx Ft:=hd9.turned tt (fun j hj e => by have:=(HI.out.still HTW.out).lows j hj; omega)
     obtain ⟨w11,hrun,hm11,t11⟩:=hd10.mP.run_update (P:=Tryz.prog) keyI Tryz.underlying60 Tryz.underlying3 (π e.pid) q'
     replace hrun:(Instr.mapUpdate 60 (.map (some pb)) (.int .i64 x4) (.agg #[.string q'.b,.int .i64 q'.e0,.int .i64 q'.e1])).run Tryz.prog w10.drew=.ok () w11:=by
      have h:=hrun
      rw [HQ.out.2] at h
      exact h
     have HFin:Hid (RFilesTo fb rb tab (RFoots fb eb rf pb Ft) w w11 S (pipeS S e.pid q') φ nx L):=hid (by
      have hlt:=HT.out.lt
      have hsz:=HTW.out.size
      refine ⟨RFoots fb eb rf pb Ft,φ,π,nx,⟨eb,rf,pb,Ft,hd10.setPipe HQ.out.1 hm11 t11,rfl⟩,?_,?_,fun _ h => .inl h,HN.out,fun _ _ _ => rfl,by omega⟩
      ·exact (((HT.out.turned HTW.out id).turned HT9.out id).turned tt (fun e => by omega)).turned t11 (fun e => HN.out (.inr (.inr (.inr (.inr e)))))
      ·have t1:Turn (fun j => RFoots fb eb rf pb Ft j∨j=tab) w W9:=(HTW.out.trans HT9.out).mono (fun _ _ h => h.elim)
       exact (t1.trans' tt (fun j hj e => by omega)).trans (t11.mono (fun _ _ e => .inl (.inr (.inr (.inr (.inr e)))))))
     clear hp10 t10 tt hd9 hd10 hm11 t11 hpaw HCR
     go_wp2_with fail
     go_region
     go_wp2_with fail
     go_ret2
     exact ⟨rfl,HFin.out⟩
   ·have hk1:e.kind=1:=by rcases hEk.2 with h1 | h1 | h1 <;> omega
    have hp13:e.prot=1∨e.prot=3:=by rcases hEk.2 with h1 | h1 | h1 <;> omega
    have e1:rdE S L n many=readE S.T e.node e.at' many:=by unfold rdE; rw [hx]; show (if e.prot=2 then 13 else if e.kind=2 then _ else _)=_; rw [if_neg hp,if_neg hk2]
    have e2:rdS S L n many=putS S k { e with at':=e.at'+(readT S.T e.node e.at' many).size }:=by unfold rdS; rw [hx]; show (if e.prot=2 then S else if e.kind=2 then _ else _)=_; rw [if_neg hp,if_neg hk2]
    have e3:rdB S L n many=readT S.T e.node e.at' many:=by unfold rdB; rw [hx]; show (if e.prot=2 then _ else if e.kind=2 then _ else _)=_; rw [if_neg hp,if_neg hk2]
    rw [e1,e2,e3]
    have hsz:=readT_size hS hto e.node e.at' many
    obtain ⟨X,hXX⟩:∃ X,readT S.T e.node e.at' many=X:=⟨_,rfl⟩
    obtain ⟨Z,hZZ⟩:∃ Z,readE S.T e.node e.at' many=Z:=⟨_,rfl⟩
    have hnode:e.node=x3:=by rw [if_pos hk1] at hnd3; exact hnd3
    have hW:=hin.still tW
    have q0:=hW.h0
    have hWd:=hW.still (Turn.refl _ _).drew
    obtain ⟨nm,D,htr,hFt⟩:=hWd.tr
    have hC:=rread_is htr hto x3 x5 many
    rw [← hnode,← hat5,hXX,hZZ] at hC
    rw [hnode,hat5] at hC
    rw [hXX,hZZ]
    rw [hXX] at hsz
    have HC:=hid hC
    obtain rfl:x1=1:=by rw [← hkd]; exact hk1
    obtain ⟨hr0,hr1,hat0,hat1⟩:=hEk.1
    have hwr:IntKind.i64.wrap (x5+(X.size:Int))=x5+(X.size:Int):=IntWalk.i64_in _ (by rw [← hat5]; omega)
    have HP:Hid (x2=1∨x2=3):=hid (by rw [← hpr]; exact hp13)
    have HSz:=hid hsz
    clear hin ht he hn hS hto hX lk1 lk2 a0 a1 lk td ta hok hx hs hnz hnk e5 hK hkd hpr hnd3 hpd4 hat5 hW1 hab tW e1 e2 e3 hp hEk hk2 hk1 hW hWd htr hFt hC hXX hZZ hnode hp13 hr0 hr1 hat0 hat1 hsz
    go_enter Tryz.func35,Tryz.ntmps35
    go_wp2_with fail
    refine HH.out.mono ?_
    rintro e w1 ⟨rfl,hw⟩; subst w1
    go_wp2_with fail
    go_region
    all_goals
     rw [HW.out.1,HW.out.2]
     clear c0 h1 l1 l2 b0 b1
     rcases HP.out with hp | hp
     all_goals
      rw [hp] at m1
      go_wp2_with fail
      go_region_with (go_at_call 68; refine HC.out.mono ?_; rintro e9 w9 ⟨rfl,h9⟩; have H9:=hid (((Turn.refl (fun _ => False) W1).drew).trans h9); clear h9)
      all_goals
       have n4:=(H9.out.cell (lt_of_cell m4) id).trans m4
       have nf:=(H9.out.frozen (a:=⟨ab,4,none⟩) (lt_of_cell m4) id).trans mf
       have n0:=(H9.out.cell (lt_of_cell m0) id).trans m0
       have n1:=(H9.out.cell (lt_of_cell m1) id).trans m1
       have n2:=(H9.out.cell (lt_of_cell m2) id).trans m2
       have n3:=(H9.out.cell (lt_of_cell m3) id).trans m3
       have t9:Turn (fun _ => False) w w9:=HTW.out.trans H9.out
       have habw:w.heap.size=ab:=HW.out.2
       have t2:Turn (fun _ => False) w (w9.setCell ⟨ab,4,none⟩ (.int .i64 (x5+(X.size:Int)))).drew:=t9.trans' (((Turn.refl (fun q => q=ab) w9).setCell _ _ (fun _ => rfl)).drew) (fun q hq e => by omega)
       obtain ⟨w5,hrun,hm5,t5⟩:=(HI.out.mE.turned t2 id).run_update (P:=Tryz.prog) keyI Tryz.underlying58 Tryz.underlying3 (φ k) (1,x2,x3,x4,x5+(X.size:Int))
       rw [HKf.out] at hrun
       replace hrun:(Instr.mapUpdate 58 (.map (some eb)) (.int .i64 K) (.agg #[.int .i64 1,.int .i64 x2,.int .i64 x3,.int .i64 x4,.int .i64 (x5+(X.size:Int))])).run Tryz.prog (w9.setCell ⟨ab,4,none⟩ (.int .i64 (x5+(X.size:Int)))).drew=.ok () w5:=hrun
       rw [hp] at hrun
       have o0:=(t2.cell (lt_of_cell HC0.out) id).trans HC0.out
       have o1:=(t2.cell (lt_of_cell HC1.out) id).trans HC1.out
       have HFin:Hid (RFilesTo fb rb tab (RFoots fb eb rf pb Ft) w w5 S (putS S k { e with at':=e.at'+(X.size:Int) }) φ nx L):=hid (by
        refine ⟨RFoots fb eb rf pb Ft,φ,π,nx,⟨eb,rf,pb,Ft,?_,rfl⟩,?_,?_,fun _ h => .inl h,HN.out,fun _ _ _ => rfl,by omega⟩
        ·refine (HI.out.still t2).setEnt HS.out.nd HE.out rfl ?_ t5
         have e1:fE π { e with at':=e.at'+(X.size:Int) }=(1,x2,x3,x4,x5+(X.size:Int)):=by
          have h0:=HX.out
          unfold fE at h0 ⊢
          simp only [Prod.mk.injEq] at h0 ⊢
          exact ⟨h0.1,h0.2.1,h0.2.2.1,h0.2.2.2.1,by rw [h0.2.2.2.2]⟩
         rw [e1]
         exact hm5
        ·exact (HT.out.turned t2 id).turned t5 (fun e => HN.out (.inr (.inr (.inl e))))
        ·exact (t2.mono (fun _ _ h => h.elim)).trans (t5.mono (fun _ _ e => .inl (.inr (.inr (.inl e))))))
       clear t9 t2 hm5 t5 habw
       go_wp2_with fail
       go_region
       all_goals
        go_wp2_with fail
        go_ret2
        exact ⟨rfl,HFin.out⟩
end
theorem writeR_is (q:PP) (s:ByteArray) (h0:q.e0=0∨q.e0=1):writeR q.e0 q.b s=(pWr q s,pWrE q s,(pWrQ q s).b):=by
 unfold writeR pWrQ pWr pWrE
 by_cases h1:q.e0=0
 ·rw [if_pos h1,if_pos h1,if_neg (by decide),app_empty]
 ·rw [if_neg h1,if_neg h1]
  by_cases h2:s.size=0
  ·rw [if_pos h2,if_pos h2,if_pos rfl,h2,Nat.zero_min,app_empty]
  ·rw [if_neg h2,if_neg h2]
   by_cases h3:16≤q.b.size
   ·rw [if_pos h3,if_pos h3,if_neg (by decide),app_empty]
   ·rw [if_neg h3,if_neg h3,if_pos rfl]
theorem pWrQ_ends (q:PP) (s:ByteArray):(pWrQ q s).e0=q.e0∧(pWrQ q s).e1=q.e1:=⟨rfl,rfl⟩
section
variable {w w' w1:World} {fb rb eb rf pb tab:Nat} {S S':PS} {φ:Int→Int} {π:Nat→Int} {nx n k:Int} {F Ft:Nat→Prop} {L L':PTab} {e:PE} {q:PP}
theorem rfwrite_is (h:RFilesIs w fb rb S φ π nx F) (hS:DOk S) (hto:TOk S.T) (ht:RTabIs w tab (relL φ L)) (hok:TabOk S L) (hn:¬ F tab) (n:Int) (s:ByteArray) (hs3:s.size≤1000) (most:Int) (hm1:-9223372036854775808≤most) (hm2:most≤9223372036854775807) :
  Calls Tryz.prog 37 #[.pointer (some ⟨fb,0,none⟩),.pointer (some ⟨tab,0,none⟩),.int .i64 n,.string s,.int .i64 most] w fun e w' => e=.returned (.tuple #[.int .i64 (wrK S L n s most),.int .i64 (wrE S L n s most)])∧RFilesTo fb rb tab F w w' S (wrS S L n s most) φ nx L:=by
 have HH:=hid (rhas_rel h ht hok n)
 have HK:Hid (∀ w',Turn (fun _ => False) w w'→RFilesTo fb rb tab F w w' S S φ nx L):=hid (fun w' t => .same (h.turned t (fun _ _ => id)) (ht.turned t id) t hn)
 cases hx:entL S L n with
 | none =>
  have e1:wrE S L n s most=7:=by unfold wrE; rw [hx]; rfl
  have e2:wrS S L n s most=S:=by unfold wrS; rw [hx]; rfl
  have e3:wrK S L n s most=0:=by unfold wrK; rw [hx]; rfl
  have e5:(slotL L n).isSome=false:=by rw [entL_none hok hx]; rfl
  rw [e5] at HH
  rw [e1,e2,e3]
  clear h hS hto ht hok hn hx e1 e2 e3 e5
  go_enter Tryz.func37,Tryz.ntmps37
  go_wp2_with fail
  refine HH.out.mono ?_
  rintro e w1 ⟨rfl,hw⟩; subst w1
  go_wp2_with fail
  go_ret2
  exact ⟨rfl,HK.out _ (Turn.refl _ _)⟩
 | some x =>
  obtain ⟨k,e⟩:=x
  have hs:=(entL_some hx).1
  have he:=(entL_some hx).2
  obtain ⟨hn0,hn8,hnz,hnk⟩:=slotL_some hs
  have e5:(slotL L n).isSome=true:=by rw [hs]; rfl
  rw [e5] at HH
  obtain ⟨eb,rf,pb,Ft,hin,rfl⟩:=h
  have hi8:n.toNat < 8:=by omega
  have hniz:(n.toNat:Int)=n:=by omega
  have hEk:=hS.ent k e he
  have c0:=ht.ent n.toNat hi8
  rw [rel_at hnz hnk] at c0
  have h1:=hin.h1
  have lk:=fun w' (t:Turn (fun _ => False) w w') => (hin.still t).lookE he
  have td:Turn (fun _ => False) w w.drew:=(Turn.refl _ _).drew
  have ta:Turn (fun _ => False) w (w.alloc (rentO (0,0,0,0,0))):=(Turn.refl _ _).alloc _
  have lk1:=lk _ td
  have lk2:=lk _ ta.drew
  have a0:=(ta.cell (lt_of_cell c0) id).trans c0
  have a1:=(ta.cell (lt_of_cell h1) id).trans h1
  obtain ⟨⟨x1,x2,x3,x4,x5⟩,hX⟩:∃ x:RE,fE π e=x:=⟨_,rfl⟩
  have hkd:e.kind=x1:=congrArg (fun x:RE => x.1) hX
  have hpr:e.prot=x2:=congrArg (fun x:RE => x.2.1) hX
  have hnd3:(if e.kind=1 then e.node else 0)=x3:=congrArg (fun x:RE => x.2.2.1) hX
  have hpd4:(if e.kind=1 then 0 else π e.pid)=x4:=congrArg (fun x:RE => x.2.2.2.1) hX
  have hat5:e.at'=x5:=congrArg (fun x:RE => x.2.2.2.2) hX
  rw [hX] at lk1 lk2
  obtain ⟨K,hK⟩:∃ K,φ k=K:=⟨_,rfl⟩
  have HKf:=hid hK
  rw [hK] at c0 a0 lk1 lk2
  have l1:(Instr.lookup 58 (.map (some eb)) (.int .i64 K) false).run Tryz.prog w.drew=.ok (.agg #[.int .i64 x1,.int .i64 x2,.int .i64 x3,.int .i64 x4,.int .i64 x5]) w.drew:=lk1
  have l2:(Instr.lookup 58 (.map (some eb)) (.int .i64 K) false).run Tryz.prog (w.alloc (.cells #[.int .i64 0,.int .i64 0,.int .i64 0,.int .i64 0,.int .i64 0] 133)).drew=.ok (.agg #[.int .i64 x1,.int .i64 x2,.int .i64 x3,.int .i64 x4,.int .i64 x5]) (w.alloc (.cells #[.int .i64 0,.int .i64 0,.int .i64 0,.int .i64 0,.int .i64 0] 133)).drew:=lk2
  have b0:(w.alloc (.cells #[.int .i64 0,.int .i64 0,.int .i64 0,.int .i64 0,.int .i64 0] 133)).cell? ⟨tab,n.toNat * 2,none⟩=some (.int .i64 K):=a0
  have b1:(w.alloc (.cells #[.int .i64 0,.int .i64 0,.int .i64 0,.int .i64 0,.int .i64 0] 133)).cell? ⟨fb,1,none⟩=some (.map (some eb)):=a1
  obtain ⟨ab,hab⟩:∃ ab,w.heap.size=ab:=⟨_,rfl⟩
  obtain ⟨W1,hW1⟩:∃ W1,(w.alloc (.cells #[.int .i64 x1,.int .i64 x2,.int .i64 x3,.int .i64 x4,.int .i64 x5] 133)).drew=W1:=⟨_,rfl⟩
  have tW:Turn (fun _ => False) w W1:=by rw [← hW1]; exact ((Turn.refl _ _).alloc _).drew
  have m0:W1.cell? ⟨ab,0,none⟩=some (.int .i64 x1):=by rw [← hW1,← hab]; simp
  have m1:W1.cell? ⟨ab,1,none⟩=some (.int .i64 x2):=by rw [← hW1,← hab]; simp
  have m2:W1.cell? ⟨ab,2,none⟩=some (.int .i64 x3):=by rw [← hW1,← hab]; simp
  have m3:W1.cell? ⟨ab,3,none⟩=some (.int .i64 x4):=by rw [← hW1,← hab]; simp
  have m4:W1.cell? ⟨ab,4,none⟩=some (.int .i64 x5):=by rw [← hW1,← hab]; simp
  have mf:W1.frozen? ⟨ab,4,none⟩=false:=by rw [← hW1,← hab]; simp
  have HI:=hid hin
  have HT:=hid ht
  have HE:=hid he
  have HN:=hid hn
  have HS:=hid hS
  have HEk:=hid hEk
  have HX:=hid hX
  have HKd:=hid (And.intro hkd (And.intro hpr (And.intro hnd3 (And.intro hpd4 hat5))))
  have HW:=hid (And.intro hW1 hab)
  have HTW:=hid tW
  have HTo:=hid hto
  have HC0:=hid c0
  have HC1:=hid h1
  by_cases hp:e.prot=1
  ·have e1:wrE S L n s most=13:=by unfold wrE; rw [hx]; exact if_pos hp
   have e2:wrS S L n s most=S:=by unfold wrS; rw [hx]; exact if_pos hp
   have e3:wrK S L n s most=0:=by unfold wrK; rw [hx]; exact if_pos hp
   rw [e1,e2,e3]
   obtain rfl:x2=1:=by rw [← hpr]; exact hp
   clear hin ht he hn hS hto hX lk1 lk2 a0 a1 lk td ta hok hx hs hnz hnk e5 hK hkd hpr hnd3 hpd4 hat5 hW1 hab tW e1 e2 e3 hp hEk
   go_enter Tryz.func37,Tryz.ntmps37
   go_wp2_with fail
   refine HH.out.mono ?_
   rintro e w1 ⟨rfl,hw⟩; subst w1
   go_wp2_with fail
   go_region
   all_goals
    rw [HW.out.1,HW.out.2]
    clear c0 h1 l1 l2 b0 b1
    go_wp2_with fail
    go_ret2
    exact ⟨rfl,HK.out _ HTW.out⟩
  ·by_cases hk3:e.kind=3
   ·obtain ⟨hp1,q,hq,hq0⟩:=hEk.into hk3
    have e1:wrE S L n s most=pWrE q s:=by unfold wrE; rw [hx]; show (if e.prot=1 then 13 else if e.kind=3 then _ else _)=_; rw [if_neg hp,if_pos hk3,hq]; rfl
    have e2:wrS S L n s most=pipeS S e.pid (pWrQ q s):=by unfold wrS; rw [hx]; show (if e.prot=1 then S else if e.kind=3 then _ else _)=_; rw [if_neg hp,if_pos hk3,hq]; rfl
    have e3:wrK S L n s most=pWr q s:=by unfold wrK; rw [hx]; show (if e.prot=1 then _ else if e.kind=3 then _ else _)=_; rw [if_neg hp,if_pos hk3,hq]; rfl
    rw [e1,e2,e3]
    obtain rfl:x2=2:=by rw [← hpr]; exact hp1
    obtain rfl:x1=3:=by rw [← hkd]; exact hk3
    have hpi:π e.pid=x4:=by rw [if_neg (by rw [hk3]; decide)] at hpd4; exact hpd4
    obtain ⟨hb1,hb2,hb3⟩:=hS.pipes e.pid q hq
    have hW:=hin.still tW
    have q3:=hW.h3
    have lkp:=(hW.still (Turn.refl _ _).drew).lookP (i:=e.pid) (q:=q) hq
    have tz:Turn (fun _ => False) W1 (W1.alloc (.cells #[.string ⟨#[]⟩,.int .i64 0,.int .i64 0] 138)):=(Turn.refl _ _).alloc _
    have lkz:=(hW.still tz.drew).lookP (i:=e.pid) (q:=q) hq
    rw [hpi] at lkp lkz
    obtain ⟨pa,hpa⟩:∃ pa,W1.heap.size=pa:=⟨_,rfl⟩
    obtain ⟨W9,hW9⟩:∃ W9,(W1.alloc (.cells #[.string q.b,.int .i64 q.e0,.int .i64 q.e1] 138)).drew=W9:=⟨_,rfl⟩
    have t9:Turn (fun _ => False) W1 W9:=by rw [← hW9]; exact ((Turn.refl _ _).alloc _).drew
    have hP:PipeIs W9 pa q.b q.e0 q.e1:=by
     rw [← hW9,← hpa]
     exact ⟨by simp,by simp,by simp,fun i => by simp⟩
    have hR:=writeR_is q s hb2
    have hT:=refWrite_is hP (by omega) s hs3 hb1
    rw [hR] at hT
    obtain ⟨q',hq'⟩:∃ q',pWrQ q s=q':=⟨_,rfl⟩
    have hends:=pWrQ_ends q s
    rw [hq'] at hT hends ⊢
    rw [← hends.1,← hends.2] at hT
    have HCR:=hid hT
    have HQ:=hid (And.intro hq hpi)
    have HT9:=hid t9
    have HW9:=hid (And.intro hW9 hpa)
    have m39:=(t9.cell (lt_of_cell m3) id).trans m3
    have q39:=(t9.cell (lt_of_cell q3) id).trans q3
    have q3z:=(tz.cell (lt_of_cell q3) id).trans q3
    have m3z:=(tz.cell (lt_of_cell m3) id).trans m3
    have hab9:ab≠pa:=by have:=lt_of_cell m3; simp only at this; omega
    have hfb9:fb≠pa:=by have:=lt_of_cell q3; simp only at this; omega
    have l3:(Instr.lookup 60 (.map (some pb)) (.int .i64 x4) false).run Tryz.prog W1.drew=.ok (.agg #[.string q.b,.int .i64 q.e0,.int .i64 q.e1]) W1.drew:=lkp
    have l4:(Instr.lookup 60 (.map (some pb)) (.int .i64 x4) false).run Tryz.prog (W1.alloc (.cells #[.string ⟨#[]⟩,.int .i64 0,.int .i64 0] 138)).drew=.ok (.agg #[.string q.b,.int .i64 q.e0,.int .i64 q.e1]) (W1.alloc (.cells #[.string ⟨#[]⟩,.int .i64 0,.int .i64 0] 138)).drew:=lkz
    obtain ⟨RB,hRB⟩:∃ RB,pWr q s=RB:=⟨_,rfl⟩
    obtain ⟨RZ,hRZ⟩:∃ RZ,pWrE q s=RZ:=⟨_,rfl⟩
    rw [hRB,hRZ] at HCR
    rw [hRB,hRZ]
    clear hin ht he hn hS hto hX lk1 lk2 a0 a1 lk td ta hok hx hs hnz hnk e5 hK hkd hpr hnd3 hpd4 hat5 hW1 hab tW e1 e2 e3 hp hEk hk3 hp1 hq hq0 hpi hb1 hb2 hb3 hW lkp tz lkz hpa hW9 t9 hP hR hT hq' hends hRB hRZ HX
    go_enter Tryz.func37,Tryz.ntmps37
    go_wp2_with fail
    refine HH.out.mono ?_
    rintro e w1 ⟨rfl,hw⟩; subst w1
    go_wp2_with fail
    go_region
    all_goals
     rw [HW.out.1,HW.out.2]
     clear c0 h1 l1 l2 b0 b1
     go_wp2_with fail
     go_region
    all_goals
     rw [HW9.out.1,HW9.out.2]
     clear l3 l4 q3 q3z m3z m3 m0 m1 m2 m4 mf
     go_wp2_with fail
     refine HCR.out.mono ?_
     rintro e9 w10 ⟨rfl,hp10,t10⟩
     have d3:=(t10.cell (lt_of_cell m39) hab9).trans m39
     have d1:=(t10.cell (lt_of_cell q39) hfb9).trans q39
     have p0:=hp10.c0
     have p1:=hp10.c1
     have p2:=hp10.c2
     have tt:Turn (fun j => j=pa) W9 w10.drew:=t10.drew
     have hd9:=(HI.out.still HTW.out).still HT9.out
     have hpaw:W1.heap.size=pa:=HW9.out.2
     have hd10:RFilesIn w10.drew fb rb eb rf pb S φ π nx Ft:=hd9.turned tt (fun j hj e => by have:=(HI.out.still HTW.out).lows j hj; omega)
     obtain ⟨w11,hrun,hm11,t11⟩:=hd10.mP.run_update (P:=Tryz.prog) keyI Tryz.underlying60 Tryz.underlying3 (π e.pid) q'
     replace hrun:(Instr.mapUpdate 60 (.map (some pb)) (.int .i64 x4) (.agg #[.string q'.b,.int .i64 q'.e0,.int .i64 q'.e1])).run Tryz.prog w10.drew=.ok () w11:=by
      have h:=hrun
      rw [HQ.out.2] at h
      exact h
     have HFin:Hid (RFilesTo fb rb tab (RFoots fb eb rf pb Ft) w w11 S (pipeS S e.pid q') φ nx L):=hid (by
      have hlt:=HT.out.lt
      have hsz:=HTW.out.size
      refine ⟨RFoots fb eb rf pb Ft,φ,π,nx,⟨eb,rf,pb,Ft,hd10.setPipe HQ.out.1 hm11 t11,rfl⟩,?_,?_,fun _ h => .inl h,HN.out,fun _ _ _ => rfl,by omega⟩
      ·exact (((HT.out.turned HTW.out id).turned HT9.out id).turned tt (fun e => by omega)).turned t11 (fun e => HN.out (.inr (.inr (.inr (.inr e)))))
      ·have t1:Turn (fun j => RFoots fb eb rf pb Ft j∨j=tab) w W9:=(HTW.out.trans HT9.out).mono (fun _ _ h => h.elim)
       exact (t1.trans' tt (fun j hj e => by omega)).trans (t11.mono (fun _ _ e => .inl (.inr (.inr (.inr (.inr e)))))))
     clear hp10 t10 tt hd9 hd10 hm11 t11 hpaw HCR
     go_wp2_with fail
     go_region
     go_wp2_with fail
     go_ret2
     exact ⟨rfl,HFin.out⟩
   ·have hk1:e.kind=1:=by rcases hEk.2 with h1 | h1 | h1 <;> omega
    have hp23:e.prot=2∨e.prot=3:=by rcases hEk.2 with h1 | h1 | h1 <;> omega
    have e1:wrE S L n s most=if limB e s most=true then 4 else writeE S.T e.node e.at' s:=by unfold wrE; rw [hx]; show (if e.prot=1 then 13 else if e.kind=3 then _ else _)=_; rw [if_neg hp,if_neg hk3]
    have e2:wrS S L n s most=if limB e s most=true then S else if writeE S.T e.node e.at' s=0 then putS (treeS S (writeT S.T e.node e.at' s)) k { e with at':=e.at'+s.size } else S:=by unfold wrS; rw [hx]; show (if e.prot=1 then S else if e.kind=3 then _ else _)=_; rw [if_neg hp,if_neg hk3]
    have e3:wrK S L n s most=if limB e s most=true then 0 else if writeE S.T e.node e.at' s=0 then (s.size:Int) else 0:=by unfold wrK; rw [hx]; show (if e.prot=1 then _ else if e.kind=3 then _ else _)=_; rw [if_neg hp,if_neg hk3]
    have E1:=hid e1
    have E2:=hid e2
    have E3:=hid e3
    obtain ⟨lim,hlim⟩:∃ lim,limB e s most=lim:=⟨_,rfl⟩
    rw [hlim] at E1 E2 E3
    have HLim:Hid (lim=decide (s.size≠0∧(most < s.size∨most - s.size < x5))):=hid (by rw [← hlim,← hat5]; rfl)
    have hnode:e.node=x3:=by rw [if_pos hk1] at hnd3; exact hnd3
    have hW:=hin.still tW
    have q0:=hW.h0
    have hWd:=hW.still (Turn.refl _ _).drew
    obtain ⟨nm,D,htr,hFt⟩:=hWd.tr
    have hC:=rwrite_is htr hto x3 x5 s (by omega)
    have hC2:Calls Tryz.prog 72 #[.pointer (some ⟨rb,0,none⟩),.int .i64 x3,.int .i64 x5,.string s] W1.drew fun e w' => e=.returned (.int .i64 (writeE S.T x3 x5 s))∧RTreeTo rb Ft W1.drew w' (writeT S.T x3 x5 s):=by
     rw [hFt]; exact hC
    have HC:=hid hC2
    rw [hnode,hat5] at E1 E2 E3
    have HNo:=hid hnode
    obtain ⟨Z,hZZ⟩:∃ Z,writeE S.T x3 x5 s=Z:=⟨_,rfl⟩
    rw [hZZ] at HC E1 E2 E3
    have HZZ:=hid hZZ
    obtain rfl:x1=1:=by rw [← hkd]; exact hk1
    obtain ⟨hr0,hr1,hat0,hat1⟩:=hEk.1
    have hwr:IntKind.i64.wrap (x5+(s.size:Int))=x5+(s.size:Int):=IntWalk.i64_in _ (by rw [← hat5]; omega)
    have HP:Hid (x2=2∨x2=3):=hid (by rw [← hpr]; exact hp23)
    obtain ⟨R1,hR1⟩:∃ R1,wrE S L n s most=R1:=⟨_,rfl⟩
    obtain ⟨R2,hR2⟩:∃ R2,wrS S L n s most=R2:=⟨_,rfl⟩
    obtain ⟨R3,hR3⟩:∃ R3,wrK S L n s most=R3:=⟨_,rfl⟩
    rw [hR1,hR2,hR3]
    rw [hR1] at E1
    rw [hR2] at E2
    rw [hR3] at E3
    clear hin ht he hn hS hto hX lk1 lk2 a0 a1 lk td ta hok hx hs hnz hnk e5 hK hkd hpr hnd3 hpd4 hat5 hW1 hab tW e1 e2 e3 hp hEk hk3 hk1 hW hWd htr hFt hC hC2 hZZ hnode hp23 hr0 hr1 hat0 hat1 hlim hR1 hR2 hR3
    go_enter Tryz.func37,Tryz.ntmps37
    go_wp2_with fail
    refine HH.out.mono ?_
    rintro e w1 ⟨rfl,hw⟩; subst w1
    go_upto_region 3 with fail
    go_cut [12] (fun v wx => v=.pointer (some ⟨ab,0,none⟩)∧wx=W1)
    case first =>
     as_aux_lemma =>
      go_region
      all_goals
       go_wp2_with fail
       go_meet
       exact ⟨by rw [HW.out.2],HW.out.1⟩
    case rest =>
     obtain ⟨rfl,rfl⟩:=hcut
     clear c0 h1 l1 l2 b0 b1
     go_upto_region 4 with fail
     go_cut [34] (fun v wx => v=.bool false∧wx=wc)
     case first =>
      as_aux_lemma =>
       rcases HP.out with hp | hp
       all_goals rw [hp] at m1
       all_goals go_wp2_with fail
       all_goals go_meet
       all_goals exact ⟨rfl,rfl⟩
     case rest =>
      obtain ⟨rfl,hwc⟩:=hcut
      subst hwc
      go_upto_region 11 with fail
      go_cut [75] (fun v wx => v=.bool lim∧wx=wc)
      case first =>
       as_aux_lemma =>
        by_cases h1:s.size=0
        ·have hl:lim=false:=by rw [HLim.out]; exact decide_eq_false (fun h => h.1 h1)
         have HL:=hid hl
         have h1b:(s.toList.isEmpty)=true:=by rw [toList_empty]; exact decide_eq_true h1
         clear hl h1
         go_wp2_with fail
         go_meet
         exact ⟨by rw [HL.out],rfl⟩
        ·have h1b:(s.toList.isEmpty)=false:=by rw [toList_empty]; exact decide_eq_false h1
         by_cases h2:most < (s.size:Int)
         ·have hl:lim=true:=by rw [HLim.out]; exact decide_eq_true ⟨h1,.inl h2⟩
          have HL:=hid hl
          clear h1 hl
          go_wp2_with fail
          go_meet
          exact ⟨by rw [HL.out],rfl⟩
         ·have hw2:IntKind.i64.wrap (most - (s.size:Int))=most - (s.size:Int):=IntWalk.i64_in _ (by omega)
          have hl:lim=decide (most - s.size < x5):=by rw [HLim.out]; exact decide_eq_decide.2 ⟨fun h => h.2.resolve_left h2,fun h => ⟨h1,.inr h⟩⟩
          have HL:=hid hl
          have h3:¬ (most:Int) < s.size:=h2
          clear h1 hl
          go_wp2_with fail
          go_meet
          exact ⟨by rw [HL.out],rfl⟩
      case rest =>
       obtain ⟨rfl,hwc⟩:=hcut
       subst hwc
       cases lim with
       | true =>
        have F1:=hid (E1.out.trans (if_pos rfl))
        have F2:=hid (E2.out.trans (if_pos rfl))
        have F3:=hid (E3.out.trans (if_pos rfl))
        clear E1 E2 E3
        go_wp2_with fail
        go_ret2
        rw [F1.out,F2.out,F3.out]
        exact ⟨rfl,HK.out _ HTW.out⟩
       | false =>
        have f1:=E1.out.trans (if_neg (by decide))
        have f2:=E2.out.trans (if_neg (by decide))
        have f3:=E3.out.trans (if_neg (by decide))
        obtain ⟨W9,hW9⟩:∃ W9,wc.drew=W9:=⟨_,rfl⟩
        have hA9:Calls Tryz.prog 72 #[.pointer (some ⟨rb,0,none⟩),.int .i64 x3,.int .i64 x5,.string s] wc.drew fun e w' => e=.returned (.int .i64 Z)∧Hid (RTreeTo rb Ft W9 w' (writeT S.T x3 x5 s))∧w'.cell? ⟨ab,2,none⟩=some (.int .i64 x3)∧w'.cell? ⟨ab,4,none⟩=some (.int .i64 x5)∧w'.cell? ⟨fb,0,none⟩=some (.pointer (some ⟨rb,0,none⟩)):=by
         have hd:=HI.out.still HTW.out.drew
         have habw:w.heap.size=ab:=HW.out.2
         refine HC.out.mono fun e w' x => ⟨x.1,by rw [← hW9]; exact x.2,?_⟩
         obtain ⟨F',htr,t9,hnew,_⟩:=x.2
         have td:Turn (fun _ => False) wc wc.drew:=(Turn.refl _ _).drew
         have nF:¬ Ft ab:=fun e => by have:=HI.out.lows ab (.inl e); omega
         have g2:=(td.cell (lt_of_cell m2) id).trans m2
         have g4:=(td.cell (lt_of_cell m4) id).trans m4
         have g0:=(td.cell (lt_of_cell q0) id).trans q0
         exact ⟨(t9.cell (lt_of_cell g2) nF).trans g2,(t9.cell (lt_of_cell g4) nF).trans g4,(t9.cell (lt_of_cell g0) HI.out.out.1).trans g0⟩
        have HA9:=hid hA9
        have HW9:=hid hW9
        have HM9:Hid ((W9.cell? ⟨ab,0,none⟩=some (.int .i64 1)∧W9.cell? ⟨ab,1,none⟩=some (.int .i64 x2)∧W9.cell? ⟨ab,2,none⟩=some (.int .i64 x3)∧W9.cell? ⟨ab,3,none⟩=some (.int .i64 x4)∧W9.cell? ⟨ab,4,none⟩=some (.int .i64 x5))∧W9.frozen? ⟨ab,4,none⟩=false):=hid (by
         have td:Turn (fun _ => False) wc W9:=by rw [← hW9]; exact (Turn.refl _ _).drew
         exact ⟨⟨(td.cell (lt_of_cell m0) id).trans m0,(td.cell (lt_of_cell m1) id).trans m1,(td.cell (lt_of_cell m2) id).trans m2,(td.cell (lt_of_cell m3) id).trans m3,(td.cell (lt_of_cell m4) id).trans m4⟩,(td.frozen (a:=⟨ab,4,none⟩) (lt_of_cell m4) id).trans mf⟩)
        clear hW9 HC hA9
        go_upto_region 13 with fail
        go_cut [16] (fun v wx => v=.int .i64 Z∧Hid (RTreeTo rb Ft W9 wx (writeT S.T x3 x5 s)))
        case first =>
         as_aux_lemma =>
          go_region_held3 (fun w' => w'.cell? ⟨ab,2,none⟩=some (.int .i64 x3)∧w'.cell? ⟨ab,4,none⟩=some (.int .i64 x5)∧w'.cell? ⟨fb,0,none⟩=some (.pointer (some ⟨rb,0,none⟩)))
           (first | exact ⟨m2,m4,q0⟩ | exact ⟨r2,r4,r0⟩ | go_keep)
           (first | (go_at_call 72; refine HA9.out.mono ?_; rintro e9 w9 ⟨rfl,H9,r2,r4,r0⟩))
          all_goals
           go_wp2_with fail
           go_meet
           exact ⟨rfl,H9⟩
        case rest =>
         obtain ⟨rfl,H9⟩:=hcut
         have td:Turn (fun _ => False) w W9:=by rw [← HW9.out]; exact HTW.out.drew
         have HTd:=hid td
         by_cases hz:Z=0
         ·subst hz
          rw [if_pos rfl] at f2 f3
          obtain ⟨F',htr,t9,hnew,_⟩:=H9.out
          have hd:=(HI.out.still td).setTree htr t9 hnew
          have hlt:=HT.out.lt
          have hsz:=td.size
          have hsz9:=t9.size
          have habw:w.heap.size=ab:=HW.out.2
          have tab9:ab < W9.heap.size:=by rw [← HW9.out]; exact lt_of_cell m4
          have nF:¬ Ft ab:=fun e => by have:=HI.out.lows ab (.inl e); omega
          have mv:∀ i v,W9.cell? ⟨ab,i,none⟩=some v→wc.cell? ⟨ab,i,none⟩=some v:=fun i v hv => (t9.cell (a:=⟨ab,i,none⟩) (lt_of_cell hv) nF).trans hv
          obtain ⟨⟨y0,y1,y2,y3,y4⟩,yf⟩:=HM9.out
          have n0:=mv _ _ y0
          have n1:=mv _ _ y1
          have n2:=mv _ _ y2
          have n3:=mv _ _ y3
          have n4:=mv _ _ y4
          have nf:=(t9.frozen (a:=⟨ab,4,none⟩) tab9 nF).trans yf
          have t2:Turn Ft w (wc.setCell ⟨ab,4,none⟩ (.int .i64 (x5+(s.size:Int)))).drew:=((td.mono (fun _ _ h => h.elim)).trans' t9 (fun _ _ h => h)).trans' (((Turn.refl (fun q => q=ab) wc).setCell _ _ (fun _ => rfl)).drew) (fun q hq e => by omega)
          have tz:Turn (fun q => q=ab) wc (wc.setCell ⟨ab,4,none⟩ (.int .i64 (x5+(s.size:Int)))).drew:=((Turn.refl (fun q => q=ab) wc).setCell _ _ (fun _ => rfl)).drew
          have hdz:RFilesIn (wc.setCell ⟨ab,4,none⟩ (.int .i64 (x5+(s.size:Int)))).drew fb rb eb rf pb (treeS S (writeT S.T x3 x5 s)) φ π nx F':=hd.turned tz (fun q hq e => by
           rcases hq with hq | hq
           ·rcases hnew q hq with h | h
            ·exact nF (e ▸ h)
            ·omega
           ·have:=HI.out.lows q (.inr hq); omega)
          obtain ⟨w5,hrun,hm5,t5⟩:=hdz.mE.run_update (P:=Tryz.prog) keyI Tryz.underlying58 Tryz.underlying3 (φ k) (1,x2,x3,x4,x5+(s.size:Int))
          rw [HKf.out] at hrun
          replace hrun:(Instr.mapUpdate 58 (.map (some eb)) (.int .i64 K) (.agg #[.int .i64 1,.int .i64 x2,.int .i64 x3,.int .i64 x4,.int .i64 (x5+(s.size:Int))])).run Tryz.prog (wc.setCell ⟨ab,4,none⟩ (.int .i64 (x5+(s.size:Int)))).drew=.ok () w5:=hrun
          have o0:=(t2.cell (lt_of_cell HC0.out) (fun e => HN.out (.inl e))).trans HC0.out
          have o1:=(t2.cell (lt_of_cell HC1.out) HI.out.out.1).trans HC1.out
          have HFin:Hid (RFilesTo fb rb tab (RFoots fb eb rf pb Ft) w w5 S (putS (treeS S (writeT S.T x3 x5 s)) k { e with at':=x5+(s.size:Int) }) φ nx L):=hid (by
           have hnl:∀ j,F' j→Ft j∨w.heap.size≤j:=fun j hj => (hnew j hj).elim .inl (fun h => .inr (by omega))
           refine ⟨RFoots fb eb rf pb F',φ,π,nx,⟨eb,rf,pb,F',?_,rfl⟩,?_,?_,fun j hj => ?_,fun hj => ?_,fun _ _ _ => rfl,by omega⟩
           ·refine hdz.setEnt HS.out.nd HE.out rfl ?_ t5
            have e1:fE π { e with at':=x5+(s.size:Int) }=(1,x2,x3,x4,x5+(s.size:Int)):=by
             have h0:=HX.out
             unfold fE at h0 ⊢
             simp only [Prod.mk.injEq] at h0 ⊢
             exact ⟨h0.1,h0.2.1,h0.2.2.1,h0.2.2.2.1,trivial⟩
            rw [e1]
            exact hm5
           ·exact (HT.out.turned t2 (fun e => HN.out (.inl e))).turned t5 (fun e => HN.out (.inr (.inr (.inl e))))
           ·exact (t2.mono (fun _ _ h => .inl (.inl h))).trans (t5.mono (fun _ _ e => .inl (.inr (.inr (.inl e)))))
           ·rcases hj with hj | hj
            ·exact (hnl j hj).elim (fun h => .inl (.inl h)) .inr
            ·exact .inl (.inr hj)
           ·rcases hj with hj | hj
            ·rcases hnl tab hj with h | h
             ·exact HN.out (.inl h)
             ·omega
            ·exact HN.out (.inr hj))
          have F1:=hid f1
          have F2:=hid f2
          have F3:=hid f3
          clear f1 f2 f3 E1 E2 E3 t2 tz hdz hm5 t5 hd hlt hsz hsz9 habw tab9 nF mv y0 y1 y2 y3 y4 yf htr t9 hnew td m0 m1 m2 m3 m4 mf q0
          go_wp2_with fail
          go_region
          all_goals
           go_wp2_with fail
           go_ret2
           rw [F1.out,F2.out,F3.out]
           have hF:=HFin.out
           rw [show ({ e with at':=x5+(s.size:Int) }:PE)=⟨e.kind,e.prot,x3,e.pid,x5+(s.size:Int),e.refs⟩ from congrArg (fun z => PE.mk e.kind e.prot z e.pid (x5+(s.size:Int)) e.refs) HNo.out] at hF
           exact ⟨rfl,hF⟩
         ·rw [if_neg hz] at f2 f3
          have hwt:writeT S.T x3 x5 s=S.T:=if_neg (fun h => hz (HZZ.out.symm.trans h.1))
          rw [hwt] at H9
          have F1:=hid f1
          have F2:=hid f2
          have F3:=hid f3
          have hzb:(Z == 0)=false:=by simpa using hz
          clear f1 f2 f3 hz E1 E2 E3 hwt td
          go_wp2_with fail
          go_ret2
          rw [F1.out,F2.out,F3.out]
          obtain ⟨F',htr,t9,hnew,_⟩:=H9.out
          have td:=HTd.out
          have hd:=HI.out.still td
          have hlt:=HT.out.lt
          have hsz:=td.size
          refine ⟨rfl,RFoots fb eb rf pb F',φ,π,nx,⟨eb,rf,pb,F',hd.setTree htr t9 hnew,rfl⟩,(HT.out.turned td id).turned t9 (fun e => HN.out (.inl e)),(td.mono (fun _ _ h => h.elim)).trans (t9.mono (fun _ _ e => .inl (.inl e))),fun j hj => ?_,fun hj => ?_,fun _ _ _ => rfl,by omega⟩
          ·rcases hj with hj | hj
           ·rcases hnew j hj with h | h
            ·exact .inl (.inl h)
            ·exact .inr (by omega)
           ·exact .inl (.inr hj)
          ·rcases hj with hj | hj
           ·rcases hnew tab hj with h | h
            ·exact HN.out (.inl h)
            ·omega
           ·exact HN.out (.inr hj)
end
theorem ridx0 (x0 x1 x2 x3 x4 x5 x6 x7:Int) (y0 y1 y2 y3 y4 y5 y6 y7:Bool) (w:World):(Instr.index 47 (.agg #[.int .i64 x0,.bool y0,.int .i64 x1,.bool y1,.int .i64 x2,.bool y2,.int .i64 x3,.bool y3,.int .i64 x4,.bool y4,.int .i64 x5,.bool y5,.int .i64 x6,.bool y6,.int .i64 x7,.bool y7]) (.int .i64 0)).run Tryz.prog w=.ok (.agg #[.int .i64 x0,.bool y0]) w:=by kernel_rfl
theorem ridx1 (x0 x1 x2 x3 x4 x5 x6 x7:Int) (y0 y1 y2 y3 y4 y5 y6 y7:Bool) (w:World):(Instr.index 47 (.agg #[.int .i64 x0,.bool y0,.int .i64 x1,.bool y1,.int .i64 x2,.bool y2,.int .i64 x3,.bool y3,.int .i64 x4,.bool y4,.int .i64 x5,.bool y5,.int .i64 x6,.bool y6,.int .i64 x7,.bool y7]) (.int .i64 1)).run Tryz.prog w=.ok (.agg #[.int .i64 x1,.bool y1]) w:=by kernel_rfl
theorem ridx2 (x0 x1 x2 x3 x4 x5 x6 x7:Int) (y0 y1 y2 y3 y4 y5 y6 y7:Bool) (w:World):(Instr.index 47 (.agg #[.int .i64 x0,.bool y0,.int .i64 x1,.bool y1,.int .i64 x2,.bool y2,.int .i64 x3,.bool y3,.int .i64 x4,.bool y4,.int .i64 x5,.bool y5,.int .i64 x6,.bool y6,.int .i64 x7,.bool y7]) (.int .i64 2)).run Tryz.prog w=.ok (.agg #[.int .i64 x2,.bool y2]) w:=by kernel_rfl
theorem ridx3 (x0 x1 x2 x3 x4 x5 x6 x7:Int) (y0 y1 y2 y3 y4 y5 y6 y7:Bool) (w:World):(Instr.index 47 (.agg #[.int .i64 x0,.bool y0,.int .i64 x1,.bool y1,.int .i64 x2,.bool y2,.int .i64 x3,.bool y3,.int .i64 x4,.bool y4,.int .i64 x5,.bool y5,.int .i64 x6,.bool y6,.int .i64 x7,.bool y7]) (.int .i64 3)).run Tryz.prog w=.ok (.agg #[.int .i64 x3,.bool y3]) w:=by kernel_rfl
theorem ridx4 (x0 x1 x2 x3 x4 x5 x6 x7:Int) (y0 y1 y2 y3 y4 y5 y6 y7:Bool) (w:World):(Instr.index 47 (.agg #[.int .i64 x0,.bool y0,.int .i64 x1,.bool y1,.int .i64 x2,.bool y2,.int .i64 x3,.bool y3,.int .i64 x4,.bool y4,.int .i64 x5,.bool y5,.int .i64 x6,.bool y6,.int .i64 x7,.bool y7]) (.int .i64 4)).run Tryz.prog w=.ok (.agg #[.int .i64 x4,.bool y4]) w:=by kernel_rfl
theorem ridx5 (x0 x1 x2 x3 x4 x5 x6 x7:Int) (y0 y1 y2 y3 y4 y5 y6 y7:Bool) (w:World):(Instr.index 47 (.agg #[.int .i64 x0,.bool y0,.int .i64 x1,.bool y1,.int .i64 x2,.bool y2,.int .i64 x3,.bool y3,.int .i64 x4,.bool y4,.int .i64 x5,.bool y5,.int .i64 x6,.bool y6,.int .i64 x7,.bool y7]) (.int .i64 5)).run Tryz.prog w=.ok (.agg #[.int .i64 x5,.bool y5]) w:=by kernel_rfl
theorem ridx6 (x0 x1 x2 x3 x4 x5 x6 x7:Int) (y0 y1 y2 y3 y4 y5 y6 y7:Bool) (w:World):(Instr.index 47 (.agg #[.int .i64 x0,.bool y0,.int .i64 x1,.bool y1,.int .i64 x2,.bool y2,.int .i64 x3,.bool y3,.int .i64 x4,.bool y4,.int .i64 x5,.bool y5,.int .i64 x6,.bool y6,.int .i64 x7,.bool y7]) (.int .i64 6)).run Tryz.prog w=.ok (.agg #[.int .i64 x6,.bool y6]) w:=by kernel_rfl
theorem ridx7 (x0 x1 x2 x3 x4 x5 x6 x7:Int) (y0 y1 y2 y3 y4 y5 y6 y7:Bool) (w:World):(Instr.index 47 (.agg #[.int .i64 x0,.bool y0,.int .i64 x1,.bool y1,.int .i64 x2,.bool y2,.int .i64 x3,.bool y3,.int .i64 x4,.bool y4,.int .i64 x5,.bool y5,.int .i64 x6,.bool y6,.int .i64 x7,.bool y7]) (.int .i64 7)).run Tryz.prog w=.ok (.agg #[.int .i64 x7,.bool y7]) w:=by kernel_rfl
theorem ridx_any (L:PTab) (k:Nat) (hk:k < 8) (w:World):(Instr.index 47 (.agg #[.int .i64 (L 0).1,.bool (L 0).2,.int .i64 (L 1).1,.bool (L 1).2,.int .i64 (L 2).1,.bool (L 2).2,.int .i64 (L 3).1,.bool (L 3).2,.int .i64 (L 4).1,.bool (L 4).2,.int .i64 (L 5).1,.bool (L 5).2,.int .i64 (L 6).1,.bool (L 6).2,.int .i64 (L 7).1,.bool (L 7).2]) (.int .i64 k)).run Tryz.prog w=.ok (.agg #[.int .i64 (L k).1,.bool (L k).2]) w:=by
 rcases (show k=0∨k=1∨k=2∨k=3∨k=4∨k=5∨k=6∨k=7 by omega) with rfl | rfl | rfl | rfl | rfl | rfl | rfl | rfl
 ·exact ridx0 _ _ _ _ _ _ _ _ _ _ _ _ _ _ _ _ w
 ·exact ridx1 _ _ _ _ _ _ _ _ _ _ _ _ _ _ _ _ w
 ·exact ridx2 _ _ _ _ _ _ _ _ _ _ _ _ _ _ _ _ w
 ·exact ridx3 _ _ _ _ _ _ _ _ _ _ _ _ _ _ _ _ w
 ·exact ridx4 _ _ _ _ _ _ _ _ _ _ _ _ _ _ _ _ w
 ·exact ridx5 _ _ _ _ _ _ _ _ _ _ _ _ _ _ _ _ w
 ·exact ridx6 _ _ _ _ _ _ _ _ _ _ _ _ _ _ _ _ w
 ·exact ridx7 _ _ _ _ _ _ _ _ _ _ _ _ _ _ _ _ w
def rtabObj (L:PTab):Obj:=.cells #[.int .i64 (L 0).1,.bool (L 0).2,.int .i64 (L 1).1,.bool (L 1).2,.int .i64 (L 2).1,.bool (L 2).2,.int .i64 (L 3).1,.bool (L 3).2,.int .i64 (L 4).1,.bool (L 4).2,.int .i64 (L 5).1,.bool (L 5).2,.int .i64 (L 6).1,.bool (L 6).2,.int .i64 (L 7).1,.bool (L 7).2] 47
theorem rtabObj_at (w:World) (L:PTab) (hp:∀ i,i < 8→0≤(L i).1∧(L i).1≤1000000):RTabIs (w.alloc (rtabObj L)) w.heap.size L:=by
 refine ⟨fun i hi => ?_,fun i hi => ?_,fun i => World.frozen?_alloc_new _ _ _ _,hp⟩
 ·rcases (show i=0∨i=1∨i=2∨i=3∨i=4∨i=5∨i=6∨i=7 by omega) with rfl | rfl | rfl | rfl | rfl | rfl | rfl | rfl
  all_goals exact World.cell?_alloc_new _ _ _ _
 ·rcases (show i=0∨i=1∨i=2∨i=3∨i=4∨i=5∨i=6∨i=7 by omega) with rfl | rfl | rfl | rfl | rfl | rfl | rfl | rfl
  all_goals exact World.cell?_alloc_new _ _ _ _
section
variable {w w' w1:World} {fb rb eb rf pb tab:Nat} {S S':PS} {φ:Int→Int} {π:Nat→Int} {nx n k:Int} {F Ft:Nat→Prop} {L L':PTab} {e:PE} {q:PP}
theorem rffork_is (h:RFilesIs w fb rb S φ π nx F) (hnd:MNodup S.es) (ht:RTabIs w tab (relL φ L)) (hok:TabOk S L) (hn:¬ F tab) (hb:∀ k e,mget S.es k=some e→e.refs < 999000) (hp:∀ i,i < 8→0≤(L i).1) :
  Calls Tryz.prog 10 #[.pointer (some ⟨fb,0,none⟩),.pointer (some ⟨tab,0,none⟩)] w fun e w' => ∃ ub,e=.returned (.pointer (some ⟨ub,0,none⟩))∧w.heap.size≤ub∧RTabIs w' ub (relL φ L)∧RFilesIs w' fb rb (forkS S L) φ π nx F∧Turn F w w':=by
 obtain ⟨eb,rf,pb,Ft,hin,rfl⟩:=h
 obtain ⟨R,hR⟩:∃ R,forkS S L=R:=⟨_,rfl⟩
 rw [hR]
 have HR:=hid hR
 have HI:=hid hin
 obtain ⟨M,hM⟩:∃ M,relL φ L=M:=⟨_,rfl⟩
 rw [hM] at ht ⊢
 have HM:Hid (∀ i,(M i).1=if (L i).1=0 then 0 else φ ((L i).1 - 1)):=hid (fun i => by rw [← hM]; rfl)
 have HT:=hid ht
 have HOk:=hid hok
 have HB:=hid hb
 have HNd:=hid hnd
 have HP:=hid hp
 have e0:=ht.ent 0 (by omega)
 have e1:=ht.ent 1 (by omega)
 have e2:=ht.ent 2 (by omega)
 have e3:=ht.ent 3 (by omega)
 have e4:=ht.ent 4 (by omega)
 have e5:=ht.ent 5 (by omega)
 have e6:=ht.ent 6 (by omega)
 have e7:=ht.ent 7 (by omega)
 have m0:=ht.mark 0 (by omega)
 have m1:=ht.mark 1 (by omega)
 have m2:=ht.mark 2 (by omega)
 have m3:=ht.mark 3 (by omega)
 have m4:=ht.mark 4 (by omega)
 have m5:=ht.mark 5 (by omega)
 have m6:=ht.mark 6 (by omega)
 have m7:=ht.mark 7 (by omega)
 simp only [Nat.zero_mul,Nat.reduceMul,Nat.reduceAdd,Nat.zero_add] at e0 e1 e2 e3 e4 e5 e6 e7 m0 m1 m2 m3 m4 m5 m6 m7
 clear hin ht hok hn hb hR hM hnd hp
 go_enter Tryz.func10,Tryz.ntmps10
 go_wp2_with fail
 clear e0 e1 e2 e3 e4 e5 e6 e7 m0 m1 m2 m3 m4 m5 m6 m7
 have HT0:=hid (rtabObj_at w M HT.out.pos)
 have HTa:Hid (Turn (fun _ => False) w (w.alloc (rtabObj M))):=hid ((Turn.refl _ _).alloc _)
 unfold rtabObj at HT0 HTa
 obtain ⟨W,hW⟩:∃ W,w.alloc (.cells #[.int .i64 (M 0).1,.bool (M 0).2,.int .i64 (M 1).1,.bool (M 1).2,.int .i64 (M 2).1,.bool (M 2).2,.int .i64 (M 3).1,.bool (M 3).2,.int .i64 (M 4).1,.bool (M 4).2,.int .i64 (M 5).1,.bool (M 5).2,.int .i64 (M 6).1,.bool (M 6).2,.int .i64 (M 7).1,.bool (M 7).2] 47)=W:=⟨_,rfl⟩
 rw [hW] at HT0 HTa ⊢
 clear hW
 go_loopg [12] 8 (fun gl i wr => ∃ (k:Nat) (Si:PS),k+gl=8∧i=.int .i64 k∧Hid (forkFrom L gl k Si=R)∧Hid (RFilesIn wr fb rb eb rf pb Si φ π nx Ft)∧Hid (MNodup Si.es∧∀ j e,mget Si.es j=some e→e.refs < 999000+k)∧Hid (TabOk Si L)∧Hid (RTabIs wr w.heap.size M)∧Hid (Turn (fun j => RFoots fb eb rf pb Ft j) w wr))
 case atStart => exact ⟨0,S,by omega,rfl,HR,hid (HI.out.still HTa.out),hid ⟨HNd.out,HB.out⟩,HOk,HT0,hid (HTa.out.mono (fun _ _ h => h.elim))⟩
 case round =>
  obtain ⟨k,Si,hk,rfl,hF,hI,hB,hO,hT,ht⟩:=hrel
  clear HR HB HOk HT0 HTa HNd
  by_cases hk8:k < 8
  ·have hk':(k:Int) < 8:=by omega
   obtain ⟨g,rfl⟩:∃ g,gk=g+1:=⟨7 - k,by omega⟩
   have ix:=ridx_any M k hk8 wr
   have HF2:Hid (forkFrom L g (k+1) (if 0 < (L k).1 then bumpS Si ((L k).1 - 1) else Si)=R):=hF
   have tA:Turn (fun _ => False) wr (wr.alloc (.cells #[.int .i64 (M k).1,.bool (M k).2] 45)):=(Turn.refl _ _).alloc _
   obtain ⟨ab,hab⟩:∃ ab,wr.heap.size=ab:=⟨_,rfl⟩
   obtain ⟨W1,hW1⟩:∃ W1,wr.alloc (.cells #[.int .i64 (M k).1,.bool (M k).2] 45)=W1:=⟨_,rfl⟩
   have m0:W1.cell? ⟨ab,0,none⟩=some (.int .i64 (M k).1):=by rw [← hW1,← hab]; simp
   rw [hW1] at tA
   have hI1:=hI.out.still tA
   have hMk:=HM.out k
   have HA:=hid tA
   have HW:=hid (And.intro hW1 hab)
   clear hF
   by_cases hz:0 < (L k).1
   ·rw [if_pos hz] at HF2
    obtain ⟨e,he⟩:=(hO.out k hk8).resolve_left (by omega)
    have hrf:=hB.out.2 _ e he
    have hrw:IntKind.i64.wrap ((e.refs:Int)+1)=(e.refs:Int)+1:=IntWalk.i64_in _ (by omega)
    rw [bumpS_is he] at HF2
    rw [if_neg (by omega)] at hMk
    have hal:=(hI.out.al _ e he).2
    obtain ⟨K,hK⟩:∃ K,φ ((L k).1 - 1)=K:=⟨_,rfl⟩
    rw [hK] at hMk hal
    have hK0:0 < K:=by omega
    rw [hMk] at m0
    have h2:=hI1.h2
    have td:Turn (fun _ => False) W1 W1.drew:=(Turn.refl _ _).drew
    have lk:=(hI1.still td).lookR he
    obtain ⟨w5,hrun,hm5,t5⟩:=(hI1.still td).mR.run_update (P:=Tryz.prog) keyI Tryz.underlying59 Tryz.underlying3 (φ ((L k).1 - 1)) (e.refs+1)
    have HI5:=hid ((hI1.still td).setRefs (e':={ e with refs:=e.refs+1 }) hB.out.1 he rfl hm5 t5)
    rw [hK] at lk hrun hm5
    replace hrun:(Instr.mapUpdate 59 (.map (some rf)) (.int .i64 K) (.int .i64 ((e.refs:Int)+1))).run Tryz.prog W1.drew=.ok () w5:=hrun
    have HT5:=hid (td.mono (S':=fun j => RFoots fb eb rf pb Ft j) (fun _ _ h => h.elim) |>.trans (t5.mono (S':=fun j => RFoots fb eb rf pb Ft j) (fun _ _ e => .inr (.inr (.inr (.inl e))))))
    have HE:=hid he
    have HMb:=hid hMk
    clear he hal hI1 td hm5 t5 tA hMk
    go_upto_region 5 with fail
    clear ix hW1 hab
    go_wp2_with fail
    go_region
    all_goals
     go_wp2_with fail
     go_roundg g
     case measure => omega
     case rel =>
      refine ⟨k+1,_,by omega,by go_num,HF2,HI5,hid ⟨mput_nodup hB.out.1 _ _,fun j f hf => ?_⟩,hid hO.out.put,hid ((hT.out.turned HA.out id).turned HT5.out (fun x => by
       rcases x with x | x
       ·have:=HI.out.lows _ (.inl x); omega
       ·have:=HI.out.lows _ (.inr x); omega)),hid ((ht.out.trans (HA.out.mono (fun _ _ h => h.elim))).trans HT5.out)⟩
      have hf:mget (mput Si.es _ _) j=some f:=hf
      rw [mget_mput] at hf
      split at hf
      ·cases hf
       show e.refs+1 < _
       omega
      ·have:=hB.out.2 j f hf; omega
   ·rw [if_neg hz] at HF2
    have hz0:(L k).1=0:=by have:=HP.out k hk8; omega
    rw [if_pos hz0] at hMk
    rw [hMk] at m0
    have HI1:=hid hI1
    have HMb:=hid hMk
    clear hMk hI1 tA
    go_upto_region 5 with fail
    clear ix hW1 hab
    go_wp2_with fail
    go_roundg g
    case measure => omega
    case rel => exact ⟨k+1,Si,by omega,by go_num,HF2,HI1,hid ⟨hB.out.1,fun j e he => by have:=hB.out.2 j e he; omega⟩,hO,hid (hT.out.turned HA.out id),hid (ht.out.trans (HA.out.mono (fun _ _ h => h.elim)))⟩
  ·have hk':¬ (k:Int) < 8:=by omega
   obtain rfl:k=8:=by omega
   obtain rfl:gk=0:=by omega
   have HF:Hid (Si=R):=hF
   clear hF
   go_wp2_with fail
   go_returns
   refine ⟨_,rfl,Nat.le_refl _,hT.out,?_,ht.out⟩
   rw [← HF.out]
   exact ⟨eb,rf,pb,Ft,hI.out,rfl⟩
end
section
variable {w w' w1:World} {fb rb eb rf pb tab t0:Nat} {S S':PS} {φ:Int→Int} {π:Nat→Int} {nx n k:Int} {F Ft:Nat→Prop} {L L':PTab} {e:PE} {q:PP} {ts:List (Nat×PTab)} {c B:Nat}
theorem rffree_is (h:RFilesIs w fb rb S φ π nx F) (hS:DOk S) (hto:TOk S.T) (ha:Alive S.T) (hB:TBnd S.T B) (hB1:B≤1000000) (ht:RTabIs w tab (relL φ L)) (hJ:Joint S ts) (hi:ts[c]?=some (t0,L)) (hn:¬ F tab) (all:Bool) :
  Calls Tryz.prog 41 #[.pointer (some ⟨fb,0,none⟩),.pointer (some ⟨tab,0,none⟩),.bool all] w fun e w' => e=.returned (.tuple #[])∧RFilesKept fb rb tab F w w' (clearS S L all) φ nx (clearL S L all):=by
 obtain ⟨R,hR⟩:∃ R,clearFrom L all 8 0 S L=R:=⟨_,rfl⟩
 have e1:clearS S L all=R.1:=by unfold clearS; rw [hR]
 have e2:clearL S L all=R.2:=by unfold clearL; rw [hR]
 rw [e1,e2]
 have HR:=hid hR
 have HK:=hid (RFilesKept.same h ht (Turn.refl _ _) hn)
 have HP:=hid (hJ.pos c _ hi)
 have HI:=hid hi
 have HB1:=hid hB1
 have HLt:=hid ht.lt
 have HA:=hid (And.intro hS (And.intro hto (And.intro ha (And.intro hB hJ))))
 clear h hS hto ha hB hB1 ht hJ hi hn hR e1 e2
 go_enter Tryz.func41,Tryz.ntmps41
 go_wp2_with fail
 go_loopg [7] 8 (fun gl i wr => ∃ (k:Nat) (Si:PS) (Li:PTab),k+gl=8∧i=.int .i64 k∧Hid (clearFrom L all gl k Si Li=R)∧Hid (RFilesKept fb rb tab F w wr Si φ nx Li)∧Hid (DOk Si∧TOk Si.T∧Alive Si.T∧TBnd Si.T B∧Joint Si (ts.set c (t0,Li)))∧Hid (∀ j,k≤j→Li j=L j))
 case atStart => exact ⟨0,S,L,by omega,rfl,HR,HK,hid ⟨HA.out.1,HA.out.2.1,HA.out.2.2.1,HA.out.2.2.2.1,by rw [set_same HI.out]; exact HA.out.2.2.2.2⟩,hid (fun _ _ => rfl)⟩
 case round =>
  obtain ⟨k,Si,Li,hk,rfl,hF,hK,hA,hL⟩:=hrel
  clear HR HK HA
  by_cases hk8:k < 8
  ·have hk':(k:Int) < 8:=by omega
   have hk0:(0:Int)≤(k:Int):=by omega
   obtain ⟨g,rfl⟩:∃ g,gk=g+1:=⟨7 - k,by omega⟩
   have hLk:=hL.out k (Nat.le_refl _)
   have hJ:=hA.out.2.2.2.2
   have hi:=get_set (y:=(t0,Li)) HI.out
   have hok:TabOk Si Li:=hJ.there hi
   have HSt:Hid (∃ E M,wr.cell? ⟨tab,k * 2,none⟩=some (.int .i64 E)∧wr.cell? ⟨tab,k * 2+1,none⟩=some (.bool (Li k).2)∧((Li k).1=0→E=0)∧((Li k).1≠0→0 < E)∧M=(Li k).2):=hid (by
    obtain ⟨F1,π1,a,b,t1,d,e⟩:=hK.out
    have c0:=b.ent k hk8
    have c1:=b.mark k hk8
    refine ⟨(relL φ Li k).1,_,c0,c1,fun hz => if_pos hz,fun hz => ?_,rfl⟩
    obtain ⟨x,hx⟩:=(hok k hk8).resolve_left hz
    obtain ⟨eb,rf,pb,Ft,hin,rfl⟩:=a
    have:=(hin.al _ x hx).2
    show 0 < (if (Li k).1=0 then 0 else φ ((Li k).1 - 1))
    rw [if_neg hz]; omega)
   obtain ⟨E,M,c0,c1,hE0,hE1,hM⟩:=HSt.out
   rw [← hM] at c1
   have hpos:=HP.out k hk8
   have HC:Hid (Calls Tryz.prog 33 #[.pointer (some ⟨fb,0,none⟩),.pointer (some ⟨tab,0,none⟩),.int .i64 k] wr fun e w' => e=.returned (.int .i64 (getE Li k))∧RFilesKept fb rb tab F w w' (closeS Si Li k) φ nx (closeL Si Li k)):=hid (by
    have hKo:=hK.out
    obtain ⟨F1,π1,a,b,t1,d,e⟩:=hK.out
    refine (rclose_kept a hA.out.1 hA.out.2.1 hA.out.2.2.1 (fun n p hp => ?_) b hok e k).mono fun e1 w1 x => ⟨x.1,?_⟩
    ·have:=hA.out.2.2.2.1 n p hp
     have:=HB1.out
     omega
    ·obtain ⟨F2,π2,a2,b2,t2,d2,e2⟩:=x.2
     refine ⟨F2,π2,a2,b2,t1.trans' t2 (fun j hj x => ?_),fun j hj => ?_,e2⟩
     ·rcases x with x | x
      ·rcases d j x with y | y
       ·exact .inl y
       ·omega
      ·exact .inr x
     ·rcases d2 j hj with x | x
      ·exact d j x
      ·exact .inr (Nat.le_trans t1.size x))
   have HN:Hid (DOk (closeS Si Li k)∧TOk (closeS Si Li k).T∧Alive (closeS Si Li k).T∧TBnd (closeS Si Li k).T B∧Joint (closeS Si Li k) (ts.set c (t0,closeL Si Li k))):=hid (by
    obtain ⟨a1,a2,a3,a4,a5⟩:=hA.out
    have h5:=joint_close a5 a1 hi k
    rw [set_set] at h5
    exact ⟨a1.close Li k,tok_close a2 Li k,alive_close a3 Li k,close_T a4 Li k,h5⟩)
   have HLn:Hid (∀ j,k+1≤j→closeL Si Li k j=L j):=hid (fun j hj => (closeL_other Si Li k (by omega)).trans (hL.out j (by omega)))
   have HLs:Hid (∀ j,k+1≤j→Li j=L j):=hid (fun j hj => hL.out j (by omega))
   by_cases hgo:0 < (L k).1∧(all=true∨(L k).2=true)
   ·have HF2:Hid (clearFrom L all g (k+1) (closeS Si Li k) (closeL Si Li k)=R):=hid ((clear_go g k hgo).symm.trans hF.out)
    have hEp:0 < E:=hE1 (by rw [hLk]; omega)
    rw [hLk] at hM
    clear hF hK hA hL hJ hi hok hE0 hE1 HSt
    cases all with
    | true =>
     clear hgo hLk hpos hM
     go_wp2_with fail
     refine HC.out.mono ?_
     rintro e w1 ⟨rfl,hk1⟩
     have HK1:=hid hk1
     clear hk1
     go_wp2_with fail
     go_roundg g
     case measure => omega
     case rel => exact ⟨k+1,_,_,by omega,by go_num,HF2,HK1,HN,HLn⟩
    | false =>
     have hm:M=true:=by rw [hM]; exact hgo.2.resolve_left (by decide)
     clear hgo hLk hpos hM
     subst hm
     go_wp2_with fail
     refine HC.out.mono ?_
     rintro e w1 ⟨rfl,hk1⟩
     have HK1:=hid hk1
     clear hk1
     go_wp2_with fail
     go_roundg g
     case measure => omega
     case rel => exact ⟨k+1,_,_,by omega,by go_num,HF2,HK1,HN,HLn⟩
   ·have HF2:Hid (clearFrom L all g (k+1) Si Li=R):=hid ((clear_no g k hgo).symm.trans hF.out)
    by_cases hz:(L k).1=0
    ·have hE:E=0:=hE0 (by rw [hLk]; exact hz)
     subst hE
     clear hgo hLk hpos hM hF hL hJ hi hok hE0 hE1 HSt HC HN HLn hz
     go_wp2_with fail
     go_roundg g
     case measure => omega
     case rel => exact ⟨k+1,_,_,by omega,by go_num,HF2,hK,hA,HLs⟩
    ·have hEp:0 < E:=hE1 (by rw [hLk]; exact hz)
     have hx:¬ (all=true∨(L k).2=true):=fun x => hgo ⟨by omega,x⟩
     have ha:all=false:=by cases all with
      | true => exact absurd (.inl rfl) hx
      | false => rfl
     have hm:M=false:=by
      rw [hM,hLk]
      cases hq:(L k).2 with
      | true => exact absurd (.inr hq) hx
      | false => rfl
     subst ha
     subst hm
     clear hgo hLk hpos hM hF hL hJ hi hok hE0 hE1 HSt HC HN HLn hz hx
     go_wp2_with fail
     go_roundg g
     case measure => omega
     case rel => exact ⟨k+1,_,_,by omega,by go_num,HF2,hK,hA,HLs⟩
  ·have hk':¬ (k:Int) < 8:=by omega
   obtain rfl:k=8:=by omega
   obtain rfl:gk=0:=by omega
   have HF:Hid ((Si,Li)=R):=hF
   clear hF
   go_wp2_with fail
   go_returns
   rw [← HF.out]
   exact ⟨rfl,hK.out⟩
end
end Go.Proofs.YtncfmlifponjdaaGreatDoor
