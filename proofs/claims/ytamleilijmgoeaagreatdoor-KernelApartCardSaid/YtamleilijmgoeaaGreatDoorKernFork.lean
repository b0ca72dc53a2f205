/- Package kernel: Fork. Conditions: each theorem's own premises. Package kernel: Store: who weighs most goes, until there is a frame. Conditions: each theorem's own premises; the variable errors.errorType holds what is laid. Package kernel: what is asked by the laws ('call', 'rare'), told by one relation. Conditions: each theorem's own premises; the variable errors.errorType holds what is laid. Package kernel: what no call turns more than so: ledgers, how many have been made, names. Plain. Conditions: each theorem's own premises. Package keep: 'calls': calls are short enough to be held; a list of calls in memory. Conditions: each theorem's own premises. Package kernel: New. Conditions: each theorem's own premises. Package kernel: the laws' own first look ('kept'): a kernel of four frames does what it should. Condition: the variable errors.errorType holds what is laid. -/
import Derived.Test.YtamleilijmgoeaaGreatDoorKern
import Derived.Test.YtamleilijmgoeaaGreatDoorVm
import Derived.Test.YtamleilijmgoeaaGreatDoorDescTab
import Derived.Test.YtamleilijmgoeaaGreatDoorBase
import Derived.Test.YtamleilijmgoeaaGreatDoorKernTree
import Derived.StillTailTactics
import Derived.Test.YtamleilijmgoeaaGreatDoorPaths
namespace Go.Proofs.YtamleilijmgoeaaGreatDoor
open Go.RowKit
set_option linter.unusedVariables false
set_option maxHeartbeats 4000000
set_option maxRecDepth 100000
section
variable {W w w' w1:World} {a:KA} {k:KS} {C C':Nat→Nat×Nat} {pid:Int} {i j:Nat} {o o':KO} {x:Spc} {y:Nat×PTab} {pl:List (Int×Nat)} {pf pf':Nat→Pr} {r:Nat} {f:Nat→Pr} {l:List (Int×Nat)} {u m:Nat→Int}
theorem kdok_fork (L:PTab):∀ (f i:Nat) (S:PS),DOk S→(∀ k e,mget S.es k=some e→e.refs+f≤1000000)→DOk (forkFrom L f i S)
  | 0,_,S,h,_ => h
  | f+1,i,S,h,hb => by
    show DOk (forkFrom L f (i+1) (if 0 < (L i).1 then bumpS S ((L i).1 - 1) else S))
    by_cases hz:0 < (L i).1
    · rw [if_pos hz]
      unfold bumpS
      cases he:mget S.es ((L i).1 - 1) with
      | none => exact kdok_fork L f (i+1) S h (fun k e he => by have:=hb k e he; omega)
      | some e =>
        have hE:=(h.ent _ e he).1
        have hbe:=hb _ e he
        have h2:DOk (putS S ((L i).1 - 1) { e with refs:=e.refs+1 }):=h.put he rfl rfl rfl rfl ⟨by show 1≤e.refs+1; omega,by show e.refs+1≤1000000; omega,hE.2.2⟩
        exact kdok_fork L f (i+1) (putS S ((L i).1 - 1) { e with refs:=e.refs+1 }) h2 (fun k g hg => by
          have hg:mget (mput S.es _ _) k=some g:=hg
          rw [mget_mput] at hg
          split at hg
          · cases hg
            show e.refs+1+f≤1000000
            omega
          · have:=hb k g hg; omega)
    · rw [if_neg hz]
      exact kdok_fork L f (i+1) S h (fun k e he => by have:=hb k e he; omega)
theorem stR_fork {c:Int} {nb:Nat} {p:Pr} (hn:mget l c=none) (hc:∀ t∈l,t.2≠nb) (hp:p.state=1) (q:Int):stR (l ++ [(c,nb)]) (updPr f nb p) q=if q=c then 1 else stR l f q:=by
  have e2:stR l (updPr f nb p) q=stR l f q:=stR_congr (fun t ht => by rw [updPr_other _ _ (hc t ht)]) q
  by_cases e:q=c
  · subst e
    rw [if_pos rfl]
    unfold stR
    rw [mget_snoc hn,if_pos rfl]
    show (updPr f nb p nb).state=1
    rw [updPr_same]; exact hp
  · rw [if_neg e,← e2]
    unfold stR
    rw [mget_snoc hn,if_neg e]
structure ForkNew where
  c:Int
  nb:Nat
  sp:Nat
  pm:Nat
  ub:Nat
  ob:Nat
  lb:Nat
  rl:List (Int×Nat)
def forkK (k:KS) (pid:Int) (o:KO) (x:Spc) (y:Nat×PTab) (b:Nat) (z:ForkNew):KS :=
  { t:={ k.t with rl:=z.rl },l:=k.l ++ [⟨z.sp,z.pm,x.P⟩],S:=forkS k.S y.2,ts:=k.ts ++ [(z.ub,y.2)],os:=k.os ++ [⟨z.ob,z.lb,o.u,o.m,o.adj⟩],ow:=k.ow ++ [(z.c,k.os.length)],pl:=k.pl ++ [(z.c,z.nb)],pf:=updPr k.pf z.nb ⟨pid,1,0,0,(k.pf b).ignores⟩ }
def ForkC (k:KS) (c:Int):Prop:=1≤c∧c≤24∧mget k.pl c=none∧∀ i:Int,1≤i→i < c→(mget k.pl i).isSome=true
theorem get_snoc {α:Type} {l:List α} {v z:α} {j:Nat} (h:(l ++ [v])[j]?=some z):l[j]?=some z∨(j=l.length∧z=v):=by
  by_cases e:j < l.length
  · rw [List.getElem?_append_left e] at h; exact .inl h
  · rw [List.getElem?_append_right (by omega)] at h
    have e2:=(List.getElem?_eq_some_iff.1 h).1
    simp at e2
    have e3:j=l.length:=by omega
    subst e3
    simp at h
    exact .inr ⟨rfl,h.symm⟩
theorem KOk.no_own (h:KOk k) {c:Int} (hn:mget k.pl c=none):mget k.ow c=none:=by
  cases hc:mget k.ow c with
  | none => rfl
  | some i =>
    have h1:=(h.run c).2 (by rw [hc]; rfl)
    unfold RunsIn stR at h1
    rw [hn] at h1
    cases h1
theorem KOk.forked (h:KOk k) (hm:Mine k pid i o x y) {b:Nat} (hb:mget k.pl pid=some b) {z:ForkNew} (hc:ForkC k z.c) (hnb:∀ t∈k.pl,t.2≠z.nb) (hl:k.pl.length < 24) (hlen:k.os.length < 100):KOk (forkK k pid o x y b z):=by
  have hr:RunsIn k.pl k.pf pid:=(h.run pid).2 (by rw [hm.own]; rfl)
  have hno:=h.no_own hc.2.2.1
  have hown:∀ q,mget (k.ow ++ [(z.c,k.os.length)]) q=if q=z.c then some k.os.length else mget k.ow q:=mget_snoc hno
  obtain ⟨l1,l2,l3⟩:=h.len
  have hbnd:=h.joint.bound h.dok (by omega)
  have hO:∀ j,j≠k.os.length→((∃ q,mget (k.ow ++ [(z.c,k.os.length)]) q=some j) ↔ Owned k j):=fun j hj => by
    constructor
    · rintro ⟨q,hq⟩
      rw [hown] at hq
      by_cases e:q=z.c
      · rw [if_pos e] at hq; exact absurd (Option.some.inj hq).symm hj
      · rw [if_neg e] at hq; exact ⟨q,hq⟩
    · rintro ⟨q,hq⟩
      refine ⟨q,?_⟩
      rw [hown,if_neg (fun e => ?_)]
      · exact hq
      · rw [e,hno] at hq; cases hq
  refine ⟨h.kin.fork hr hb hc.1 hc.2.1 hc.2.2.1 hl hnb,kdok_fork y.2 8 0 k.S h.dok (fun m e he => by have:=hbnd m e he; omega),joint_fork h.joint (tab:=y.1) (by rw [hm.tab]) z.ub,⟨by unfold forkK; simp only [List.length_append,List.length_singleton]; omega,by unfold forkK; simp only [List.length_append,List.length_singleton]; omega,by unfold forkK; simp only [List.length_append,List.length_singleton]; omega⟩,fun q => ?_,?_,fun p q j hp hq => ?_,fun j v z' u hv hz hu ho => ?_,fun j v hv => ?_,fun j v u hv hu ho => ?_,fun q j hq => ?_⟩
  · unfold RunsIn
    show stR (k.pl ++ [(z.c,z.nb)]) (updPr k.pf z.nb _) q=1 ↔ (mget (k.ow ++ [(z.c,k.os.length)]) q).isSome=true
    rw [stR_fork hc.2.2.1 hnb rfl,hown]
    by_cases e:q=z.c
    · rw [if_pos e,if_pos e]; simp
    · rw [if_neg e,if_neg e]; exact h.run q
  · show MNodup (k.ow ++ [(z.c,k.os.length)])
    rw [← mput_new hno]; exact mput_nodup h.nd _ _
  · have hp':mget (k.ow ++ [(z.c,k.os.length)]) p=some j:=hp
    have hq':mget (k.ow ++ [(z.c,k.os.length)]) q=some j:=hq
    rw [hown] at hp' hq'
    by_cases e1:p=z.c
    · by_cases e2:q=z.c
      · rw [e1,e2]
      · rw [if_pos e1] at hp'; rw [if_neg e2] at hq'
        have h1:=h.lt q j hq'
        have:=Option.some.inj hp'
        omega
    · by_cases e2:q=z.c
      · rw [if_neg e1] at hp'; rw [if_pos e2] at hq'
        have h1:=h.lt p j hp'
        have:=Option.some.inj hq'
        omega
      · rw [if_neg e1] at hp'; rw [if_neg e2] at hq'
        exact h.inj p q j hp' hq'
  · rcases get_snoc hv with hv | ⟨rfl,rfl⟩
    · have hj:=(List.getElem?_eq_some_iff.1 hv).1
      have hne:j≠k.os.length:=by omega
      rcases get_snoc hz with hz | ⟨e,_⟩
      · rcases get_snoc hu with hu | ⟨e,_⟩
        · exact h.live j v z' u hv hz hu ((hO j hne).1 ho)
        · omega
      · omega
    · rcases get_snoc hz with hz | ⟨_,rfl⟩
      · have:=(List.getElem?_eq_some_iff.1 hz).1; omega
      · rcases get_snoc hu with hu | ⟨_,rfl⟩
        · have:=(List.getElem?_eq_some_iff.1 hu).1; omega
        · exact h.live i o x y hm.ko hm.sp hm.tab ⟨pid,hm.own⟩
  · rcases get_snoc hv with hv | ⟨rfl,rfl⟩
    · exact h.fit j v hv
    · exact h.fit i o hm.ko
  · have hne:j≠k.os.length:=fun e => ho ⟨z.c,by show mget (k.ow ++ [(z.c,k.os.length)]) z.c=some j; rw [hown,if_pos rfl,e]⟩
    rcases get_snoc hv with hv | ⟨e,_⟩
    · rcases get_snoc hu with hu | ⟨e,_⟩
      · exact h.dead j v u hv hu (fun h1 => ho ((hO j hne).2 h1))
      · omega
    · omega
  · have hq':mget (k.ow ++ [(z.c,k.os.length)]) q=some j:=hq
    rw [hown] at hq'
    unfold forkK
    simp only [List.length_append,List.length_singleton]
    split at hq'
    · have:=Option.some.inj hq'; omega
    · have:=h.lt q j hq'; omega
theorem keysK_new {os:List KO} {ow:List (Int×Nat)} (h:∀ t∈ow,∃ o,os[t.2]?=some o) (p:KO) {c:Int} (hn:mget ow c=none):keysK (os ++ [p]) (ow ++ [(c,os.length)])=mput (keysK os ow) c p.ob:=by
  have e:mget (keysK os ow) c=none:=by rw [mget_keysK,hn]; rfl
  rw [mput_new e]
  have h1:=keysK_more h p
  unfold keysK at h1 ⊢
  rw [List.map_append,h1]
  have h2:obOf (os ++ [p]) os.length=p.ob:=by unfold obOf; rw [List.getElem?_append_right (Nat.le_refl _)]; simp
  simp [h2]
/-! ### the walk -/
def ForkTo (W:World) (a:KA) (k:KS) (pid:Int) (o:KO) (x:Spc) (y:Nat×PTab) (e:Ending) (w':World):Prop :=
  (24≤k.pl.length∧e=.returned (.tuple #[.int .i64 0,.iface 36 (.int .i64 12)])∧KIs W w' a k) ∨
  (k.pl.length < 24∧∃ (b:Nat) (z:ForkNew),mget k.pl pid=some b∧ForkC k z.c∧(∀ t∈k.pl,t.2≠z.nb)∧e=.returned (.tuple #[.int .i64 z.c,.nilIface])∧KIs W w' a (forkK k pid o x y b z)∧KOk (forkK k pid o x y b z))
theorem kfork_full (h:KIn W w a k C) (hok:KOk k) (hm:Mine k pid i o x y) (hl:24≤k.pl.length) :
    Calls Tryz.prog 14 #[.pointer (some ⟨a.kb,0,none⟩),.int .i64 pid] w (ForkTo W a k pid o x y):=by
  have HW:=hid (who_yes h hok hm.own hm.ko)
  have HP:=hid (fork_full h.pr pid ((hok.run pid).2 (by rw [hm.own]; rfl)) hl)
  have c3:=h.c3
  have H:=hid h
  have HL:=hid hl
  clear h hok hm hl
  unfold ForkTo
  go_enter Tryz.func14,Tryz.ntmps14
  go_wp2_with fail
  refine HW.out.mono ?_
  rintro e w1 ⟨rfl,hw⟩; subst w1
  go_wp2_with fail
  refine HP.out.mono ?_
  rintro e w2 ⟨rfl,rfl⟩
  go_wp2_with fail
  go_returns
  exact .inl ⟨HL.out,rfl,C,H.out⟩
theorem KIn.lcells (h:LedgerIs w r u m):w.cell? ⟨r,0,none⟩=some (.int .i64 (u 0))∧w.cell? ⟨r,1,none⟩=some (.int .i64 (u 1))∧w.cell? ⟨r,2,none⟩=some (.int .i64 (u 2))∧w.cell? ⟨r,3,none⟩=some (.int .i64 (m 0))∧w.cell? ⟨r,4,none⟩=some (.int .i64 (m 1))∧w.cell? ⟨r,5,none⟩=some (.int .i64 (m 2)) :=
  ⟨h.cu 0 (by decide),h.cu 1 (by decide),h.cu 2 (by decide),h.cm 0 (by decide),h.cm 1 (by decide),h.cm 2 (by decide)⟩
theorem ledger_copy (w:World) (u m:Nat→Int) (t:TypeId):LedgerIs (w.alloc (.cells #[.int .i64 (u 0),.int .i64 (u 1),.int .i64 (u 2),.int .i64 (m 0),.int .i64 (m 1),.int .i64 (m 2)] t)) w.heap.size u m:=by
  refine ⟨fun j hj => ?_,fun j hj => ?_,fun j => by simp⟩ <;> (match j with
    | 0 => simp
    | 1 => simp
    | 2 => simp
    | j+3 => exact absurd hj (by omega))
theorem kfork_runs (h:KIn W w a k C) (hok:KOk k) (hm:Mine k pid i o x y) (hl:k.pl.length < 24) (hlen:k.os.length < 100) :
    Calls Tryz.prog 14 #[.pointer (some ⟨a.kb,0,none⟩),.int .i64 pid] w (ForkTo W a k pid o x y):=by
  have HW:=hid (who_yes h hok hm.own hm.ko)
  have hr:RunsIn k.pl k.pf pid:=(hok.run pid).2 (by rw [hm.own]; rfl)
  obtain ⟨b,hb⟩:=runs_block hr
  have HP:=hid (fork_runs h.pr pid b hr hb hl)
  unfold Forked at HP
  have c3:=h.c3
  have H:=hid h
  have HOk:=hid hok
  have HM:=hid hm
  have HB:=hid hb
  have HL:=hid hl
  have HLen:=hid hlen
  clear h hok hm hl hlen hr hb
  unfold ForkTo
  go_enter Tryz.func14,Tryz.ntmps14
  go_wp2_with fail
  refine HW.out.mono ?_
  rintro e w1 ⟨rfl,hw⟩; subst w1
  go_wp2_with fail
  refine HP.out.mono ?_
  rintro e w2 ⟨c,nb,c1,c24,hn,hls,rfl,hnb,hT,t2⟩
  have hnb2:∀ t∈k.pl,t.2≠nb:=fun t ht e => by have:=(H.out.pr.pr t ht).lt; omega
  obtain ⟨C2,hK2,o2⟩:∃ C2,KIn W w2 a { k with pl:=k.pl ++ [((c:Int),nb)],pf:=updPr k.pf nb ⟨pid,1,0,0,(k.pf b).ignores⟩ } C2∧Own7 C C2 w w2:=⟨_,H.out.prStepC hT (t2.mono (fun _ _ e => .inr (.inl e))) (fun j hj => by
    rcases hj with e | e | hj
    · exact .inl (.inl e)
    · exact .inl (.inr (.inl e))
    · rw [List.map_append,List.mem_append] at hj
      rcases hj with hj | hj
      · exact .inl (.inr (.inr hj))
      · simp at hj; exact .inr (by omega))⟩
  have HC:=hid (show ForkC k c from ⟨by omega,by omega,hn,hls⟩)
  have HNb:=hid hnb2
  obtain ⟨hO,hL⟩:=hK2.at_ (pid:=pid) (i:=i) (o:=o) (x:=x) (y:=y) ⟨HM.out.own,HM.out.ko,HM.out.sp,HM.out.tab⟩
  obtain ⟨l0,l1,l2,l3,l4,l5⟩:=KIn.lcells hL
  have q2:=hO.c2
  have HK2:=hid hK2
  have HO2:=hid hO
  clear hT t2 hn hls hnb hnb2 o2 hK2 hO hL c3 c1 c24
  go_wp2_with fail
  have hL3:=ledger_copy w2 o.u o.m 104
  have t3:Turn (fun _ => False) w2 (w2.alloc (.cells #[.int .i64 (o.u 0),.int .i64 (o.u 1),.int .i64 (o.u 2),.int .i64 (o.m 0),.int .i64 (o.m 1),.int .i64 (o.m 2)] 104)):=(Turn.refl _ _).alloc _
  have hsz:(w2.alloc (.cells #[.int .i64 (o.u 0),.int .i64 (o.u 1),.int .i64 (o.u 2),.int .i64 (o.m 0),.int .i64 (o.m 1),.int .i64 (o.m 2)] 104)).heap.size=w2.heap.size+1:=World.size_alloc _ _
  generalize hw3:w2.alloc (.cells #[.int .i64 (o.u 0),.int .i64 (o.u 1),.int .i64 (o.u 2),.int .i64 (o.m 0),.int .i64 (o.m 1),.int .i64 (o.m 2)] 104)=w3 at hL3 t3 hsz ⊢
  clear hw3
  obtain ⟨lb,hlb⟩:∃ lb,w2.heap.size=lb:=⟨_,rfl⟩
  have hK3:=HK2.out.marked t3 (fun j => j=lb) (fun j hj => ⟨by omega,by omega⟩)
  rw [hlb] at hL3 ⊢
  obtain ⟨C3,hC3⟩:∃ C3,C3=markF C2 (fun j => j=lb) (7,0):=⟨_,rfl⟩
  rw [← hC3] at hK3
  have hC3b:C3 lb=(7,0):=by rw [hC3]; exact markF_in rfl
  have hm3:Mine { k with pl:=k.pl ++ [((c:Int),nb)],pf:=updPr k.pf nb ⟨pid,1,0,0,(k.pf b).ignores⟩ } pid i o x y:=⟨HM.out.own,HM.out.ko,HM.out.sp,HM.out.tab⟩
  have hK3d:=hK3.drewS
  have hL3d:=hL3.turned ((Turn.refl (fun _ => False) w3).drew) id
  have hO3:=(hK3d.at_ hm3).1
  have k0:=hO3.c0
  have k1:=hO3.c1
  have k3:=hO3.c3
  have k4:=hK3d.c4
  have k2:=hK3d.c2
  have hone:=hK3d.vm.at hm3.sp
  have hvf:=vmFork_is hone.store hone.space hone.off (fun f hf => by have:=hone.refs f hf; omega) (R_small hK3d.vm (by have:=HOk.out.len; show k.l.length≤100; omega))
  unfold ForkIs at hvf
  have HVf:=hid hvf
  have HK3:=hid hK3d
  have HL3:=hid hL3d
  have HC3:=hid hC3b
  have HM3:=hid hm3
  clear hL3 t3 hsz hK3 hC3 hC3b hm3 hK3d hL3d hO3 hone hvf l0 l1 l2 l3 l4 l5 q2 HK2 HO2 hlb
  go_region_held3 (fun w' => w'.cell? ⟨o.ob,0,none⟩=some (.pointer (some ⟨x.sp,0,none⟩))∧w'.cell? ⟨o.ob,1,none⟩=some (.pointer (some ⟨y.1,0,none⟩))∧w'.cell? ⟨o.ob,3,none⟩=some (.int .i64 o.adj)∧w'.cell? ⟨a.kb,4,none⟩=some (.map (some a.om))∧w'.cell? ⟨a.kb,2,none⟩=some (.pointer (some ⟨a.fb,0,none⟩)))
    (first | exact ⟨k0,k1,k3,k4,k2⟩ | exact ⟨k04,k14,k34,k44,k24⟩ | exact ⟨k05,k15,k35,k45,k25⟩ | exact ⟨k07,k17,k37,k47,k27⟩ | go_keep)
    (first
      | (go_at_call 57; refine HVf.out.mono ?_; rintro e w4 ⟨sp2,pm2,rl,rfl,hS4,hA4,hR4,h41,h42⟩
         have hAA:=HK3.out.vm.forked HM3.out.sp hS4 hA4 hR4 h41 h42
         obtain ⟨C4,hK4,o4⟩:∃ C4,KIn W w4 a { k with pl:=k.pl ++ [((c:Int),nb)],pf:=updPr k.pf nb ⟨pid,1,0,0,(k.pf b).ignores⟩,t:={ k.t with rl:=rl },l:=k.l ++ [⟨sp2,pm2,x.P⟩] } C4∧Own7 C3 C4 w3.drew w4:=⟨_,HK3.out.vmStepC hAA (fun j z hz => ⟨z,by rw [List.getElem?_append_left (List.getElem?_eq_some_iff.1 hz).1]; exact hz,rfl⟩)⟩
         have HL4:=hid (HL3.out.turned o4.2 (fun e => e HC3.out))
         have HC4:=hid (o4.1 _ HC3.out)
         have hm4:Mine { k with pl:=k.pl ++ [((c:Int),nb)],pf:=updPr k.pf nb ⟨pid,1,0,0,(k.pf b).ignores⟩,t:={ k.t with rl:=rl },l:=k.l ++ [⟨sp2,pm2,x.P⟩] } pid i o x y:=⟨HM.out.own,HM.out.ko,by show (k.l ++ _)[i]?=some x; rw [List.getElem?_append_left (List.getElem?_eq_some_iff.1 HM.out.sp).1]; exact HM.out.sp,HM.out.tab⟩
         have HM4:=hid hm4
         have hO4:=(hK4.at_ hm4).1
         have k04:=hO4.c0
         have k14:=hO4.c1
         have k34:=hO4.c3
         have k44:=hK4.c4
         have k24:=hK4.c2
         have HFf:=hid (law_fork hK4.desc HM.out.tab (HOk.out.there HM.out) (HOk.out.joint.bound HOk.out.dok (by have:=HOk.out.len; omega)))
         have HK4:=hid hK4
         clear hS4 hA4 hR4 h41 h42 hAA o4 hm4 hO4 hK4)
      | (go_at_call 58; refine HFf.out.mono ?_; rintro e w5 ⟨ub,rfl,hd5⟩
         have hK5:=HK4.out.descStepC hd5 (fun j z hz => ⟨z,by rw [List.getElem?_append_left (List.getElem?_eq_some_iff.1 hz).1]; exact hz,rfl⟩)
         have hL5:=HL4.out.turned (own7_desc hd5).2 (fun e => e HC4.out)
         have hO5:=(hK5.at_ (pid:=pid) (i:=i) (o:=o) (x:=x) (y:=y) ⟨HM.out.own,HM.out.ko,HM4.out.sp,by show (k.ts ++ _)[i]?=some y; rw [List.getElem?_append_left (List.getElem?_eq_some_iff.1 HM.out.tab).1]; exact HM.out.tab⟩).1
         have k05:=hO5.c0
         have k15:=hO5.c1
         have k35:=hO5.c3
         have k45:=hK5.c4
         have k25:=hK5.c2
         have t6:Turn (fun _ => False) w5 (w5.alloc (.cells #[.pointer (some ⟨sp2,0,none⟩),.pointer (some ⟨ub,0,none⟩),.pointer (some ⟨lb,0,none⟩),.int .i64 o.adj] 115)):=(Turn.refl _ _).alloc _
         have hO6:OwnAt (w5.alloc (.cells #[.pointer (some ⟨sp2,0,none⟩),.pointer (some ⟨ub,0,none⟩),.pointer (some ⟨lb,0,none⟩),.int .i64 o.adj] 115)) w5.heap.size sp2 ub lb o.adj:=⟨by simp,by simp,by simp,by simp,fun q => by simp⟩
         obtain ⟨hl1,hl2,hl3⟩:=HOk.out.len
         obtain ⟨C6,hK6⟩:=hK5.more7 (x:=⟨sp2,pm2,x.P⟩) (y:=(ub,y.2)) (p:=⟨w5.heap.size,lb,o.u,o.m,o.adj⟩) (by show (k.l ++ [⟨sp2,pm2,x.P⟩])[k.os.length]?=_; rw [← hl1]; simp) (by show (k.ts ++ [(ub,y.2)])[k.os.length]?=_; rw [← hl2]; simp) t6 ⟨Nat.le_refl _,by simp⟩ HC4.out hO6 (hL5.turned t6 id)
         obtain ⟨w7,hrun,hm7,t7⟩:=hK6.mp.run_update (P:=Tryz.prog) keyI Tryz.underlying116 Tryz.underlying3 (c:Int) w5.heap.size
         have hrn:(Instr.mapUpdate 116 (.map (some a.om)) (.int .i64 (c:Int)) (.pointer (some ⟨w5.heap.size,0,none⟩))).run Tryz.prog (w5.alloc (.cells #[.pointer (some ⟨sp2,0,none⟩),.pointer (some ⟨ub,0,none⟩),.pointer (some ⟨lb,0,none⟩),.int .i64 o.adj] 115))=.ok () w7:=hrun
         have hno:=HOk.out.no_own HC.out.2.2.1
         have hm8:MapIs w7 a.om (.int .i64) encI ptr (keysK (k.os ++ [⟨w5.heap.size,lb,o.u,o.m,o.adj⟩]) (k.ow ++ [((c:Int),k.os.length)])):=by
           rw [keysK_new hK5.has _ hno]
           rw [show keysK (k.os ++ [⟨w5.heap.size,lb,o.u,o.m,o.adj⟩]) k.ow=keysK k.os k.ow from keysK_more hK5.has _] at hm7
           exact hm7
         have hK7:=hK6.owns (ow':=k.ow ++ [((c:Int),k.os.length)]) hm8 (fun t ht => by
           rcases List.mem_append.1 ht with ht | ht
           · exact hK6.has t ht
           · rw [List.mem_singleton.1 ht]
             exact ⟨⟨w5.heap.size,lb,o.u,o.m,o.adj⟩,by show (k.os ++ [_])[k.os.length]?=_; simp⟩) t7
         have HK7:=hid (show KIs W w7 a (forkK k pid o x y b ⟨c,nb,sp2,pm2,ub,w5.heap.size,lb,rl⟩) from hK7)
         obtain ⟨C7,hI7⟩:=hK7
         have hne:pid≠(c:Int):=fun e => by rw [← e,HM.out.own] at hno; cases hno
         have hO7:=(hI7.at_ (pid:=pid) (i:=i) (o:=o) (x:=x) (y:=y) ⟨by show mget (k.ow ++ [((c:Int),k.os.length)]) pid=some i; rw [mget_snoc hno,if_neg hne]; exact HM.out.own,by show (k.os ++ _)[i]?=some o; rw [List.getElem?_append_left (List.getElem?_eq_some_iff.1 HM.out.ko).1]; exact HM.out.ko,HM4.out.sp,by show (k.ts ++ _)[i]?=some y; rw [List.getElem?_append_left (List.getElem?_eq_some_iff.1 HM.out.tab).1]; exact HM.out.tab⟩).1
         have k07:=hO7.c0
         have k17:=hO7.c1
         have k37:=hO7.c3
         have k47:=hI7.c4
         have k27:=hI7.c2
         clear hrun hd5 hK5 hL5 hO5 t6 hO6 hl1 hl2 hl3 hK6 hm7 t7 hno hm8 hne hI7 hO7))
  all_goals go_wp2_with fail
  all_goals go_returns
  all_goals exact .inr ⟨HL.out,b,⟨c,nb,sp2,pm2,ub,w5.heap.size,lb,rl⟩,HB.out,HC.out,HNb.out,rfl,HK7.out,HOk.out.forked HM.out HB.out HC.out HNb.out HL.out HLen.out⟩
theorem kfork_yes (h:KIn W w a k C) (hok:KOk k) (hm:Mine k pid i o x y) (hlen:k.os.length < 100) :
    Calls Tryz.prog 14 #[.pointer (some ⟨a.kb,0,none⟩),.int .i64 pid] w (ForkTo W a k pid o x y):=by
  by_cases hl:k.pl.length < 24
  · exact kfork_runs h hok hm hl hlen
  · exact kfork_full h hok hm (by omega)
end
section
variable {W w w' w1:World} {a:KA} {k k1 k2 k':KS} {C C':Nat→Nat×Nat} {pid v p q:Int} {i j:Nat} {o o' ov:KO} {x xv:Spc} {y yv:Nat×PTab} {go:List Int} {b:Nat} {c:Int} {t':St}
/-! ### plain -/
def GoneK (a:KA) (k:KS) (v:Int) (k':KS):Prop :=
  usedN k.t.R a.n=a.n∧oVictim (candsK k)=(v,true)∧v≠1∧KOk k'∧∃ i o x y b t',Mine k v i o x y∧0 < resP x.P∧t'.m=k.t.m∧mget k.pl v=some b∧k'=exitK k v i x y b 108 t'
def Went (a:KA):KS→List Int→KS→Prop
  | k,[],k' => k'=k
  | k,v :: go,k' => ∃ k1,GoneK a k v k1∧Went a k1 go k'
theorem Went.snoc:∀ {go:List Int} {k k1 k2:KS},Went a k go k1→GoneK a k1 v k2→Went a k (go ++ [v]) k2
  | [],k,k1,k2,h1,h2 => by
    have e:k1=k:=h1
    subst e
    exact ⟨k2,h2,rfl⟩
  | u :: go,k,k1,k2,h1,h2 => by
    obtain ⟨k3,h3,h4⟩:=h1
    exact ⟨k3,h3,h4.snoc h2⟩
theorem Mine.exitOther (hm:Mine k pid i o x y) (hv:Mine k v j ov xv yv) (hok:KOk k) (hne:v≠pid):Mine (exitK k v j xv yv b c t') pid i o x y:=by
  have hj:j≠i:=fun e => hne (hok.inj v pid i (by rw [← e]; exact hv.own) hm.own)
  refine ⟨?_,hm.ko,?_,?_⟩
  · show mget (mdel k.ow v) pid=some i
    rw [mdel_get,if_neg (fun e => hne e.symm)]; exact hm.own
  · show (k.l.set j _)[i]?=_
    rw [List.getElem?_set,if_neg hj]; exact hm.sp
  · show (k.ts.set j _)[i]?=_
    rw [List.getElem?_set,if_neg hj]; exact hm.tab
theorem ow_less (hv:mget k.ow v=some j):(mdel k.ow v).length < k.ow.length:=by
  unfold mdel
  refine List.length_filter_lt_length_iff_exists.2 ⟨(v,j),mem_of_mget hv,?_⟩
  simp
theorem ow_len (hok:KOk k):k.ow.length≤64:=by
  have hk:∀ t∈k.ow,0≤t.1∧t.1 < 64:=fun t ht => by
    have h1:=mget_mem hok.nd (k:=t.1) (v:=t.2) ht
    have h2:=(hok.run t.1).2 (by rw [h1]; rfl)
    obtain ⟨b,hb⟩:=runs_block h2
    have h3:=hok.kin.rng _ (mem_of_mget hb)
    simp only at h3
    omega
  have h1:=sum_pages (fun o:Option Nat => if o.isSome then 1 else 0) rfl k.ow hok.nd hk
  have h2:∀ l:List (Int×Nat),(l.map fun p => if (some p.2).isSome then 1 else 0).sum=l.length:=fun l => by
    induction l with
    | nil => rfl
    | cons p l ih => rw [List.map_cons,List.sum_cons,ih,List.length_cons]; simp; omega
  rw [h2] at h1
  rw [h1]
  exact sumN_max (c:=fun i => if (mget k.ow (i:Int)).isSome then 1 else 0) (m:=1) (k:=64) (fun i _ => by split <;> omega)
def StoreOn (a:KA) (k:KS) (i:Nat) (x:Spc) (p q v z:Int) (k':KS):Prop :=
  (accE x.P p q 2≠0∧z=accE x.P p q 2∧k'=k) ∨
  (accE x.P p q 2=0∧0≤q∧q < 8∧∃ g,x.P p=some g ∧
    (((0≤g.2∧k.t.R g.2≤1)∧z=0∧∃ t',t'.R=k.t.R∧t'.m=memSet k.t.m g.2.toNat q.toNat v∧k'={ k with t:=t' }) ∨
     (¬ (0≤g.2∧k.t.R g.2≤1)∧z=12∧usedN k.t.R a.n=a.n∧k'=k) ∨
     (¬ (0≤g.2∧k.t.R g.2≤1)∧z=0∧∃ (f:Int) (t':St),0≤f∧f < a.n∧k.t.R f=0∧t'.m=newM k.t.m g.2 f q v∧k'={ k with t:=t',l:=k.l.set i ⟨x.sp,x.pm,setP x.P p (some (g.1,f))⟩ })))
theorem accE_ne12 (P:Int→Option Pg) (a wd pr:Int):accE P a wd pr≠12∧accE P a wd pr≠10:=by
  rcases accE_or P a wd pr with ⟨h,_⟩ | h | h | ⟨h,_⟩ <;> rw [h] <;> decide
theorem StoreOn.full (h:StoreOn a k i x p q v 12 k'):k'=k∧usedN k.t.R a.n=a.n:=by
  rcases h with ⟨_,hz,e⟩ | ⟨_,_,_,g,_,⟨_,hz,_⟩ | ⟨_,_,hu,e⟩ | ⟨_,hz,_⟩⟩
  · exact absurd hz.symm (accE_ne12 _ _ _ _).1
  · cases hz
  · exact ⟨e,hu⟩
  · cases hz
theorem StoreOn.fullAcc (h:StoreOn a k i x p q v 12 k'):accE x.P p q 2=0:=by
  rcases h with ⟨_,hz,e⟩ | ⟨h,_⟩
  · exact absurd hz.symm (accE_ne12 _ _ _ _).1
  · exact h
theorem KIn.vmSame (h:KIn W w a k C) (hx:k.l[i]?=some x) (hA:VmAfter a.s a.n k.t x.sp x.pm (fun f => sumC (k.l.eraseIdx i) f) w w' x.P t'):∃ C',KIn W w' a { k with t:=t' } C'∧Own7 C C' w w':=by
  obtain ⟨C',h1,h2⟩:=h.vmAtC hx hA
  have e:k.l.set i ⟨x.sp,x.pm,x.P⟩=k.l:=list_set_same hx
  rw [e] at h1
  exact ⟨C',h1,h2⟩
theorem kstore_once (h:KIn W w a k C) (hok:KOk k) (hm:Mine k pid i o x y) (p q v:Int) :
    Calls Tryz.prog 80 #[.pointer (some ⟨x.sp,0,none⟩),.int .i64 p,.int .i64 q,.int .i64 v] w fun e w' => ∃ (z:Int) (k':KS) (C':Nat→Nat×Nat),e=.returned (TErr z)∧KIn W w' a k' C'∧Own7 C C' w w'∧KOk k'∧StoreOn a k i x p q v z k':=by
  refine (vmStore_any (h.vm.at hm.sp) p q v).mono ?_
  rintro e w' (⟨hz,rfl,hA⟩ | ⟨hz,h0,h8,g,hg,⟨hr,rfl,t',hR,hmm,hA⟩ | ⟨hno,hu,rfl,hA⟩ | ⟨hno,rfl,f,t',f0,fn,fR,hmm,hA⟩⟩)
  · obtain ⟨C',h1,h2⟩:=h.vmSame hm.sp hA
    exact ⟨_,k,C',rfl,h1,h2,hok,.inl ⟨hz,rfl,rfl⟩⟩
  · obtain ⟨C',h1,h2⟩:=h.vmSame hm.sp hA
    exact ⟨0,_,C',rfl,h1,h2,hok.tst t',.inr ⟨hz,h0,h8,g,hg,.inl ⟨hr,rfl,t',hR,hmm,rfl⟩⟩⟩
  · obtain ⟨C',h1,h2⟩:=h.vmSame hm.sp hA
    exact ⟨12,k,C',rfl,h1,h2,hok,.inr ⟨hz,h0,h8,g,hg,.inr (.inl ⟨hno,rfl,hu,rfl⟩)⟩⟩
  · obtain ⟨C',h1,h2⟩:=h.vmAtC hm.sp hA
    have hd:=(h.vm.sps i x hm.sp).dom _ _ hg
    have hl:=hok.live i o x y hm.ko hm.sp hm.tab ⟨pid,hm.own⟩
    have hlen:lenP (setP x.P p (some (g.1,f)))=lenP x.P:=by
      have h3:=lenP_set x.P p (some (g.1,f)) hd.1 hd.2
      rw [hg] at h3
      simp at h3
      exact h3
    have h5:=hok.step hm (P':=setP x.P p (some (g.1,f))) (t':=t') (u':=o.u) ⟨by rw [hlen]; exact hl.1,rfl,rfl⟩ (hok.fit i o hm.ko).1
    have e:stepK k i o x (setP x.P p (some (g.1,f))) t' o.u={ k with t:=t',l:=k.l.set i ⟨x.sp,x.pm,setP x.P p (some (g.1,f))⟩ }:=by
      unfold stepK
      rw [show k.os.set i { o with u:=o.u }=k.os from list_set_same hm.ko]
    rw [e] at h5
    exact ⟨0,_,C',rfl,h1,h2,h5,.inr ⟨hz,h0,h8,g,hg,.inr (.inr ⟨hno,rfl,f,t',f0,fn,fR,hmm,rfl⟩)⟩⟩
def StoreTo (W:World) (a:KA) (k:KS) (C:Nat→Nat×Nat) (pid:Int) (i:Nat) (o:KO) (x:Spc) (y:Nat×PTab) (p q v:Int) (w:World) (e:Ending) (w':World):Prop :=
  ∃ (row:Value) (go:List Int) (k1 k':KS) (z:Int) (C':Nat→Nat×Nat),e=.returned (.tuple #[row,TErr z])∧IntsAt w' row go∧(∀ g,row.ownBlock=some g→w.heap.size≤g)∧Went a k go k1∧(go=[]∨accE x.P p q 2=0)∧KIn W w' a k' C'∧Own7 C C' w w'∧KOk k' ∧
    ((Mine k1 pid i o x y∧StoreOn a k1 i x p q v z k'∧(z=12→(oVictim (candsK k1)).2=false))∨(z=10∧k'=k1∧∃ go1,go=go1 ++ [pid]))
theorem kstore_yes (h:KIn W w a k C) (hok:KOk k) (hm:Mine k pid i o x y) (hLd:Laid W) (p q v:Int) :
    Calls Tryz.prog 28 #[.pointer (some ⟨a.kb,0,none⟩),.int .i64 pid,.int .i64 p,.int .i64 q,.int .i64 v] w (StoreTo W a k C pid i o x y p q v w):=by
  have HW:=hid (who_yes h hok hm.own hm.ko)
  have HLd:=hid hLd
  have HS0:=hid (show ∃ (C1:Nat→Nat×Nat) (go:List Int) (k1:KS),KIn W w a k1 C1∧KOk k1∧Went a k go k1∧Mine k1 pid i o x y∧IntsAt w (.slice none 0 0) go∧(∀ g,(Value.slice none 0 0).ownBlock=some g→C1 g=(7,0)∧w.heap.size≤g)∧Own7 C C1 w w∧go.length+k1.ow.length≤k.ow.length∧k1.ow.length=k.ow.length∧(go=[]∨accE x.P p q 2=0) from ⟨C,[],k,h,hok,rfl,hm,World.ownsRow_nil _ _ _ _,fun g hg => (by cases hg),Own7.still (Turn.refl _ _),(by simp),rfl,.inl rfl⟩)
  have HK:=hid (ow_len hok)
  clear h hok hm hLd
  unfold StoreTo
  go_enter Tryz.func28,Tryz.ntmps28
  go_wp2_with fail
  refine HW.out.mono ?_
  rintro e w1 ⟨rfl,hw⟩; subst w1
  go_wp2_with fail
  obtain ⟨ob,hob⟩:∃ ob,o.ob=ob:=⟨_,rfl⟩
  rw [hob]
  have HOb:=hid hob
  clear hob
  go_loopg [14] (k.ow.length) (fun gl v14 wr => Hid (∃ (C1:Nat→Nat×Nat) (go:List Int) (k1:KS),KIn W wr a k1 C1∧KOk k1∧Went a k go k1∧Mine k1 pid i o x y∧IntsAt wr v14 go∧(∀ g,v14.ownBlock=some g→C1 g=(7,0)∧w.heap.size≤g)∧Own7 C C1 w wr∧go.length+k1.ow.length≤k.ow.length∧k1.ow.length=gl∧(go=[]∨accE x.P p q 2=0)))
  case atStart => exact HS0
  case round =>
    obtain ⟨C1,go,k1,h1,hok1,hw1,hm1,hrow,hown,ho7,hlen,hgl,hacc⟩:=hrel.out
    have hO:=(h1.at_ hm1).1
    rw [HOb.out] at hO
    have c0:=hO.c0
    have HO:=hid (kstore_once h1 hok1 hm1 p q v)
    have HX:=hid (show Went a k go k1∧Mine k1 pid i o x y∧IntsAt wr u14 go∧(∀ g,u14.ownBlock=some g→C1 g=(7,0)∧w.heap.size≤g)∧Own7 C C1 w wr∧go.length+k1.ow.length≤k.ow.length∧k1.ow.length=gk from ⟨hw1,hm1,hrow,hown,ho7,hlen,hgl⟩)
    have HAcc:=hid hacc
    clear hrel h1 hok1 hw1 hm1 hrow hown ho7 hlen hgl hO HS0 hacc
    go_wp2_with fail
    refine HO.out.mono ?_
    rintro e w2 ⟨z,k2,C2,rfl,hk2,ho2,hok2,hst⟩
    have HT:=hid (tell_tree z _ (HLd.out.turned0 hk2.turn))
    obtain ⟨hw1,hm1,hrow,hown,ho7,hlen,hgl⟩:=HX.out
    have hrow2:IntsAt w2 u14 go:=hrow.turned ho2.2 (fun g hg e => e (hown g hg).1)
    have HK2:=hid hk2
    have HX2:=hid (show KOk k2∧StoreOn a k1 i x p q v z k2∧IntsAt w2 u14 go∧Own7 C C2 w w2 from ⟨hok2,hst,hrow2,ho7.trans ho2⟩)
    have HOw:=hid (show ∀ g,u14.ownBlock=some g→C2 g=(7,0)∧w.heap.size≤g from fun g hg => ⟨ho2.1 g (hown g hg).1,(hown g hg).2⟩)
    clear hk2 ho2 hok2 hst hw1 hm1 hrow hown ho7 hlen hgl hrow2 HO
    by_cases h12:z=12
    · subst h12
      go_wp2_with fail
      refine HT.out.mono ?_
      rintro e w3 ⟨rfl,t3⟩
      have HA0:=hid (HX2.out.2.1.fullAcc)
      obtain ⟨ek,hfull⟩:=HX2.out.2.1.full
      subst ek
      have hk3:=HK2.out.still t3
      have HC:=hid (kcands_is hk3 HX2.out.1)
      have HK3:=hid hk3
      have HT3:=hid t3
      have HF:=hid hfull
      clear hk3 t3 hfull c0
      go_wp2_with fail
      refine HC.out.mono ?_
      rintro e w4 ⟨vc,rfl,hcr,t4⟩
      have hcl:(candsK k2).length≤1000:=by
        have h5:(candsK k2).length≤(pidsOf k2.pl).length:=List.length_filterMap_le _ _
        have h6:=kin_len HX2.out.1
        omega
      have HV:=hid (victim_row vc _ hcr hcl)
      have HK4:=hid (HK3.out.still t4)
      have HT4:=hid (HT3.out.trans t4)
      clear hcr t4 hcl
      go_wp2_with fail
      refine HV.out.mono ?_
      rintro e w5 ⟨rfl,t5⟩
      have HK5:=hid (HK4.out.still t5)
      have HT5:=hid (HT4.out.trans t5)
      clear t5
      obtain ⟨vv,hvv⟩:∃ vv,oVictim (candsK k2)=vv:=⟨_,rfl⟩
      rw [hvv]
      obtain ⟨vi,vb⟩:=vv
      have HVv:=hid hvv
      clear hvv
      cases vb with
      | false =>
        simp only
        go_wp2_with fail
        go_returns
        obtain ⟨hw1,hm1,hrow,hown,ho7,hlen,hgl⟩:=HX.out
        exact ⟨u14,go,k2,k2,12,C2,rfl,HX2.out.2.2.1.turned HT5.out (fun _ _ => id),fun g hg => (hown g hg).2,hw1,HAcc.out,HK5.out,HX2.out.2.2.2.trans (Own7.still HT5.out),HX2.out.1,.inl ⟨hm1,HX2.out.2.1,fun _ => by rw [HVv.out]⟩⟩
      | true =>
        simp only
        obtain ⟨hv1,iv,ov,xv,yv,hmv,hpos⟩:=HK5.out.victim HVv.out
        have hal:Turn (fun _ => False) w5 (w5.alloc (.cells #[.int .i64 vi] 3)):=(Turn.refl _ _).alloc _
        have hRow:=(HX2.out.2.2.1.turned HT5.out (fun _ _ => id)).turned hal (fun _ _ => id)
        have HRow:=hid hRow
        have HAl:=hid hal
        have HC1:=hid (show (w5.alloc (.cells #[.int .i64 vi] 3)).cell? ⟨w5.heap.size,0,none⟩=some (.int .i64 vi) from by simp)
        have hgo:go.length≤1000000:=by have:=HX.out.2.2.2.2.2.1; have:=HK.out; omega
        have HMv:=hid (show vi≠1∧Mine k2 vi iv ov xv yv∧0 < resP xv.P from ⟨hv1,hmv,hpos⟩)
        clear hv1 hmv hpos hal hRow
        go_wp2_with (at_builtin; refine wpList_append_int rfl _ _ rfl u14 go rfl HRow.out w5.heap.size 1 vi rfl HC1.out hgo ?_; intro g3 z3 w8 hi8 t8 ho8; have HI8:=hid hi8; have HT8:=hid t8; have HO8:=hid ho8; clear hi8 t8 ho8)
        have h5a:=HK5.out.still HAl.out
        have hlt8:g3 < w8.heap.size:=by
          rcases HI8.out.shape with ⟨h,_⟩ | ⟨g,cap,h,_,_,hl⟩
          · have e:some g3=none:=congrArg Value.ownBlock h
            cases e
          · have e:some g3=some g:=congrArg Value.ownBlock h
            rw [Option.some.inj e]; exact hl
        have h8:=h5a.grow7 (HT8.out.mono (fun j _ e => (HOw.out j e).1)) (fun j => j=g3∧(w5.alloc (.cells #[.int .i64 vi] 3)).heap.size≤g3) (fun j hj => ⟨by rw [hj.1]; exact hj.2,by rw [hj.1]; exact hlt8⟩)
        obtain ⟨C8,hC8,hK8,hg8⟩:∃ C8,(∀ j,C2 j=(7,0)→C8 j=(7,0))∧KIn W w8 a k2 C8∧C8 g3=(7,0):=⟨_,fun j hj => by
          by_cases hp:j=g3∧(w5.alloc (.cells #[.int .i64 vi] 3)).heap.size≤g3
          · exact markF_in hp
          · rw [markF_out hp]; exact hj,h8,by
          rcases HO8.out with e | e
          · by_cases hp:g3=g3∧(w5.alloc (.cells #[.int .i64 vi] 3)).heap.size≤g3
            · exact markF_in hp
            · rw [markF_out hp]; exact (HOw.out _ e).1
          · exact markF_in ⟨rfl,e⟩⟩
        have hgw:w.heap.size≤g3:=by
          rcases HO8.out with e | e
          · exact (HOw.out _ e).2
          · have:=(HX2.out.2.2.2.2.trans ((HT5.out.trans HAl.out).mono (fun _ _ h => h.elim))).size
            omega
        have ho8:Own7 C C8 w w8:=⟨fun j hj => hC8 j (HX2.out.2.2.2.1 j hj),(HX2.out.2.2.2.2.trans ((HT5.out.trans HAl.out).mono (fun _ _ h => h.elim))).trans' HT8.out (fun j hj e => absurd (HOw.out j e).2 (by omega))⟩
        have HEx:=hid (kexit_keep hK8 HX2.out.1 HMv.out.2.1 108)
        unfold ExitKeep at HEx
        have HY:=hid (show C8 g3=(7,0)∧w.heap.size≤g3∧Own7 C C8 w w8 from ⟨hg8,hgw,ho8⟩)
        clear h5a hlt8 h8 hC8 hK8 hg8 hgw ho8
        go_wp2_with fail
        refine HEx.out.mono ?_
        rintro e w9 ⟨rfl,k9,C9,hk9,ho9,hok9,hgone,_⟩
        have hg:=hgone HMv.out.1
        have hrow9:IntsAt w9 (.slice (some ⟨g3,0,none⟩) (go.length+1) z3) (go ++ [vi]):=HI8.out.turned ho9.2 (fun g hg e => e (by cases hg; exact HY.out.1))
        have hG:GoneK a k2 vi k9:=by
          obtain ⟨t',b,e1,e2,e3⟩:=hg
          exact ⟨HF.out,HVv.out,HMv.out.1,hok9,iv,ov,xv,yv,b,t',HMv.out.2.1,HMv.out.2.2,e1,e2,e3⟩
        have HZ:=hid (show KIn W w9 a k9 C9∧KOk k9∧IntsAt w9 (.slice (some ⟨g3,0,none⟩) (go.length+1) z3) (go ++ [vi])∧GoneK a k2 vi k9∧Own7 C C9 w w9∧C9 g3=(7,0) from ⟨hk9,hok9,hrow9,hG,HY.out.2.2.trans ho9,ho9.1 _ HY.out.1⟩)
        clear hk9 ho9 hok9 hgone hg hrow9 hG
        obtain ⟨hw1,hm1,hrow,hown,ho7,hlen,hgl⟩:=HX.out
        by_cases hvp:vi=pid
        · subst hvp
          clear hrow hown ho7 hlen hgl hw1 hm1
          go_wp2_with fail
          go_returns
          obtain ⟨hw1,hm1,hrow,hown,ho7,hlen,hgl⟩:=HX.out
          exact ⟨_,go ++ [vi],k9,k9,10,C9,rfl,HZ.out.2.2.1,fun g hg => by cases hg; exact HY.out.2.1,hw1.snoc HZ.out.2.2.2.1,.inr HA0.out,HZ.out.1,HZ.out.2.2.2.2.1,HZ.out.2.1,.inr ⟨rfl,rfl,go,rfl⟩⟩
        · have hne:(vi == pid)=false:=by simpa using hvp
          have hG2:=HZ.out.2.2.2.1
          obtain ⟨_,_,_,_,iv2,ov2,xv2,yv2,b2,t2,hmv2,_,e1,e2,e3⟩:=hG2
          have hless:k9.ow.length < k2.ow.length:=by
            rw [e3]; exact ow_less hmv2.own
          have hm9:Mine k9 pid i o x y:=by
            rw [e3]; exact hm1.exitOther hmv2 HX2.out.1 hvp
          have HM9:=hid hm9
          have HLs:=hid (show k9.ow.length < gk∧(go ++ [vi]).length+k9.ow.length≤k.ow.length from ⟨by omega,by rw [List.length_append,List.length_singleton]; omega⟩)
          clear hrow hown ho7 hlen hgl hw1 hm1 hmv2 e1 e2 e3 hless hm9 hvp
          go_wp2_with fail
          go_roundg (k9.ow.length)
          case measure => exact HLs.out.1
          case rel => exact hid ⟨C9,go ++ [vi],k9,HZ.out.1,HZ.out.2.1,HX.out.1.snoc HZ.out.2.2.2.1,HM9.out,HZ.out.2.2.1,fun g hg => by cases hg; exact ⟨HZ.out.2.2.2.2.2,HY.out.2.1⟩,HZ.out.2.2.2.2.1,HLs.out.2,rfl,.inr HA0.out⟩
    · have hb12:(z != 12)=true:=by simpa using h12
      have H12:=hid h12
      clear h12
      go_wp2_with fail
      refine HT.out.mono ?_
      rintro e w3 ⟨rfl,t3⟩
      have HT3:=hid t3
      clear t3 c0
      go_wp2_with fail
      go_returns
      obtain ⟨hw1,hm1,hrow,hown,ho7,hlen,hgl⟩:=HX.out
      exact ⟨u14,go,k1,k2,z,C2,rfl,HX2.out.2.2.1.turned HT3.out (fun _ _ => id),fun g hg => (hown g hg).2,hw1,HAcc.out,HK2.out.still HT3.out,HX2.out.2.2.2.trans (Own7.still HT3.out),HX2.out.1,.inl ⟨hm1,HX2.out.2.1,fun e => absurd e H12.out⟩⟩
end
structure CallV where
  w:Int
  p:Int
  a:Int
  b:Int
  c:Int
  s:ByteArray
  t:ByteArray
def KR (k:KS) (z:Int) (R:KS→Prop) (k':KS):Prop:=(z=0→R k')∧(z≠0→∃ t',t'.m=k.t.m∧k'={ k with t:=t' })
def SigR (k:KS) (z:Int) (R:(Nat→Pr)→Prop) (k':KS):Prop:=∃ pf',k'={ k with pf:=pf' }∧Quiet k.pl k.pf pf'∧(z=0→R pf')∧(z≠0→pf'=k.pf)
def WaitR (k:KS) (p z:Int) (k':KS):Prop :=
  (z≠0∧k'=k)∨(z=0∧∃ (j:Nat) (c:Int) (b:Nat),(ownOf k.pl k.pf p)[j]?=some c∧mget k.pl c=some b∧(k.pf b).state=2∧k'={ k with pl:=mdel k.pl c })
def ForkR (k:KS) (p:Int) (o:KO) (x:Spc) (y:Nat×PTab) (z:Int) (k':KS):Prop :=
  (24≤k.pl.length∧z=12∧k'=k)∨(k.pl.length < 24∧z=0∧∃ (b:Nat) (f:ForkNew),mget k.pl p=some b∧ForkC k f.c∧(∀ t∈k.pl,t.2≠f.nb)∧k'=forkK k p o x y b f)
def StoreR (a:KA) (k:KS) (v:CallV) (i:Nat) (o:KO) (x:Spc) (y:Nat×PTab) (z:Int) (k':KS):Prop :=
  ∃ (go:List Int) (k1:KS),Went a k go k1∧(go=[]∨accE x.P v.a v.b 2=0)∧((Mine k1 v.p i o x y∧StoreOn a k1 i x v.a v.b v.c z k'∧(z=12→(oVictim (candsK k1)).2=false))∨(z=10∧k'=k1∧∃ go1,go=go1 ++ [v.p]))
def WriteR (k:KS) (v:CallV) (i:Nat) (o:KO) (y:Nat×PTab) (z:Int) (k':KS):Prop :=
  z=wrE k.S y.2 v.a v.s (o.m 2)∧∃ pf',k'={ fileK k i o y (wrS k.S y.2 v.a v.s (o.m 2)) y.2 o.u with pf:=pf' }∧Quiet k.pl k.pf pf'∧(z≠14→pf'=k.pf)
def SignalR (k:KS) (p:Int) (i:Nat) (x:Spc) (y:Nat×PTab) (z:Int) (k':KS):Prop :=
  z=0∧((p≠1∧∃ (r:Nat) (pf':Nat→Pr),TookF k.pl k.pf p r pf'∧Quiet k.pl k.pf pf'∧((r=0∧k'={ k with pf:=pf' })∨(r≠0∧∃ t' b,t'.m=k.t.m∧mget k.pl p=some b∧k'=exitK { k with pf:=pf' } p i x y b (100+r) t'))) ∨
   (p=1∧∃ (b Wt:Nat),mget k.pl 1=some b∧k'={ k with pf:=waitF k.pf b Wt }))
def ExecR (k:KS) (i:Nat) (o:KO) (x:Spc) (y:Nat×PTab) (z:Int) (k':KS):Prop:=z=0∧∃ t',t'.m=k.t.m∧k'=execK k i o x y t'
def CallM (a:KA) (k:KS) (v:CallV) (i:Nat) (o:KO) (x:Spc) (y:Nat×PTab) (z:Int) (k':KS):Nat→Prop
  | 0 => ForkR k v.p o x y z k'
  | 1 => ForkR k v.p o x y z k'
  | 2 => z=exE v.p∧KR k z (fun k' => ∃ t' b,t'.m=k.t.m∧mget k.pl v.p=some b∧k'=exitK k v.p i x y b v.a t') k'
  | 3 => ExecR k i o x y z k'
  | 4 => WaitR k v.p z k'
  | 5 => z=kmapE o x v.a v.b v.c∧KR k z (fun k' => k'=stepK k i o x (mapP x.P v.a v.b v.c) k.t (upd o.u 0 (o.u 0+v.b))) k'
  | 6 => z=kmapE o x v.a v.b v.c∧KR k z (fun k' => k'=stepK k i o x (mapP x.P v.a v.b v.c) k.t (upd o.u 0 (o.u 0+v.b))) k'
  | 7 => z=unmapE x.P v.a v.b∧KR k z (fun k' => ∃ t',t'.m=k.t.m∧k'=stepK k i o x (unmapP x.P v.a v.b) t' (upd o.u 0 (o.u 0 - v.b))) k'
  | 8 => StoreR a k v i o x y z k'
  | 9 => StoreR a k v i o x y z k'
  | 10 => StoreR a k v i o x y z k'
  | 11 => z=withE o 1 (openE k.S y.2 v.s (1+pk v.a 3) true)∧KR k z (fun k' => k'=fileK k i o y (openS k.S y.2 v.s (1+pk v.a 3) true) (openL k.S y.2 v.s (1+pk v.a 3) true) (upd o.u 1 (o.u 1+1))) k'
  | 12 => z=withE o 1 (openE k.S y.2 v.s (1+pk v.a 3) true)∧KR k z (fun k' => k'=fileK k i o y (openS k.S y.2 v.s (1+pk v.a 3) true) (openL k.S y.2 v.s (1+pk v.a 3) true) (upd o.u 1 (o.u 1+1))) k'
  | 13 => z=withE o 2 (pipeE k.S y.2)∧KR k z (fun k' => k'=fileK k i o y (pipedS k.S y.2) (pipedL k.S y.2) (upd o.u 1 (o.u 1+2))) k'
  | 14 => z=withE o 1 (dupE k.S y.2 v.a)∧KR k z (fun k' => k'=fileK k i o y (dupS k.S y.2 v.a) (dupL k.S y.2 v.a) (upd o.u 1 (o.u 1+1))) k'
  | 15 => z=dup2KE o k.S y.2 v.a v.b∧KR k z (fun k' => k'=fileK k i o y (dup2S k.S y.2 v.a v.b) (dup2L k.S y.2 v.a v.b) (upd o.u 1 (usedL (dup2L k.S y.2 v.a v.b)))) k'
  | 16 => z=closeE k.S y.2 v.a∧KR k z (fun k' => k'=fileK k i o y (closeS k.S y.2 v.a) (closeL k.S y.2 v.a) (upd o.u 1 (o.u 1 - 1))) k'
  | 17 => WriteR k v i o y z k'
  | 18 => z=rdE k.S y.2 v.a v.b∧KR k z (fun k' => k'=fileK k i o y (rdS k.S y.2 v.a v.b) y.2 o.u) k'
  | 19 => z=limE v.a v.b∧KR k z (fun k' => k'=setO k i { o with m:=upd o.m v.a.toNat v.b }) k'
  | 20 => z=killE k.pl k.pf v.a v.b∧SigR k z (KillF k.pl k.pf v.a v.b) k'
  | 21 => SignalR k v.p i x y z k'
  | 22 => z=makeE k.S.T v.s∧KR k z (fun k' => k'=treeK k (makeT k.S.T v.s true)) k'
  | 23 => z=unlinkE k.S.T v.s∧KR k z (fun k' => k'=treeK k (unlinkT k.S.T v.s)) k'
  | 24 => z=moveE k.S.T v.s v.t∧KR k z (fun k' => k'=treeK k (moveT k.S.T v.s v.t)) k'
  | 25 => z=protE x.P v.a v.b v.c∧KR k z (fun k' => k'=stepK k i o x (protP x.P v.a v.b v.c) k.t o.u) k'
  | 26 => z=getE y.2 v.a∧KR k z (fun k' => k'=fileK k i o y k.S (markL k.S y.2 v.a (decide (0 < v.b))) o.u) k'
  | 27 => z=adjE v.a∧KR k z (fun k' => k'=setO k i { o with adj:=v.a }) k'
  | _ => False
def CallR (a:KA) (k:KS) (v:CallV) (z:Int) (k':KS):Prop :=
  (z=7∧mget k.ow v.p=none∧k'=k)∨((v.w < 0∨27 < v.w)∧z=0∧k'=k)∨∃ (n i:Nat) (o:KO) (x:Spc) (y:Nat×PTab),v.w=n∧Mine k v.p i o x y∧CallM a k v i o x y z k' n
section
variable {W w w' w1:World} {a:KA} {k k':KS} {C C':Nat→Nat×Nat} {pid:Int} {i j:Nat} {o o':KO} {x:Spc} {y:Nat×PTab} {v:CallV}
def AskTo (W:World) (a:KA) (k:KS) (v:CallV) (sh:Value→Ending→Prop) (e:Ending) (w':World):Prop:=∃ z,sh (TErr z) e∧∃ k' C',KIn W w' a k' C'∧KOk k'∧CallR a k v z k'
def sh1 (r:Value) (e:Ending):Prop:=e=.returned r
def sh2 (r:Value) (e:Ending):Prop:=∃ u,e=.returned (.tuple #[u,r])
def sh3 (r:Value) (e:Ending):Prop:=∃ u1 u2,e=.returned (.tuple #[u1,u2,r])
theorem kwait_no (h:KIn W w a k C) (hok:KOk k) (hi:mget k.ow pid=none) :
    Calls Tryz.prog 32 #[.pointer (some ⟨a.kb,0,none⟩),.int .i64 pid] w fun e w' => e=.returned (.tuple #[.int .i64 0,.int .i64 0,.iface 36 (.int .i64 7)])∧Turn (fun _ => False) w w':=by
  have HP:=hid (wait_missing h.pr pid (fun hr => by have:=(hok.run pid).1 hr; rw [hi] at this; cases this))
  have c3:=h.c3
  clear h hok hi
  go_enter Tryz.func32,Tryz.ntmps32
  go_wp2_with fail
  refine HP.out.mono ?_
  rintro e w2 ⟨rfl,t⟩
  have HT:=hid t
  clear t
  go_wp2_with fail
  go_returns
  exact ⟨rfl,HT.out⟩
theorem ask_fork (h:KIn W w a k C) (hok:KOk k) (hLd:Laid W) (hlen:k.os.length < 100) (hw:(v.w=0∨v.w=1)) :
    Calls Tryz.prog 14 #[.pointer (some ⟨a.kb,0,none⟩),.int .i64 v.p] w (AskTo W a k v sh2):=by
  cases hi:mget k.ow v.p with
  | none =>
    refine (kfork_no h hok hi ).mono ?_
    rintro e w' ⟨rfl,t⟩
    exact ⟨7,⟨_,rfl⟩,k,C,h.still t,hok,.inl ⟨rfl,hi,rfl⟩⟩
  | some i =>
    obtain ⟨o,x,y,hm⟩:=h.mine hok hi
    refine (kfork_yes h hok hm hlen).mono ?_
    rintro e w' (⟨h1,rfl,C',h2⟩ | ⟨h1,b,z,h2,h3,h4,rfl,⟨C',h5⟩,h6⟩)
    · refine ⟨12,⟨_,rfl⟩,k,C',h2,hok,?_⟩
      rcases hw with hw | hw
      · exact .inr (.inr ⟨0,i,o,x,y,hw,hm,.inl ⟨h1,rfl,rfl⟩⟩)
      · exact .inr (.inr ⟨1,i,o,x,y,hw,hm,.inl ⟨h1,rfl,rfl⟩⟩)
    · refine ⟨0,⟨_,rfl⟩,_,C',h5,h6,?_⟩
      rcases hw with hw | hw
      · exact .inr (.inr ⟨0,i,o,x,y,hw,hm,.inr ⟨h1,rfl,b,z,h2,h3,h4,rfl⟩⟩)
      · exact .inr (.inr ⟨1,i,o,x,y,hw,hm,.inr ⟨h1,rfl,b,z,h2,h3,h4,rfl⟩⟩)
theorem ask_exit (h:KIn W w a k C) (hok:KOk k) (hLd:Laid W)  (hw:(v.w=2)) :
    Calls Tryz.prog 20 #[.pointer (some ⟨a.kb,0,none⟩),.int .i64 v.p,.int .i64 v.a] w (AskTo W a k v sh1):=by
  cases hi:mget k.ow v.p with
  | none =>
    refine (kexit_no h hok hi v.a).mono ?_
    rintro e w' ⟨rfl,t⟩
    exact ⟨7,rfl,k,C,h.still t,hok,.inl ⟨rfl,hi,rfl⟩⟩
  | some i =>
    obtain ⟨o,x,y,hm⟩:=h.mine hok hi
    refine (kexit_yes h hok hm v.a).mono ?_
    rintro e w' ⟨rfl,k',⟨C',h1⟩,h2,h3⟩
    exact ⟨_,rfl,k',C',h1,h2,.inr (.inr ⟨2,i,o,x,y,hw,hm,rfl,h3⟩)⟩
theorem ask_exec (h:KIn W w a k C) (hok:KOk k) (hLd:Laid W)  (hw:(v.w=3)) :
    Calls Tryz.prog 33 #[.pointer (some ⟨a.kb,0,none⟩),.int .i64 v.p] w (AskTo W a k v sh1):=by
  cases hi:mget k.ow v.p with
  | none =>
    refine (kexec_no h hok hi ).mono ?_
    rintro e w' ⟨rfl,t⟩
    exact ⟨7,rfl,k,C,h.still t,hok,.inl ⟨rfl,hi,rfl⟩⟩
  | some i =>
    obtain ⟨o,x,y,hm⟩:=h.mine hok hi
    refine (kexec_yes h hok hm).mono ?_
    rintro e w' ⟨rfl,t',h1,⟨C',h2⟩,h3,h4,h5⟩
    exact ⟨0,rfl,_,C',h2,hok.exec hm h3 h4 h5,.inr (.inr ⟨3,i,o,x,y,hw,hm,rfl,t',h1,rfl⟩)⟩
theorem ask_map (h:KIn W w a k C) (hok:KOk k) (hLd:Laid W)  (hw:(v.w=5∨v.w=6)) :
    Calls Tryz.prog 45 #[.pointer (some ⟨a.kb,0,none⟩),.int .i64 v.p,.int .i64 v.a,.int .i64 v.b,.int .i64 v.c] w (AskTo W a k v sh1):=by
  cases hi:mget k.ow v.p with
  | none =>
    refine (kmap_no h hok hi v.a v.b v.c).mono ?_
    rintro e w' ⟨rfl,t⟩
    exact ⟨7,rfl,k,C,h.still t,hok,.inl ⟨rfl,hi,rfl⟩⟩
  | some i =>
    obtain ⟨o,x,y,hm⟩:=h.mine hok hi
    refine (kmap_yes h hok hm hLd v.a v.b v.c).mono ?_
    rintro e w' ⟨rfl,k',⟨C',h1⟩,h2,h3⟩
    refine ⟨_,rfl,k',C',h1,h2,?_⟩
    rcases hw with hw | hw
    · exact .inr (.inr ⟨5,i,o,x,y,hw,hm,rfl,h3⟩)
    · exact .inr (.inr ⟨6,i,o,x,y,hw,hm,rfl,h3⟩)
theorem ask_unmap (h:KIn W w a k C) (hok:KOk k) (hLd:Laid W)  (hw:(v.w=7)) :
    Calls Tryz.prog 70 #[.pointer (some ⟨a.kb,0,none⟩),.int .i64 v.p,.int .i64 v.a,.int .i64 v.b] w (AskTo W a k v sh1):=by
  cases hi:mget k.ow v.p with
  | none =>
    refine (kunmap_no h hok hi v.a v.b).mono ?_
    rintro e w' ⟨rfl,t⟩
    exact ⟨7,rfl,k,C,h.still t,hok,.inl ⟨rfl,hi,rfl⟩⟩
  | some i =>
    obtain ⟨o,x,y,hm⟩:=h.mine hok hi
    refine (kunmap_yes h hok hm v.a v.b).mono ?_
    rintro e w' ⟨rfl,k',⟨C',h1⟩,h2,h3⟩
    exact ⟨_,rfl,k',C',h1,h2,.inr (.inr ⟨7,i,o,x,y,hw,hm,rfl,h3⟩)⟩
theorem ask_store (h:KIn W w a k C) (hok:KOk k) (hLd:Laid W)  (hw:(v.w=8∨v.w=9∨v.w=10)) :
    Calls Tryz.prog 28 #[.pointer (some ⟨a.kb,0,none⟩),.int .i64 v.p,.int .i64 v.a,.int .i64 v.b,.int .i64 v.c] w (AskTo W a k v sh2):=by
  cases hi:mget k.ow v.p with
  | none =>
    refine (kstore_no h hok hi v.a v.b v.c).mono ?_
    rintro e w' ⟨rfl,t⟩
    exact ⟨7,⟨_,rfl⟩,k,C,h.still t,hok,.inl ⟨rfl,hi,rfl⟩⟩
  | some i =>
    obtain ⟨o,x,y,hm⟩:=h.mine hok hi
    refine (kstore_yes h hok hm hLd v.a v.b v.c).mono ?_
    rintro e w' ⟨row,go,k1,k',z,C',rfl,_,_,hwn,hac,h1,_,h2,h3⟩
    refine ⟨_,⟨_,rfl⟩,k',C',h1,h2,?_⟩
    rcases hw with hw | hw | hw
    · exact .inr (.inr ⟨8,i,o,x,y,hw,hm,go,k1,hwn,hac,h3⟩)
    · exact .inr (.inr ⟨9,i,o,x,y,hw,hm,go,k1,hwn,hac,h3⟩)
    · exact .inr (.inr ⟨10,i,o,x,y,hw,hm,go,k1,hwn,hac,h3⟩)
theorem ask_file (h:KIn W w a k C) (hok:KOk k) (hLd:Laid W) (hs:v.s.size≤100) (hw:(v.w=11∨v.w=12)) :
    Calls Tryz.prog 71 #[.pointer (some ⟨a.kb,0,none⟩),.int .i64 v.p,.string v.s,.int .i64 (1+pk v.a 3),.bool true] w (AskTo W a k v sh2):=by
  cases hi:mget k.ow v.p with
  | none =>
    refine (kfile_no h hok hi v.s (1+pk v.a 3) true).mono ?_
    rintro e w' ⟨rfl,t⟩
    exact ⟨7,⟨_,rfl⟩,k,C,h.still t,hok,.inl ⟨rfl,hi,rfl⟩⟩
  | some i =>
    obtain ⟨o,x,y,hm⟩:=h.mine hok hi
    refine (kfile_yes h hok hm hLd v.s (by omega) (1+pk v.a 3) true).mono ?_
    rintro e w' ⟨rfl,k',⟨C',h1⟩,h2,h3⟩
    refine ⟨_,⟨_,rfl⟩,k',C',h1,h2,?_⟩
    rcases hw with hw | hw
    · exact .inr (.inr ⟨11,i,o,x,y,hw,hm,rfl,h3⟩)
    · exact .inr (.inr ⟨12,i,o,x,y,hw,hm,rfl,h3⟩)
theorem ask_pipe (h:KIn W w a k C) (hok:KOk k) (hLd:Laid W)  (hw:(v.w=13)) :
    Calls Tryz.prog 13 #[.pointer (some ⟨a.kb,0,none⟩),.int .i64 v.p] w (AskTo W a k v sh3):=by
  cases hi:mget k.ow v.p with
  | none =>
    refine (kpipe_no h hok hi ).mono ?_
    rintro e w' ⟨rfl,t⟩
    exact ⟨7,⟨_,_,rfl⟩,k,C,h.still t,hok,.inl ⟨rfl,hi,rfl⟩⟩
  | some i =>
    obtain ⟨o,x,y,hm⟩:=h.mine hok hi
    refine (kpipe_yes h hok hm hLd).mono ?_
    rintro e w' ⟨rfl,k',⟨C',h1⟩,h2,h3⟩
    exact ⟨_,⟨_,_,rfl⟩,k',C',h1,h2,.inr (.inr ⟨13,i,o,x,y,hw,hm,rfl,h3⟩)⟩
theorem ask_dup (h:KIn W w a k C) (hok:KOk k) (hLd:Laid W)  (hw:(v.w=14)) :
    Calls Tryz.prog 72 #[.pointer (some ⟨a.kb,0,none⟩),.int .i64 v.p,.int .i64 v.a] w (AskTo W a k v sh2):=by
  cases hi:mget k.ow v.p with
  | none =>
    refine (kdup_no h hok hi v.a).mono ?_
    rintro e w' ⟨rfl,t⟩
    exact ⟨7,⟨_,rfl⟩,k,C,h.still t,hok,.inl ⟨rfl,hi,rfl⟩⟩
  | some i =>
    obtain ⟨o,x,y,hm⟩:=h.mine hok hi
    refine (kdup_yes h hok hm hLd v.a).mono ?_
    rintro e w' ⟨rfl,k',⟨C',h1⟩,h2,h3⟩
    exact ⟨_,⟨_,rfl⟩,k',C',h1,h2,.inr (.inr ⟨14,i,o,x,y,hw,hm,rfl,h3⟩)⟩
theorem ask_dup2 (h:KIn W w a k C) (hok:KOk k) (hLd:Laid W)  (hw:(v.w=15)) :
    Calls Tryz.prog 73 #[.pointer (some ⟨a.kb,0,none⟩),.int .i64 v.p,.int .i64 v.a,.int .i64 v.b] w (AskTo W a k v sh1):=by
  cases hi:mget k.ow v.p with
  | none =>
    refine (kdup2_no h hok hi v.a v.b).mono ?_
    rintro e w' ⟨rfl,t⟩
    exact ⟨7,rfl,k,C,h.still t,hok,.inl ⟨rfl,hi,rfl⟩⟩
  | some i =>
    obtain ⟨o,x,y,hm⟩:=h.mine hok hi
    refine (kdup2_yes h hok hm hLd v.a v.b).mono ?_
    rintro e w' ⟨rfl,k',⟨C',h1⟩,h2,h3⟩
    exact ⟨_,rfl,k',C',h1,h2,.inr (.inr ⟨15,i,o,x,y,hw,hm,rfl,h3⟩)⟩
theorem ask_close (h:KIn W w a k C) (hok:KOk k) (hLd:Laid W)  (hw:(v.w=16)) :
    Calls Tryz.prog 15 #[.pointer (some ⟨a.kb,0,none⟩),.int .i64 v.p,.int .i64 v.a] w (AskTo W a k v sh1):=by
  cases hi:mget k.ow v.p with
  | none =>
    refine (kclose_no h hok hi v.a).mono ?_
    rintro e w' ⟨rfl,t⟩
    exact ⟨7,rfl,k,C,h.still t,hok,.inl ⟨rfl,hi,rfl⟩⟩
  | some i =>
    obtain ⟨o,x,y,hm⟩:=h.mine hok hi
    refine (kclose_yes h hok hm v.a).mono ?_
    rintro e w' ⟨rfl,k',⟨C',h1⟩,h2,h3⟩
    exact ⟨_,rfl,k',C',h1,h2,.inr (.inr ⟨16,i,o,x,y,hw,hm,rfl,h3⟩)⟩
theorem ask_write (h:KIn W w a k C) (hok:KOk k) (hLd:Laid W) (hs:v.s.size≤100) (hw:(v.w=17)) :
    Calls Tryz.prog 16 #[.pointer (some ⟨a.kb,0,none⟩),.int .i64 v.p,.int .i64 v.a,.string v.s] w (AskTo W a k v sh2):=by
  cases hi:mget k.ow v.p with
  | none =>
    refine (kwrite_no h hok hi v.a v.s).mono ?_
    rintro e w' ⟨rfl,t⟩
    exact ⟨7,⟨_,rfl⟩,k,C,h.still t,hok,.inl ⟨rfl,hi,rfl⟩⟩
  | some i =>
    obtain ⟨o,x,y,hm⟩:=h.mine hok hi
    refine (kwrite_yes h hok hm hLd v.a v.s (by omega)).mono ?_
    rintro e w' ⟨rfl,pf',⟨C',h1⟩,h2,h3,h4,_⟩
    exact ⟨_,⟨_,rfl⟩,_,C',h1,h2,.inr (.inr ⟨17,i,o,x,y,hw,hm,rfl,pf',rfl,h3,h4⟩)⟩
theorem ask_read (h:KIn W w a k C) (hok:KOk k) (hLd:Laid W)  (hw:(v.w=18)) :
    Calls Tryz.prog 19 #[.pointer (some ⟨a.kb,0,none⟩),.int .i64 v.p,.int .i64 v.a,.int .i64 v.b] w (AskTo W a k v sh2):=by
  cases hi:mget k.ow v.p with
  | none =>
    refine (kread_no h hok hi v.a v.b).mono ?_
    rintro e w' ⟨rfl,t⟩
    exact ⟨7,⟨_,rfl⟩,k,C,h.still t,hok,.inl ⟨rfl,hi,rfl⟩⟩
  | some i =>
    obtain ⟨o,x,y,hm⟩:=h.mine hok hi
    refine (kread_yes h hok hm v.a v.b).mono ?_
    rintro e w' ⟨rfl,k',⟨C',h1⟩,h2,h3⟩
    exact ⟨_,⟨_,rfl⟩,k',C',h1,h2,.inr (.inr ⟨18,i,o,x,y,hw,hm,rfl,h3⟩)⟩
theorem ask_limit (h:KIn W w a k C) (hok:KOk k) (hLd:Laid W)  (hw:(v.w=19)) :
    Calls Tryz.prog 23 #[.pointer (some ⟨a.kb,0,none⟩),.int .i64 v.p,.int .i64 v.a,.int .i64 v.b] w (AskTo W a k v sh1):=by
  cases hi:mget k.ow v.p with
  | none =>
    refine (klimit_no h hok hi v.a v.b).mono ?_
    rintro e w' ⟨rfl,t⟩
    exact ⟨7,rfl,k,C,h.still t,hok,.inl ⟨rfl,hi,rfl⟩⟩
  | some i =>
    obtain ⟨o,x,y,hm⟩:=h.mine hok hi
    refine (klimit_yes h hok hm v.a v.b).mono ?_
    rintro e w' ⟨rfl,k',⟨C',h1⟩,h2,h3⟩
    exact ⟨_,rfl,k',C',h1,h2,.inr (.inr ⟨19,i,o,x,y,hw,hm,rfl,h3⟩)⟩
theorem ask_kill (h:KIn W w a k C) (hok:KOk k) (hLd:Laid W)  (hw:(v.w=20)) :
    Calls Tryz.prog 114 #[.pointer (some ⟨a.kb,0,none⟩),.int .i64 v.p,.int .i64 v.a,.int .i64 v.b] w (AskTo W a k v sh1):=by
  cases hi:mget k.ow v.p with
  | none =>
    refine (kkill_no h hok hi v.a v.b).mono ?_
    rintro e w' ⟨rfl,t⟩
    exact ⟨7,rfl,k,C,h.still t,hok,.inl ⟨rfl,hi,rfl⟩⟩
  | some i =>
    obtain ⟨o,x,y,hm⟩:=h.mine hok hi
    refine (kkill_yes h hok hm v.a v.b).mono ?_
    rintro e w' ⟨rfl,pf',⟨C',h1⟩,h2,h3,h4,h5⟩
    exact ⟨_,rfl,_,C',h1,h2,.inr (.inr ⟨20,i,o,x,y,hw,hm,rfl,pf',rfl,h3,h4,h5⟩)⟩
theorem ask_mkdir (h:KIn W w a k C) (hok:KOk k) (hLd:Laid W) (hs:v.s.size≤100) (hw:(v.w=22)) :
    Calls Tryz.prog 158 #[.pointer (some ⟨a.kb,0,none⟩),.int .i64 v.p,.string v.s] w (AskTo W a k v sh1):=by
  cases hi:mget k.ow v.p with
  | none =>
    refine (kmkdir_no h hok hi v.s).mono ?_
    rintro e w' ⟨rfl,t⟩
    exact ⟨7,rfl,k,C,h.still t,hok,.inl ⟨rfl,hi,rfl⟩⟩
  | some i =>
    obtain ⟨o,x,y,hm⟩:=h.mine hok hi
    refine (kmkdir_yes h hok hm v.s (by omega)).mono ?_
    rintro e w' ⟨rfl,k',⟨C',h1⟩,h2,h3⟩
    exact ⟨_,rfl,k',C',h1,h2,.inr (.inr ⟨22,i,o,x,y,hw,hm,rfl,h3⟩)⟩
theorem ask_unlink (h:KIn W w a k C) (hok:KOk k) (hLd:Laid W) (hs:v.s.size≤100) {B:Nat} (hB:∀ n p,mget k.S.T n=some p→p.names≤B∧p.held≤B∧p.ds.length≤B) (hB2:B < 1000000) (hw:(v.w=23)) :
    Calls Tryz.prog 159 #[.pointer (some ⟨a.kb,0,none⟩),.int .i64 v.p,.string v.s] w (AskTo W a k v sh1):=by
  cases hi:mget k.ow v.p with
  | none =>
    refine (kunlink_no h hok hi v.s).mono ?_
    rintro e w' ⟨rfl,t⟩
    exact ⟨7,rfl,k,C,h.still t,hok,.inl ⟨rfl,hi,rfl⟩⟩
  | some i =>
    obtain ⟨o,x,y,hm⟩:=h.mine hok hi
    refine (kunlink_yes h hok hm v.s (by omega) (fun n p hp => by have:=hB n p hp; omega)).mono ?_
    rintro e w' ⟨rfl,k',⟨C',h1⟩,h2,h3⟩
    exact ⟨_,rfl,k',C',h1,h2,.inr (.inr ⟨23,i,o,x,y,hw,hm,rfl,h3⟩)⟩
theorem ask_rename (h:KIn W w a k C) (hok:KOk k) (hLd:Laid W) (hs:v.s.size≤100) (ht:v.t.size≤60) (hw:(v.w=24)) :
    Calls Tryz.prog 160 #[.pointer (some ⟨a.kb,0,none⟩),.int .i64 v.p,.string v.s,.string v.t] w (AskTo W a k v sh1):=by
  cases hi:mget k.ow v.p with
  | none =>
    refine (krename_no h hok hi v.s v.t).mono ?_
    rintro e w' ⟨rfl,t⟩
    exact ⟨7,rfl,k,C,h.still t,hok,.inl ⟨rfl,hi,rfl⟩⟩
  | some i =>
    obtain ⟨o,x,y,hm⟩:=h.mine hok hi
    refine (krename_yes h hok hm v.s v.t (by omega) (by omega)).mono ?_
    rintro e w' ⟨rfl,k',⟨C',h1⟩,h2,h3⟩
    exact ⟨_,rfl,k',C',h1,h2,.inr (.inr ⟨24,i,o,x,y,hw,hm,rfl,h3⟩)⟩
theorem ask_protect (h:KIn W w a k C) (hok:KOk k) (hLd:Laid W)  (hw:(v.w=25)) :
    Calls Tryz.prog 117 #[.pointer (some ⟨a.kb,0,none⟩),.int .i64 v.p,.int .i64 v.a,.int .i64 v.b,.int .i64 v.c] w (AskTo W a k v sh1):=by
  cases hi:mget k.ow v.p with
  | none =>
    refine (kprotect_no h hok hi v.a v.b v.c).mono ?_
    rintro e w' ⟨rfl,t⟩
    exact ⟨7,rfl,k,C,h.still t,hok,.inl ⟨rfl,hi,rfl⟩⟩
  | some i =>
    obtain ⟨o,x,y,hm⟩:=h.mine hok hi
    refine (kprot_yes h hok hm v.a v.b v.c).mono ?_
    rintro e w' ⟨rfl,k',⟨C',h1⟩,h2,h3⟩
    exact ⟨_,rfl,k',C',h1,h2,.inr (.inr ⟨25,i,o,x,y,hw,hm,rfl,h3⟩)⟩
theorem ask_mark (h:KIn W w a k C) (hok:KOk k) (hLd:Laid W)  (hw:(v.w=26)) :
    Calls Tryz.prog 161 #[.pointer (some ⟨a.kb,0,none⟩),.int .i64 v.p,.int .i64 v.a,.bool (decide (0 < v.b))] w (AskTo W a k v sh1):=by
  cases hi:mget k.ow v.p with
  | none =>
    refine (kmark_no h hok hi v.a (decide (0 < v.b))).mono ?_
    rintro e w' ⟨rfl,t⟩
    exact ⟨7,rfl,k,C,h.still t,hok,.inl ⟨rfl,hi,rfl⟩⟩
  | some i =>
    obtain ⟨o,x,y,hm⟩:=h.mine hok hi
    refine (kmark_yes h hok hm v.a (decide (0 < v.b))).mono ?_
    rintro e w' ⟨rfl,k',⟨C',h1⟩,h2,h3⟩
    exact ⟨_,rfl,k',C',h1,h2,.inr (.inr ⟨26,i,o,x,y,hw,hm,rfl,h3⟩)⟩
theorem ask_adjust (h:KIn W w a k C) (hok:KOk k) (hLd:Laid W)  (hw:(v.w=27)) :
    Calls Tryz.prog 116 #[.pointer (some ⟨a.kb,0,none⟩),.int .i64 v.p,.int .i64 v.a] w (AskTo W a k v sh1):=by
  cases hi:mget k.ow v.p with
  | none =>
    refine (kadjust_no h hok hi v.a).mono ?_
    rintro e w' ⟨rfl,t⟩
    exact ⟨7,rfl,k,C,h.still t,hok,.inl ⟨rfl,hi,rfl⟩⟩
  | some i =>
    obtain ⟨o,x,y,hm⟩:=h.mine hok hi
    refine (kadj_yes h hok hm v.a).mono ?_
    rintro e w' ⟨rfl,k',⟨C',h1⟩,h2,h3⟩
    exact ⟨_,rfl,k',C',h1,h2,.inr (.inr ⟨27,i,o,x,y,hw,hm,rfl,h3⟩)⟩
theorem ask_filek {Kx:World→Prop} (hx0:Kx w) (hx:∀ w1 w2,Kx w1→Turn (fun j => C j≠(7,0)∨w.heap.size≤j) w1 w2→Kx w2) (h:KIn W w a k C) (hok:KOk k) (hLd:Laid W) (hs:v.s.size≤100) (hw:(v.w=11∨v.w=12)) :
    Calls Tryz.prog 71 #[.pointer (some ⟨a.kb,0,none⟩),.int .i64 v.p,.string v.s,.int .i64 (1+pk v.a 3),.bool true] w (fun e w' => AskTo W a k v sh2 e w'∧Kx w'):=by
  cases hi:mget k.ow v.p with
  | none =>
    refine (kfile_no h hok hi v.s (1+pk v.a 3) true).mono ?_
    rintro e w' ⟨rfl,t⟩
    exact ⟨⟨7,⟨_,rfl⟩,k,C,h.still t,hok,.inl ⟨rfl,hi,rfl⟩⟩,hx _ _ hx0 (t.mono (fun _ _ h => h.elim))⟩
  | some i =>
    obtain ⟨o,x,y,hm⟩:=h.mine hok hi
    refine (kfile_keep hx0 hx h hok hm hLd v.s (by omega) (1+pk v.a 3) true).mono ?_
    rintro e w' ⟨⟨rfl,k',⟨C',h1⟩,h2,h3⟩,hk⟩
    refine ⟨⟨_,⟨_,rfl⟩,k',C',h1,h2,?_⟩,hk⟩
    rcases hw with hw | hw
    · exact .inr (.inr ⟨11,i,o,x,y,hw,hm,rfl,h3⟩)
    · exact .inr (.inr ⟨12,i,o,x,y,hw,hm,rfl,h3⟩)
theorem ask_wait (h:KIn W w a k C) (hok:KOk k) (hw:v.w=4) :
    Calls Tryz.prog 32 #[.pointer (some ⟨a.kb,0,none⟩),.int .i64 v.p] w (AskTo W a k v sh3):=by
  cases hi:mget k.ow v.p with
  | none =>
    refine (kwait_no h hok hi).mono ?_
    rintro e w' ⟨rfl,t⟩
    exact ⟨7,⟨_,_,rfl⟩,k,C,h.still t,hok,.inl ⟨rfl,hi,rfl⟩⟩
  | some i =>
    obtain ⟨o,x,y,hm⟩:=h.mine hok hi
    refine (kwait_yes h hok (by rw [hi]; rfl)).mono ?_
    rintro e w' (⟨h1,rfl,C',h2⟩ | ⟨h1,h2,rfl,C',h3⟩ | ⟨j,c,b,h1,h2,h3,h4,rfl,⟨C',h5⟩,h6⟩)
    · exact ⟨8,⟨_,_,rfl⟩,k,C',h2,hok,.inr (.inr ⟨4,i,o,x,y,hw,hm,.inl ⟨by decide,rfl⟩⟩)⟩
    · exact ⟨6,⟨_,_,rfl⟩,k,C',h3,hok,.inr (.inr ⟨4,i,o,x,y,hw,hm,.inl ⟨by decide,rfl⟩⟩)⟩
    · exact ⟨0,⟨_,_,rfl⟩,_,C',h5,h6,.inr (.inr ⟨4,i,o,x,y,hw,hm,.inr ⟨rfl,j,c,b,h1,h3,h4,rfl⟩⟩)⟩
theorem ask_signal (h:KIn W w a k C) (hok:KOk k) (hw:v.w=21) :
    Calls Tryz.prog 38 #[.pointer (some ⟨a.kb,0,none⟩),.int .i64 v.p] w (AskTo W a k v sh2):=by
  cases hi:mget k.ow v.p with
  | none =>
    refine (ksignal_no h hok hi).mono ?_
    rintro e w' ⟨rfl,t⟩
    exact ⟨7,⟨_,rfl⟩,k,C,h.still t,hok,.inl ⟨rfl,hi,rfl⟩⟩
  | some i =>
    obtain ⟨o,x,y,hm⟩:=h.mine hok hi
    by_cases h1:v.p=1
    · have hm1:=hm
      rw [h1] at hm1
      obtain ⟨b,hb⟩:=runs_block ((hok.run 1).2 (by rw [hm1.own]; rfl))
      rw [h1]
      refine (ksignal_one h hok hm1 hb).mono ?_
      rintro e w' ⟨rfl,Wt,_,_,⟨C',h2⟩,h3⟩
      exact ⟨0,⟨_,rfl⟩,_,C',h2,h3,.inr (.inr ⟨21,i,o,x,y,hw,hm,rfl,.inr ⟨h1,b,Wt,hb,rfl⟩⟩)⟩
    · refine (ksignal_yes h hok hm h1).mono ?_
      rintro e w' ⟨r,pf',h2,h3,⟨h4,rfl,⟨C',h5⟩,h6⟩ | ⟨h4,rfl,k',⟨C',h5⟩,h6,h7,_⟩⟩
      · exact ⟨0,⟨_,rfl⟩,_,C',h5,h6,.inr (.inr ⟨21,i,o,x,y,hw,hm,rfl,.inl ⟨h1,r,pf',h2,h3,.inl ⟨h4,rfl⟩⟩⟩)⟩
      · exact ⟨0,⟨_,rfl⟩,k',C',h5,h6,.inr (.inr ⟨21,i,o,x,y,hw,hm,rfl,.inl ⟨h1,r,pf',h2,h3,.inr ⟨h4,h7 rfl⟩⟩⟩)⟩
def callA (v:CallV):Value:=.agg #[.int .i64 v.w,.int .i64 v.p,.int .i64 v.a,.int .i64 v.b,.int .i64 v.c,.string v.s,.string v.t]
def KPre (k:KS) (v:CallV):Prop:=k.os.length < 100∧v.s.size≤100∧v.t.size≤60∧∃ B,(∀ n p,mget k.S.T n=some p→p.names≤B∧p.held≤B∧p.ds.length≤B)∧B < 1000000
theorem rare_19 (h:KIn W w a k C) (hok:KOk k) (hLd:Laid W) (hP:KPre k v) (hw:v.w=19):Calls Tryz.prog 74 #[.pointer (some ⟨a.kb,0,none⟩),callA v] w (AskTo W a k v sh1):=by
  obtain ⟨vw,vp,va,vb,vc,vs,vt⟩:=v
  simp only at hw
  subst hw
  have hA:=fun w' (tt:Turn (fun _ => False) w w') => ask_limit (v:=⟨19,vp,va,vb,vc,vs,vt⟩) (h.still tt) hok hLd  rfl
  dsimp only at hA
  have HA:=hid hA
  unfold callA
  dsimp only
  clear h hok hLd hP hA
  go_enter Tryz.func74,Tryz.ntmps74
  go_wp2_with fail
  refine (HA.out _ ((Turn.refl _ _).alloc _)).mono ?_
  rintro e w5 ⟨z,rfl,hX⟩
  have HX:=hid hX
  clear hX
  go_wp2_with fail
  go_returns
  exact ⟨z,rfl,HX.out⟩
theorem rare_20 (h:KIn W w a k C) (hok:KOk k) (hLd:Laid W) (hP:KPre k v) (hw:v.w=20):Calls Tryz.prog 74 #[.pointer (some ⟨a.kb,0,none⟩),callA v] w (AskTo W a k v sh1):=by
  obtain ⟨vw,vp,va,vb,vc,vs,vt⟩:=v
  simp only at hw
  subst hw
  have hA:=fun w' (tt:Turn (fun _ => False) w w') => ask_kill (v:=⟨20,vp,va,vb,vc,vs,vt⟩) (h.still tt) hok hLd  rfl
  dsimp only at hA
  have HA:=hid hA
  unfold callA
  dsimp only
  clear h hok hLd hP hA
  go_enter Tryz.func74,Tryz.ntmps74
  go_wp2_with fail
  refine (HA.out _ ((Turn.refl _ _).alloc _)).mono ?_
  rintro e w5 ⟨z,rfl,hX⟩
  have HX:=hid hX
  clear hX
  go_wp2_with fail
  go_returns
  exact ⟨z,rfl,HX.out⟩
theorem rare_21 (h:KIn W w a k C) (hok:KOk k) (hLd:Laid W) (hP:KPre k v) (hw:v.w=21):Calls Tryz.prog 74 #[.pointer (some ⟨a.kb,0,none⟩),callA v] w (AskTo W a k v sh1):=by
  obtain ⟨vw,vp,va,vb,vc,vs,vt⟩:=v
  simp only at hw
  subst hw
  have hA:=fun w' (tt:Turn (fun _ => False) w w') => ask_signal (v:=⟨21,vp,va,vb,vc,vs,vt⟩) (h.still tt) hok  rfl
  dsimp only at hA
  have HA:=hid hA
  unfold callA
  dsimp only
  clear h hok hLd hP hA
  go_enter Tryz.func74,Tryz.ntmps74
  go_wp2_with fail
  refine (HA.out _ ((Turn.refl _ _).alloc _)).mono ?_
  rintro e w5 ⟨z,⟨u,rfl⟩,hX⟩
  have HX:=hid hX
  clear hX
  go_wp2_with fail
  go_returns
  exact ⟨z,rfl,HX.out⟩
theorem rare_22 (h:KIn W w a k C) (hok:KOk k) (hLd:Laid W) (hP:KPre k v) (hw:v.w=22):Calls Tryz.prog 74 #[.pointer (some ⟨a.kb,0,none⟩),callA v] w (AskTo W a k v sh1):=by
  obtain ⟨vw,vp,va,vb,vc,vs,vt⟩:=v
  simp only at hw
  subst hw
  have hA:=fun w' (tt:Turn (fun _ => False) w w') => ask_mkdir (v:=⟨22,vp,va,vb,vc,vs,vt⟩) (h.still tt) hok hLd hP.2.1 rfl
  dsimp only at hA
  have HA:=hid hA
  unfold callA
  dsimp only
  clear h hok hLd hP hA
  go_enter Tryz.func74,Tryz.ntmps74
  go_wp2_with fail
  refine (HA.out _ ((Turn.refl _ _).alloc _)).mono ?_
  rintro e w5 ⟨z,rfl,hX⟩
  have HX:=hid hX
  clear hX
  go_wp2_with fail
  go_returns
  exact ⟨z,rfl,HX.out⟩
theorem rare_23 (h:KIn W w a k C) (hok:KOk k) (hLd:Laid W) (hP:KPre k v) (hw:v.w=23):Calls Tryz.prog 74 #[.pointer (some ⟨a.kb,0,none⟩),callA v] w (AskTo W a k v sh1):=by
  obtain ⟨vw,vp,va,vb,vc,vs,vt⟩:=v
  simp only at hw
  subst hw
  have hA:=fun w' (tt:Turn (fun _ => False) w w') => ask_unlink (v:=⟨23,vp,va,vb,vc,vs,vt⟩) (h.still tt) hok hLd hP.2.1 hP.2.2.2.choose_spec.1 hP.2.2.2.choose_spec.2 rfl
  dsimp only at hA
  have HA:=hid hA
  unfold callA
  dsimp only
  clear h hok hLd hP hA
  go_enter Tryz.func74,Tryz.ntmps74
  go_wp2_with fail
  refine (HA.out _ ((Turn.refl _ _).alloc _)).mono ?_
  rintro e w5 ⟨z,rfl,hX⟩
  have HX:=hid hX
  clear hX
  go_wp2_with fail
  go_returns
  exact ⟨z,rfl,HX.out⟩
theorem rare_24 (h:KIn W w a k C) (hok:KOk k) (hLd:Laid W) (hP:KPre k v) (hw:v.w=24):Calls Tryz.prog 74 #[.pointer (some ⟨a.kb,0,none⟩),callA v] w (AskTo W a k v sh1):=by
  obtain ⟨vw,vp,va,vb,vc,vs,vt⟩:=v
  simp only at hw
  subst hw
  have hA:=fun w' (tt:Turn (fun _ => False) w w') => ask_rename (v:=⟨24,vp,va,vb,vc,vs,vt⟩) (h.still tt) hok hLd hP.2.1 hP.2.2.1 rfl
  dsimp only at hA
  have HA:=hid hA
  unfold callA
  dsimp only
  clear h hok hLd hP hA
  go_enter Tryz.func74,Tryz.ntmps74
  go_wp2_with fail
  refine (HA.out _ ((Turn.refl _ _).alloc _)).mono ?_
  rintro e w5 ⟨z,rfl,hX⟩
  have HX:=hid hX
  clear hX
  go_wp2_with fail
  go_returns
  exact ⟨z,rfl,HX.out⟩
theorem rare_25 (h:KIn W w a k C) (hok:KOk k) (hLd:Laid W) (hP:KPre k v) (hw:v.w=25):Calls Tryz.prog 74 #[.pointer (some ⟨a.kb,0,none⟩),callA v] w (AskTo W a k v sh1):=by
  obtain ⟨vw,vp,va,vb,vc,vs,vt⟩:=v
  simp only at hw
  subst hw
  have hA:=fun w' (tt:Turn (fun _ => False) w w') => ask_protect (v:=⟨25,vp,va,vb,vc,vs,vt⟩) (h.still tt) hok hLd  rfl
  dsimp only at hA
  have HA:=hid hA
  unfold callA
  dsimp only
  clear h hok hLd hP hA
  go_enter Tryz.func74,Tryz.ntmps74
  go_wp2_with fail
  refine (HA.out _ ((Turn.refl _ _).alloc _)).mono ?_
  rintro e w5 ⟨z,rfl,hX⟩
  have HX:=hid hX
  clear hX
  go_wp2_with fail
  go_returns
  exact ⟨z,rfl,HX.out⟩
theorem rare_26 (h:KIn W w a k C) (hok:KOk k) (hLd:Laid W) (hP:KPre k v) (hw:v.w=26):Calls Tryz.prog 74 #[.pointer (some ⟨a.kb,0,none⟩),callA v] w (AskTo W a k v sh1):=by
  obtain ⟨vw,vp,va,vb,vc,vs,vt⟩:=v
  simp only at hw
  subst hw
  have hA:=fun w' (tt:Turn (fun _ => False) w w') => ask_mark (v:=⟨26,vp,va,vb,vc,vs,vt⟩) (h.still tt) hok hLd  rfl
  dsimp only at hA
  have HA:=hid hA
  unfold callA
  dsimp only
  clear h hok hLd hP hA
  go_enter Tryz.func74,Tryz.ntmps74
  go_wp2_with fail
  refine (HA.out _ ((Turn.refl _ _).alloc _)).mono ?_
  rintro e w5 ⟨z,rfl,hX⟩
  have HX:=hid hX
  clear hX
  go_wp2_with fail
  go_returns
  exact ⟨z,rfl,HX.out⟩
theorem rare_27 (h:KIn W w a k C) (hok:KOk k) (hLd:Laid W) (hP:KPre k v) (hw:v.w=27):Calls Tryz.prog 74 #[.pointer (some ⟨a.kb,0,none⟩),callA v] w (AskTo W a k v sh1):=by
  obtain ⟨vw,vp,va,vb,vc,vs,vt⟩:=v
  simp only at hw
  subst hw
  have hA:=fun w' (tt:Turn (fun _ => False) w w') => ask_adjust (v:=⟨27,vp,va,vb,vc,vs,vt⟩) (h.still tt) hok hLd  rfl
  dsimp only at hA
  have HA:=hid hA
  unfold callA
  dsimp only
  clear h hok hLd hP hA
  go_enter Tryz.func74,Tryz.ntmps74
  go_wp2_with fail
  refine (HA.out _ ((Turn.refl _ _).alloc _)).mono ?_
  rintro e w5 ⟨z,rfl,hX⟩
  have HX:=hid hX
  clear hX
  go_wp2_with fail
  go_returns
  exact ⟨z,rfl,HX.out⟩
theorem rare_other (h:KIn W w a k C) (hok:KOk k) (hLd:Laid W) (hP:KPre k v) (hw:v.w < 19∨27 < v.w) (hw2:¬ (0≤v.w∧v.w < 19)):Calls Tryz.prog 74 #[.pointer (some ⟨a.kb,0,none⟩),callA v] w (AskTo W a k v sh1):=by
  obtain ⟨vw,vp,va,vb,vc,vs,vt⟩:=v
  simp only at hw
  have n19:(vw == 19)=false:=by rw [beq_eq_false_iff_ne]; omega
  have n20:(vw == 20)=false:=by rw [beq_eq_false_iff_ne]; omega
  have n21:(vw == 21)=false:=by rw [beq_eq_false_iff_ne]; omega
  have n22:(vw == 22)=false:=by rw [beq_eq_false_iff_ne]; omega
  have n23:(vw == 23)=false:=by rw [beq_eq_false_iff_ne]; omega
  have n24:(vw == 24)=false:=by rw [beq_eq_false_iff_ne]; omega
  have n25:(vw == 25)=false:=by rw [beq_eq_false_iff_ne]; omega
  have n26:(vw == 26)=false:=by rw [beq_eq_false_iff_ne]; omega
  have n27:(vw == 27)=false:=by rw [beq_eq_false_iff_ne]; omega
  have HX:=hid (show ∀ w',Turn (fun _ => False) w w'→AskTo W a k ⟨vw,vp,va,vb,vc,vs,vt⟩ sh1 (.returned .nilIface) w' from fun w' tt => ⟨0,rfl,k,C,h.still tt,hok,.inr (.inl ⟨by simp only at hw2 ⊢; omega,rfl,rfl⟩)⟩)
  unfold callA
  dsimp only
  clear h hok hLd hP hw hw2
  go_enter Tryz.func74,Tryz.ntmps74
  go_wp2_with fail
  go_returns
  exact HX.out _ ((Turn.refl _ _).alloc _)
theorem rare_is (h:KIn W w a k C) (hok:KOk k) (hLd:Laid W) (hP:KPre k v) (hw:¬ (0≤v.w∧v.w < 19)):Calls Tryz.prog 74 #[.pointer (some ⟨a.kb,0,none⟩),callA v] w (AskTo W a k v sh1):=by
  by_cases hx:v.w < 19∨27 < v.w
  · exact rare_other h hok hLd hP hx hw
  · have:v.w=19∨v.w=20∨v.w=21∨v.w=22∨v.w=23∨v.w=24∨v.w=25∨v.w=26∨v.w=27:=by omega
    rcases this with e | e | e | e | e | e | e | e | e
    · exact rare_19 h hok hLd hP e
    · exact rare_20 h hok hLd hP e
    · exact rare_21 h hok hLd hP e
    · exact rare_22 h hok hLd hP e
    · exact rare_23 h hok hLd hP e
    · exact rare_24 h hok hLd hP e
    · exact rare_25 h hok hLd hP e
    · exact rare_26 h hok hLd hP e
    · exact rare_27 h hok hLd hP e
theorem call_0 (h:KIn W w a k C) (hok:KOk k) (hLd:Laid W) (hP:KPre k v) (hw:v.w=0):Calls Tryz.prog 24 #[.pointer (some ⟨a.kb,0,none⟩),callA v] w (AskTo W a k v sh1):=by
  obtain ⟨vw,vp,va,vb,vc,vs,vt⟩:=v
  simp only at hw
  subst hw
  have hA:=fun w' (tt:Turn (fun _ => False) w w') => ask_fork (v:=⟨0,vp,va,vb,vc,vs,vt⟩) (h.still tt) hok hLd hP.1 (.inl rfl)
  dsimp only at hA
  have HA:=hid hA
  unfold callA
  dsimp only
  clear h hok hLd hP hA
  go_enter Tryz.func24,Tryz.ntmps24
  go_wp2_with fail
  refine (HA.out _ ((Turn.refl _ _).alloc _)).mono ?_
  rintro e w5 ⟨z,⟨u,rfl⟩,hX⟩
  have HX:=hid hX
  clear hX
  go_wp2_with fail
  go_returns
  exact ⟨z,rfl,HX.out⟩
theorem call_1 (h:KIn W w a k C) (hok:KOk k) (hLd:Laid W) (hP:KPre k v) (hw:v.w=1):Calls Tryz.prog 24 #[.pointer (some ⟨a.kb,0,none⟩),callA v] w (AskTo W a k v sh1):=by
  obtain ⟨vw,vp,va,vb,vc,vs,vt⟩:=v
  simp only at hw
  subst hw
  have hA:=fun w' (tt:Turn (fun _ => False) w w') => ask_fork (v:=⟨1,vp,va,vb,vc,vs,vt⟩) (h.still tt) hok hLd hP.1 (.inr rfl)
  dsimp only at hA
  have HA:=hid hA
  unfold callA
  dsimp only
  clear h hok hLd hP hA
  go_enter Tryz.func24,Tryz.ntmps24
  go_wp2_with fail
  refine (HA.out _ ((Turn.refl _ _).alloc _)).mono ?_
  rintro e w5 ⟨z,⟨u,rfl⟩,hX⟩
  have HX:=hid hX
  clear hX
  go_wp2_with fail
  go_returns
  exact ⟨z,rfl,HX.out⟩
theorem call_2 (h:KIn W w a k C) (hok:KOk k) (hLd:Laid W) (hP:KPre k v) (hw:v.w=2):Calls Tryz.prog 24 #[.pointer (some ⟨a.kb,0,none⟩),callA v] w (AskTo W a k v sh1):=by
  obtain ⟨vw,vp,va,vb,vc,vs,vt⟩:=v
  simp only at hw
  subst hw
  have hA:=fun w' (tt:Turn (fun _ => False) w w') => ask_exit (v:=⟨2,vp,va,vb,vc,vs,vt⟩) (h.still tt) hok hLd  rfl
  dsimp only at hA
  have HA:=hid hA
  unfold callA
  dsimp only
  clear h hok hLd hP hA
  go_enter Tryz.func24,Tryz.ntmps24
  go_wp2_with fail
  refine (HA.out _ ((Turn.refl _ _).alloc _)).mono ?_
  rintro e w5 ⟨z,rfl,hX⟩
  have HX:=hid hX
  clear hX
  go_wp2_with fail
  go_returns
  exact ⟨z,rfl,HX.out⟩
theorem call_3 (h:KIn W w a k C) (hok:KOk k) (hLd:Laid W) (hP:KPre k v) (hw:v.w=3):Calls Tryz.prog 24 #[.pointer (some ⟨a.kb,0,none⟩),callA v] w (AskTo W a k v sh1):=by
  obtain ⟨vw,vp,va,vb,vc,vs,vt⟩:=v
  simp only at hw
  subst hw
  have hA:=fun w' (tt:Turn (fun _ => False) w w') => ask_exec (v:=⟨3,vp,va,vb,vc,vs,vt⟩) (h.still tt) hok hLd  rfl
  dsimp only at hA
  have HA:=hid hA
  unfold callA
  dsimp only
  clear h hok hLd hP hA
  go_enter Tryz.func24,Tryz.ntmps24
  go_wp2_with fail
  refine (HA.out _ ((Turn.refl _ _).alloc _)).mono ?_
  rintro e w5 ⟨z,rfl,hX⟩
  have HX:=hid hX
  clear hX
  go_wp2_with fail
  go_returns
  exact ⟨z,rfl,HX.out⟩
theorem call_4 (h:KIn W w a k C) (hok:KOk k) (hLd:Laid W) (hP:KPre k v) (hw:v.w=4):Calls Tryz.prog 24 #[.pointer (some ⟨a.kb,0,none⟩),callA v] w (AskTo W a k v sh1):=by
  obtain ⟨vw,vp,va,vb,vc,vs,vt⟩:=v
  simp only at hw
  subst hw
  have hA:=fun w' (tt:Turn (fun _ => False) w w') => ask_wait (v:=⟨4,vp,va,vb,vc,vs,vt⟩) (h.still tt) hok  rfl
  dsimp only at hA
  have HA:=hid hA
  unfold callA
  dsimp only
  clear h hok hLd hP hA
  go_enter Tryz.func24,Tryz.ntmps24
  go_wp2_with fail
  refine (HA.out _ ((Turn.refl _ _).alloc _)).mono ?_
  rintro e w5 ⟨z,⟨u1,u2,rfl⟩,hX⟩
  have HX:=hid hX
  clear hX
  go_wp2_with fail
  go_returns
  exact ⟨z,rfl,HX.out⟩
theorem call_5 (h:KIn W w a k C) (hok:KOk k) (hLd:Laid W) (hP:KPre k v) (hw:v.w=5):Calls Tryz.prog 24 #[.pointer (some ⟨a.kb,0,none⟩),callA v] w (AskTo W a k v sh1):=by
  obtain ⟨vw,vp,va,vb,vc,vs,vt⟩:=v
  simp only at hw
  subst hw
  have hA:=fun w' (tt:Turn (fun _ => False) w w') => ask_map (v:=⟨5,vp,va,vb,vc,vs,vt⟩) (h.still tt) hok hLd  (.inl rfl)
  dsimp only at hA
  have HA:=hid hA
  unfold callA
  dsimp only
  clear h hok hLd hP hA
  go_enter Tryz.func24,Tryz.ntmps24
  go_wp2_with fail
  refine (HA.out _ ((Turn.refl _ _).alloc _)).mono ?_
  rintro e w5 ⟨z,rfl,hX⟩
  have HX:=hid hX
  clear hX
  go_wp2_with fail
  go_returns
  exact ⟨z,rfl,HX.out⟩
theorem call_6 (h:KIn W w a k C) (hok:KOk k) (hLd:Laid W) (hP:KPre k v) (hw:v.w=6):Calls Tryz.prog 24 #[.pointer (some ⟨a.kb,0,none⟩),callA v] w (AskTo W a k v sh1):=by
  obtain ⟨vw,vp,va,vb,vc,vs,vt⟩:=v
  simp only at hw
  subst hw
  have hA:=fun w' (tt:Turn (fun _ => False) w w') => ask_map (v:=⟨6,vp,va,vb,vc,vs,vt⟩) (h.still tt) hok hLd  (.inr rfl)
  dsimp only at hA
  have HA:=hid hA
  unfold callA
  dsimp only
  clear h hok hLd hP hA
  go_enter Tryz.func24,Tryz.ntmps24
  go_wp2_with fail
  refine (HA.out _ ((Turn.refl _ _).alloc _)).mono ?_
  rintro e w5 ⟨z,rfl,hX⟩
  have HX:=hid hX
  clear hX
  go_wp2_with fail
  go_returns
  exact ⟨z,rfl,HX.out⟩
theorem call_7 (h:KIn W w a k C) (hok:KOk k) (hLd:Laid W) (hP:KPre k v) (hw:v.w=7):Calls Tryz.prog 24 #[.pointer (some ⟨a.kb,0,none⟩),callA v] w (AskTo W a k v sh1):=by
  obtain ⟨vw,vp,va,vb,vc,vs,vt⟩:=v
  simp only at hw
  subst hw
  have hA:=fun w' (tt:Turn (fun _ => False) w w') => ask_unmap (v:=⟨7,vp,va,vb,vc,vs,vt⟩) (h.still tt) hok hLd  rfl
  dsimp only at hA
  have HA:=hid hA
  unfold callA
  dsimp only
  clear h hok hLd hP hA
  go_enter Tryz.func24,Tryz.ntmps24
  go_wp2_with fail
  refine (HA.out _ ((Turn.refl _ _).alloc _)).mono ?_
  rintro e w5 ⟨z,rfl,hX⟩
  have HX:=hid hX
  clear hX
  go_wp2_with fail
  go_returns
  exact ⟨z,rfl,HX.out⟩
theorem call_8 (h:KIn W w a k C) (hok:KOk k) (hLd:Laid W) (hP:KPre k v) (hw:v.w=8):Calls Tryz.prog 24 #[.pointer (some ⟨a.kb,0,none⟩),callA v] w (AskTo W a k v sh1):=by
  obtain ⟨vw,vp,va,vb,vc,vs,vt⟩:=v
  simp only at hw
  subst hw
  have hA:=fun w' (tt:Turn (fun _ => False) w w') => ask_store (v:=⟨8,vp,va,vb,vc,vs,vt⟩) (h.still tt) hok hLd  (.inl rfl)
  dsimp only at hA
  have HA:=hid hA
  unfold callA
  dsimp only
  clear h hok hLd hP hA
  go_enter Tryz.func24,Tryz.ntmps24
  go_wp2_with fail
  refine (HA.out _ ((Turn.refl _ _).alloc _)).mono ?_
  rintro e w5 ⟨z,⟨u,rfl⟩,hX⟩
  have HX:=hid hX
  clear hX
  go_wp2_with fail
  go_returns
  exact ⟨z,rfl,HX.out⟩
theorem call_9 (h:KIn W w a k C) (hok:KOk k) (hLd:Laid W) (hP:KPre k v) (hw:v.w=9):Calls Tryz.prog 24 #[.pointer (some ⟨a.kb,0,none⟩),callA v] w (AskTo W a k v sh1):=by
  obtain ⟨vw,vp,va,vb,vc,vs,vt⟩:=v
  simp only at hw
  subst hw
  have hA:=fun w' (tt:Turn (fun _ => False) w w') => ask_store (v:=⟨9,vp,va,vb,vc,vs,vt⟩) (h.still tt) hok hLd  (.inr (.inl rfl))
  dsimp only at hA
  have HA:=hid hA
  unfold callA
  dsimp only
  clear h hok hLd hP hA
  go_enter Tryz.func24,Tryz.ntmps24
  go_wp2_with fail
  refine (HA.out _ ((Turn.refl _ _).alloc _)).mono ?_
  rintro e w5 ⟨z,⟨u,rfl⟩,hX⟩
  have HX:=hid hX
  clear hX
  go_wp2_with fail
  go_returns
  exact ⟨z,rfl,HX.out⟩
theorem call_10 (h:KIn W w a k C) (hok:KOk k) (hLd:Laid W) (hP:KPre k v) (hw:v.w=10):Calls Tryz.prog 24 #[.pointer (some ⟨a.kb,0,none⟩),callA v] w (AskTo W a k v sh1):=by
  obtain ⟨vw,vp,va,vb,vc,vs,vt⟩:=v
  simp only at hw
  subst hw
  have hA:=fun w' (tt:Turn (fun _ => False) w w') => ask_store (v:=⟨10,vp,va,vb,vc,vs,vt⟩) (h.still tt) hok hLd  (.inr (.inr rfl))
  dsimp only at hA
  have HA:=hid hA
  unfold callA
  dsimp only
  clear h hok hLd hP hA
  go_enter Tryz.func24,Tryz.ntmps24
  go_wp2_with fail
  refine (HA.out _ ((Turn.refl _ _).alloc _)).mono ?_
  rintro e w5 ⟨z,⟨u,rfl⟩,hX⟩
  have HX:=hid hX
  clear hX
  go_wp2_with fail
  go_returns
  exact ⟨z,rfl,HX.out⟩
theorem call_11 (h:KIn W w a k C) (hok:KOk k) (hLd:Laid W) (hP:KPre k v) (hw:v.w=11):Calls Tryz.prog 24 #[.pointer (some ⟨a.kb,0,none⟩),callA v] w (AskTo W a k v sh1):=by
  obtain ⟨vw,vp,va,vb,vc,vs,vt⟩:=v
  simp only at hw
  subst hw
  have t1:Turn (fun _ => False) w (w.alloc (.cells #[.int .i64 11,.int .i64 vp,.int .i64 va,.int .i64 vb,.int .i64 vc,.string vs,.string vt] 47)):=(Turn.refl _ _).alloc _
  have hsz:(w.alloc (.cells #[.int .i64 11,.int .i64 vp,.int .i64 va,.int .i64 vb,.int .i64 vc,.string vs,.string vt] 47)).heap.size=w.heap.size+1:=World.size_alloc _ _
  have hK0:(w.alloc (.cells #[.int .i64 11,.int .i64 vp,.int .i64 va,.int .i64 vb,.int .i64 vc,.string vs,.string vt] 47)).drew.cell? ⟨w.heap.size,1,none⟩=some (.int .i64 vp)∧(w.alloc (.cells #[.int .i64 11,.int .i64 vp,.int .i64 va,.int .i64 vb,.int .i64 vc,.string vs,.string vt] 47)).drew.cell? ⟨w.heap.size,2,none⟩=some (.int .i64 va)∧(w.alloc (.cells #[.int .i64 11,.int .i64 vp,.int .i64 va,.int .i64 vb,.int .i64 vc,.string vs,.string vt] 47)).drew.cell? ⟨w.heap.size,5,none⟩=some (.string vs):=⟨by simp,by simp,by simp⟩
  have hM:=(h.marked t1 (fun j => j=w.heap.size) (fun j hj => ⟨by omega,by omega⟩)).drewS
  have hA:=ask_filek (v:=⟨11,vp,va,vb,vc,vs,vt⟩) (Kx:=fun w' => w'.cell? ⟨w.heap.size,1,none⟩=some (.int .i64 vp)∧w'.cell? ⟨w.heap.size,2,none⟩=some (.int .i64 va)∧w'.cell? ⟨w.heap.size,5,none⟩=some (.string vs)) hK0 (fun w1 w2 h1 t => by
    have hn:¬ (markF C (fun j => j=w.heap.size) (7,0) w.heap.size≠(7,0)∨(w.alloc (.cells #[.int .i64 11,.int .i64 vp,.int .i64 va,.int .i64 vb,.int .i64 vc,.string vs,.string vt] 47)).drew.heap.size≤w.heap.size):=by
      rintro (h9 | h9)
      · exact h9 (markF_in rfl)
      · have h9:(w.alloc (.cells #[.int .i64 11,.int .i64 vp,.int .i64 va,.int .i64 vb,.int .i64 vc,.string vs,.string vt] 47)).heap.size≤w.heap.size:=h9
        omega
    exact ⟨(t.cell (lt_of_cell h1.1) hn).trans h1.1,(t.cell (lt_of_cell h1.2.1) hn).trans h1.2.1,(t.cell (lt_of_cell h1.2.2) hn).trans h1.2.2⟩) hM hok hLd hP.2.1 (.inl rfl)
  have HKx0:=hid hK0
  clear t1 hsz hK0 hM
  dsimp only at hA
  have HA:=hid hA
  unfold callA
  dsimp only
  clear h hok hLd hP hA
  go_enter Tryz.func24,Tryz.ntmps24
  have HPk:=hid (fun w' => pick_any va 3 w' (by decide) (by decide))
  have hp3:=pk_lt va 3 (by decide)
  have hp0:=pk_nonneg va 3 (by decide)
  have hwr:IntKind.i64.wrap (1+pk va 3)=1+pk va 3:=IntWalk.i64_in _ (by omega)
  go_wp2_with fail
  go_region_held3 (fun w' => w'.cell? ⟨w.heap.size,1,none⟩=some (.int .i64 vp)∧w'.cell? ⟨w.heap.size,2,none⟩=some (.int .i64 va)∧w'.cell? ⟨w.heap.size,5,none⟩=some (.string vs))
    (first | exact HKx0.out | exact HKx6.out | go_keep)
    (first | (go_at_call 18; refine (HPk.out _).mono ?_; rintro e w5 ⟨rfl,hw5⟩; subst w5) | (go_at_call 71; (try rw [hwr]); (with_reducible refine HA.out.mono ?_); rintro e w6 ⟨⟨z,⟨u,rfl⟩,hX⟩,hk6⟩; have HX:=hid hX; have HKx6:=hid hk6; clear hX hk6))
  all_goals go_wp2_with fail
  all_goals go_returns
  all_goals exact ⟨z,rfl,HX.out⟩
theorem call_12 (h:KIn W w a k C) (hok:KOk k) (hLd:Laid W) (hP:KPre k v) (hw:v.w=12):Calls Tryz.prog 24 #[.pointer (some ⟨a.kb,0,none⟩),callA v] w (AskTo W a k v sh1):=by
  obtain ⟨vw,vp,va,vb,vc,vs,vt⟩:=v
  simp only at hw
  subst hw
  have t1:Turn (fun _ => False) w (w.alloc (.cells #[.int .i64 12,.int .i64 vp,.int .i64 va,.int .i64 vb,.int .i64 vc,.string vs,.string vt] 47)):=(Turn.refl _ _).alloc _
  have hsz:(w.alloc (.cells #[.int .i64 12,.int .i64 vp,.int .i64 va,.int .i64 vb,.int .i64 vc,.string vs,.string vt] 47)).heap.size=w.heap.size+1:=World.size_alloc _ _
  have hK0:(w.alloc (.cells #[.int .i64 12,.int .i64 vp,.int .i64 va,.int .i64 vb,.int .i64 vc,.string vs,.string vt] 47)).drew.cell? ⟨w.heap.size,1,none⟩=some (.int .i64 vp)∧(w.alloc (.cells #[.int .i64 12,.int .i64 vp,.int .i64 va,.int .i64 vb,.int .i64 vc,.string vs,.string vt] 47)).drew.cell? ⟨w.heap.size,2,none⟩=some (.int .i64 va)∧(w.alloc (.cells #[.int .i64 12,.int .i64 vp,.int .i64 va,.int .i64 vb,.int .i64 vc,.string vs,.string vt] 47)).drew.cell? ⟨w.heap.size,5,none⟩=some (.string vs):=⟨by simp,by simp,by simp⟩
  have hM:=(h.marked t1 (fun j => j=w.heap.size) (fun j hj => ⟨by omega,by omega⟩)).drewS
  have hA:=ask_filek (v:=⟨12,vp,va,vb,vc,vs,vt⟩) (Kx:=fun w' => w'.cell? ⟨w.heap.size,1,none⟩=some (.int .i64 vp)∧w'.cell? ⟨w.heap.size,2,none⟩=some (.int .i64 va)∧w'.cell? ⟨w.heap.size,5,none⟩=some (.string vs)) hK0 (fun w1 w2 h1 t => by
    have hn:¬ (markF C (fun j => j=w.heap.size) (7,0) w.heap.size≠(7,0)∨(w.alloc (.cells #[.int .i64 12,.int .i64 vp,.int .i64 va,.int .i64 vb,.int .i64 vc,.string vs,.string vt] 47)).drew.heap.size≤w.heap.size):=by
      rintro (h9 | h9)
      · exact h9 (markF_in rfl)
      · have h9:(w.alloc (.cells #[.int .i64 12,.int .i64 vp,.int .i64 va,.int .i64 vb,.int .i64 vc,.string vs,.string vt] 47)).heap.size≤w.heap.size:=h9
        omega
    exact ⟨(t.cell (lt_of_cell h1.1) hn).trans h1.1,(t.cell (lt_of_cell h1.2.1) hn).trans h1.2.1,(t.cell (lt_of_cell h1.2.2) hn).trans h1.2.2⟩) hM hok hLd hP.2.1 (.inr rfl)
  have HKx0:=hid hK0
  clear t1 hsz hK0 hM
  dsimp only at hA
  have HA:=hid hA
  unfold callA
  dsimp only
  clear h hok hLd hP hA
  go_enter Tryz.func24,Tryz.ntmps24
  have HPk:=hid (fun w' => pick_any va 3 w' (by decide) (by decide))
  have hp3:=pk_lt va 3 (by decide)
  have hp0:=pk_nonneg va 3 (by decide)
  have hwr:IntKind.i64.wrap (1+pk va 3)=1+pk va 3:=IntWalk.i64_in _ (by omega)
  go_wp2_with fail
  go_region_held3 (fun w' => w'.cell? ⟨w.heap.size,1,none⟩=some (.int .i64 vp)∧w'.cell? ⟨w.heap.size,2,none⟩=some (.int .i64 va)∧w'.cell? ⟨w.heap.size,5,none⟩=some (.string vs))
    (first | exact HKx0.out | exact HKx6.out | go_keep)
    (first | (go_at_call 18; refine (HPk.out _).mono ?_; rintro e w5 ⟨rfl,hw5⟩; subst w5) | (go_at_call 71; (try rw [hwr]); (with_reducible refine HA.out.mono ?_); rintro e w6 ⟨⟨z,⟨u,rfl⟩,hX⟩,hk6⟩; have HX:=hid hX; have HKx6:=hid hk6; clear hX hk6))
  all_goals go_wp2_with fail
  all_goals go_returns
  all_goals exact ⟨z,rfl,HX.out⟩
theorem call_13 (h:KIn W w a k C) (hok:KOk k) (hLd:Laid W) (hP:KPre k v) (hw:v.w=13):Calls Tryz.prog 24 #[.pointer (some ⟨a.kb,0,none⟩),callA v] w (AskTo W a k v sh1):=by
  obtain ⟨vw,vp,va,vb,vc,vs,vt⟩:=v
  simp only at hw
  subst hw
  have hA:=fun w' (tt:Turn (fun _ => False) w w') => ask_pipe (v:=⟨13,vp,va,vb,vc,vs,vt⟩) (h.still tt) hok hLd  rfl
  dsimp only at hA
  have HA:=hid hA
  unfold callA
  dsimp only
  clear h hok hLd hP hA
  go_enter Tryz.func24,Tryz.ntmps24
  go_wp2_with fail
  refine (HA.out _ ((Turn.refl _ _).alloc _)).mono ?_
  rintro e w5 ⟨z,⟨u1,u2,rfl⟩,hX⟩
  have HX:=hid hX
  clear hX
  go_wp2_with fail
  go_returns
  exact ⟨z,rfl,HX.out⟩
theorem call_14 (h:KIn W w a k C) (hok:KOk k) (hLd:Laid W) (hP:KPre k v) (hw:v.w=14):Calls Tryz.prog 24 #[.pointer (some ⟨a.kb,0,none⟩),callA v] w (AskTo W a k v sh1):=by
  obtain ⟨vw,vp,va,vb,vc,vs,vt⟩:=v
  simp only at hw
  subst hw
  have hA:=fun w' (tt:Turn (fun _ => False) w w') => ask_dup (v:=⟨14,vp,va,vb,vc,vs,vt⟩) (h.still tt) hok hLd  rfl
  dsimp only at hA
  have HA:=hid hA
  unfold callA
  dsimp only
  clear h hok hLd hP hA
  go_enter Tryz.func24,Tryz.ntmps24
  go_wp2_with fail
  refine (HA.out _ ((Turn.refl _ _).alloc _)).mono ?_
  rintro e w5 ⟨z,⟨u,rfl⟩,hX⟩
  have HX:=hid hX
  clear hX
  go_wp2_with fail
  go_returns
  exact ⟨z,rfl,HX.out⟩
theorem call_15 (h:KIn W w a k C) (hok:KOk k) (hLd:Laid W) (hP:KPre k v) (hw:v.w=15):Calls Tryz.prog 24 #[.pointer (some ⟨a.kb,0,none⟩),callA v] w (AskTo W a k v sh1):=by
  obtain ⟨vw,vp,va,vb,vc,vs,vt⟩:=v
  simp only at hw
  subst hw
  have hA:=fun w' (tt:Turn (fun _ => False) w w') => ask_dup2 (v:=⟨15,vp,va,vb,vc,vs,vt⟩) (h.still tt) hok hLd  rfl
  dsimp only at hA
  have HA:=hid hA
  unfold callA
  dsimp only
  clear h hok hLd hP hA
  go_enter Tryz.func24,Tryz.ntmps24
  go_wp2_with fail
  refine (HA.out _ ((Turn.refl _ _).alloc _)).mono ?_
  rintro e w5 ⟨z,rfl,hX⟩
  have HX:=hid hX
  clear hX
  go_wp2_with fail
  go_returns
  exact ⟨z,rfl,HX.out⟩
theorem call_16 (h:KIn W w a k C) (hok:KOk k) (hLd:Laid W) (hP:KPre k v) (hw:v.w=16):Calls Tryz.prog 24 #[.pointer (some ⟨a.kb,0,none⟩),callA v] w (AskTo W a k v sh1):=by
  obtain ⟨vw,vp,va,vb,vc,vs,vt⟩:=v
  simp only at hw
  subst hw
  have hA:=fun w' (tt:Turn (fun _ => False) w w') => ask_close (v:=⟨16,vp,va,vb,vc,vs,vt⟩) (h.still tt) hok hLd  rfl
  dsimp only at hA
  have HA:=hid hA
  unfold callA
  dsimp only
  clear h hok hLd hP hA
  go_enter Tryz.func24,Tryz.ntmps24
  go_wp2_with fail
  refine (HA.out _ ((Turn.refl _ _).alloc _)).mono ?_
  rintro e w5 ⟨z,rfl,hX⟩
  have HX:=hid hX
  clear hX
  go_wp2_with fail
  go_returns
  exact ⟨z,rfl,HX.out⟩
theorem call_17 (h:KIn W w a k C) (hok:KOk k) (hLd:Laid W) (hP:KPre k v) (hw:v.w=17):Calls Tryz.prog 24 #[.pointer (some ⟨a.kb,0,none⟩),callA v] w (AskTo W a k v sh1):=by
  obtain ⟨vw,vp,va,vb,vc,vs,vt⟩:=v
  simp only at hw
  subst hw
  have hA:=fun w' (tt:Turn (fun _ => False) w w') => ask_write (v:=⟨17,vp,va,vb,vc,vs,vt⟩) (h.still tt) hok hLd hP.2.1 rfl
  dsimp only at hA
  have HA:=hid hA
  unfold callA
  dsimp only
  clear h hok hLd hP hA
  go_enter Tryz.func24,Tryz.ntmps24
  go_wp2_with fail
  refine (HA.out _ ((Turn.refl _ _).alloc _)).mono ?_
  rintro e w5 ⟨z,⟨u,rfl⟩,hX⟩
  have HX:=hid hX
  clear hX
  go_wp2_with fail
  go_returns
  exact ⟨z,rfl,HX.out⟩
theorem call_18 (h:KIn W w a k C) (hok:KOk k) (hLd:Laid W) (hP:KPre k v) (hw:v.w=18):Calls Tryz.prog 24 #[.pointer (some ⟨a.kb,0,none⟩),callA v] w (AskTo W a k v sh1):=by
  obtain ⟨vw,vp,va,vb,vc,vs,vt⟩:=v
  simp only at hw
  subst hw
  have hA:=fun w' (tt:Turn (fun _ => False) w w') => ask_read (v:=⟨18,vp,va,vb,vc,vs,vt⟩) (h.still tt) hok hLd  rfl
  dsimp only at hA
  have HA:=hid hA
  unfold callA
  dsimp only
  clear h hok hLd hP hA
  go_enter Tryz.func24,Tryz.ntmps24
  go_wp2_with fail
  refine (HA.out _ ((Turn.refl _ _).alloc _)).mono ?_
  rintro e w5 ⟨z,⟨u,rfl⟩,hX⟩
  have HX:=hid hX
  clear hX
  go_wp2_with fail
  go_returns
  exact ⟨z,rfl,HX.out⟩
theorem call_other (h:KIn W w a k C) (hok:KOk k) (hLd:Laid W) (hP:KPre k v) (hw:v.w < 0∨18 < v.w):Calls Tryz.prog 24 #[.pointer (some ⟨a.kb,0,none⟩),callA v] w (AskTo W a k v sh1):=by
  obtain ⟨vw,vp,va,vb,vc,vs,vt⟩:=v
  simp only at hw
  have n0:(vw == 0)=false:=by rw [beq_eq_false_iff_ne]; omega
  have n1:(vw == 1)=false:=by rw [beq_eq_false_iff_ne]; omega
  have n2:(vw == 2)=false:=by rw [beq_eq_false_iff_ne]; omega
  have n3:(vw == 3)=false:=by rw [beq_eq_false_iff_ne]; omega
  have n4:(vw == 4)=false:=by rw [beq_eq_false_iff_ne]; omega
  have n5:(vw == 5)=false:=by rw [beq_eq_false_iff_ne]; omega
  have n6:(vw == 6)=false:=by rw [beq_eq_false_iff_ne]; omega
  have n7:(vw == 7)=false:=by rw [beq_eq_false_iff_ne]; omega
  have n8:(vw == 8)=false:=by rw [beq_eq_false_iff_ne]; omega
  have n9:(vw == 9)=false:=by rw [beq_eq_false_iff_ne]; omega
  have n10:(vw == 10)=false:=by rw [beq_eq_false_iff_ne]; omega
  have n11:(vw == 11)=false:=by rw [beq_eq_false_iff_ne]; omega
  have n12:(vw == 12)=false:=by rw [beq_eq_false_iff_ne]; omega
  have n13:(vw == 13)=false:=by rw [beq_eq_false_iff_ne]; omega
  have n14:(vw == 14)=false:=by rw [beq_eq_false_iff_ne]; omega
  have n15:(vw == 15)=false:=by rw [beq_eq_false_iff_ne]; omega
  have n16:(vw == 16)=false:=by rw [beq_eq_false_iff_ne]; omega
  have n17:(vw == 17)=false:=by rw [beq_eq_false_iff_ne]; omega
  have n18:(vw == 18)=false:=by rw [beq_eq_false_iff_ne]; omega
  have HR:=hid (fun w' (tt:Turn (fun _ => False) w w') => rare_is (v:=⟨vw,vp,va,vb,vc,vs,vt⟩) (h.still tt) hok hLd hP (by show ¬ (0≤vw∧vw < 19); omega))
  unfold callA at HR ⊢
  dsimp only at HR ⊢
  clear h hok hLd hP hw
  go_enter Tryz.func24,Tryz.ntmps24
  go_wp2_with fail
  refine (HR.out _ ((Turn.refl _ _).alloc _)).mono ?_
  rintro e w5 ⟨z,rfl,hX⟩
  have HX:=hid hX
  clear hX
  go_wp2_with fail
  go_returns
  exact ⟨z,rfl,HX.out⟩
theorem call_is (h:KIn W w a k C) (hok:KOk k) (hLd:Laid W) (hP:KPre k v):Calls Tryz.prog 24 #[.pointer (some ⟨a.kb,0,none⟩),callA v] w (AskTo W a k v sh1):=by
  by_cases hx:v.w < 0∨18 < v.w
  · exact call_other h hok hLd hP hx
  · have:v.w=0∨v.w=1∨v.w=2∨v.w=3∨v.w=4∨v.w=5∨v.w=6∨v.w=7∨v.w=8∨v.w=9∨v.w=10∨v.w=11∨v.w=12∨v.w=13∨v.w=14∨v.w=15∨v.w=16∨v.w=17∨v.w=18:=by omega
    rcases this with e | e | e | e | e | e | e | e | e | e | e | e | e | e | e | e | e | e | e
    · exact call_0 h hok hLd hP e
    · exact call_1 h hok hLd hP e
    · exact call_2 h hok hLd hP e
    · exact call_3 h hok hLd hP e
    · exact call_4 h hok hLd hP e
    · exact call_5 h hok hLd hP e
    · exact call_6 h hok hLd hP e
    · exact call_7 h hok hLd hP e
    · exact call_8 h hok hLd hP e
    · exact call_9 h hok hLd hP e
    · exact call_10 h hok hLd hP e
    · exact call_11 h hok hLd hP e
    · exact call_12 h hok hLd hP e
    · exact call_13 h hok hLd hP e
    · exact call_14 h hok hLd hP e
    · exact call_15 h hok hLd hP e
    · exact call_16 h hok hLd hP e
    · exact call_17 h hok hLd hP e
    · exact call_18 h hok hLd hP e
end
section
variable {W w w' w1:World} {a:KA} {k k' k1 k2:KS} {C C':Nat→Nat×Nat} {pid z:Int} {i j:Nat} {o o':KO} {x:Spc} {y:Nat×PTab} {v:CallV} {B:Nat} {S:PS} {L:PTab} {n:Int}
/-! ### ledgers -/
theorem went_os:∀ {go:List Int} {k k1:KS},Went a k go k1→k1.os=k.os∧k1.S.T.length≤k.S.T.length∨k1.os=k.os
 | [],k,k1,h => .inr (by rw [show k1=k from h])
 | v :: go,k,k1,h => by
  obtain ⟨k2,hg,h2⟩:=h
  obtain ⟨_,_,_,_,i,o,x,y,b,t',_,_,_,_,e⟩:=hg
  have e2:k2.os=k.os:=by rw [e]; rfl
  rcases went_os h2 with ⟨h3,_⟩ | h3
  ·exact .inr (h3.trans e2)
  ·exact .inr (h3.trans e2)
theorem went_os' {go:List Int} (h:Went a k go k1):k1.os=k.os:=(went_os h).elim (·.1) id
theorem storeOn_os {p q v:Int} (h:StoreOn a k i x p q v z k'):k'.os=k.os:=by
 rcases h with ⟨_,_,e⟩ | ⟨_,_,_,g,_,⟨_,_,t',_,_,e⟩ | ⟨_,_,_,e⟩ | ⟨_,_,f,t',_,_,_,_,e⟩⟩ <;> rw [e]
theorem storeR_os (h:StoreR a k v i o x y z k'):k'.os=k.os:=by
 obtain ⟨go,k1,hw,_,⟨_,hs,_⟩ | ⟨_,e,_⟩⟩:=h
 ·exact (storeOn_os hs).trans (went_os' hw)
 ·rw [e]; exact went_os' hw
theorem KR.cases {R:KS→Prop} (h:KR k z R k'):(z=0∧R k')∨(z≠0∧∃ t',t'.m=k.t.m∧k'={ k with t:=t' }):=by
 by_cases hz:z=0
 ·exact .inl ⟨hz,h.1 hz⟩
 ·exact .inr ⟨hz,h.2 hz⟩
/-! ### how many have been made -/
theorem CallR.len (h:CallR a k v z k'):k'.os.length≤k.os.length+1:=by
 have hset:∀ (i:Nat) (o':KO),(k.os.set i o').length=k.os.length:=fun i o' => List.length_set
 rcases h with ⟨_,_,e⟩ | ⟨_,_,e⟩ | ⟨n,i,o,x,y,hn,hm,h⟩
 ·rw [e]; omega
 ·rw [e]; omega
 ·have hfork:ForkR k v.p o x y z k'→k'.os.length≤k.os.length+1:=fun h => by
   rcases h with ⟨_,_,e⟩ | ⟨_,_,b,f,_,_,_,e⟩
   ·rw [e]; omega
   ·rw [e]
    show (k.os ++ [_]).length≤_
    rw [List.length_append]; exact Nat.le_refl _
  have hst:StoreR a k v i o x y z k'→k'.os.length≤k.os.length+1:=fun h => by rw [storeR_os h]; omega
  have same:k'.os=k.os→k'.os.length≤k.os.length+1:=fun e => by rw [e]; omega
  have sets:∀ o',k'.os=k.os.set i o'→k'.os.length≤k.os.length+1:=fun o' e => by rw [e,hset]; omega
  match n,h with
  | 0,h => exact hfork h
  | 1,h => exact hfork h
  | 2,⟨_,h⟩ => rcases h.cases with ⟨_,t',b,_,_,e⟩ | ⟨_,t',_,e⟩ <;> exact same (by subst e; rfl)
  | 3,⟨_,t',_,e⟩ => exact sets _ (congrArg KS.os e)
  | 4,h => rcases h with ⟨_,e⟩ | ⟨_,j,c,b,_,_,_,e⟩ <;> exact same (by subst e; rfl)
  | 5,⟨_,h⟩ => rcases h.cases with ⟨h0,e⟩ | ⟨_,t',_,e⟩; exact sets _ (congrArg KS.os e); exact same (by subst e; rfl)
  | 6,⟨_,h⟩ => rcases h.cases with ⟨h0,e⟩ | ⟨_,t',_,e⟩; exact sets _ (congrArg KS.os e); exact same (by subst e; rfl)
  | 7,⟨_,h⟩ => rcases h.cases with ⟨h0,t',_,e⟩ | ⟨_,t',_,e⟩; exact sets _ (congrArg KS.os e); exact same (by subst e; rfl)
  | 8,h => exact hst h
  | 9,h => exact hst h
  | 10,h => exact hst h
  | 11,⟨_,h⟩ => rcases h.cases with ⟨h0,e⟩ | ⟨_,t',_,e⟩; exact sets _ (congrArg KS.os e); exact same (by subst e; rfl)
  | 12,⟨_,h⟩ => rcases h.cases with ⟨h0,e⟩ | ⟨_,t',_,e⟩; exact sets _ (congrArg KS.os e); exact same (by subst e; rfl)
  | 13,⟨_,h⟩ => rcases h.cases with ⟨h0,e⟩ | ⟨_,t',_,e⟩; exact sets _ (congrArg KS.os e); exact same (by subst e; rfl)
  | 14,⟨_,h⟩ => rcases h.cases with ⟨h0,e⟩ | ⟨_,t',_,e⟩; exact sets _ (congrArg KS.os e); exact same (by subst e; rfl)
  | 15,⟨_,h⟩ => rcases h.cases with ⟨h0,e⟩ | ⟨_,t',_,e⟩; exact sets _ (congrArg KS.os e); exact same (by subst e; rfl)
  | 16,⟨_,h⟩ => rcases h.cases with ⟨h0,e⟩ | ⟨_,t',_,e⟩; exact sets _ (congrArg KS.os e); exact same (by subst e; rfl)
  | 17,⟨_,pf',e,_,_⟩ => exact sets _ (congrArg KS.os e)
  | 18,⟨_,h⟩ => rcases h.cases with ⟨h0,e⟩ | ⟨_,t',_,e⟩; exact sets _ (congrArg KS.os e); exact same (by subst e; rfl)
  | 19,⟨_,h⟩ => rcases h.cases with ⟨h0,e⟩ | ⟨_,t',_,e⟩; exact sets _ (congrArg KS.os e); exact same (by subst e; rfl)
  | 20,⟨_,pf',e,_⟩ => exact same (by subst e; rfl)
  | 21,⟨_,h⟩ => rcases h with ⟨_,r,pf',_,_,⟨_,e⟩ | ⟨_,t',b,_,_,e⟩⟩ | ⟨_,b,Wt,_,e⟩ <;> exact same (by subst e; rfl)
  | 22,⟨_,h⟩ => rcases h.cases with ⟨h0,e⟩ | ⟨_,t',_,e⟩ <;> exact same (by subst e; rfl)
  | 23,⟨_,h⟩ => rcases h.cases with ⟨h0,e⟩ | ⟨_,t',_,e⟩ <;> exact same (by subst e; rfl)
  | 24,⟨_,h⟩ => rcases h.cases with ⟨h0,e⟩ | ⟨_,t',_,e⟩ <;> exact same (by subst e; rfl)
  | 25,⟨_,h⟩ => rcases h.cases with ⟨h0,e⟩ | ⟨_,t',_,e⟩; exact sets _ (congrArg KS.os e); exact same (by subst e; rfl)
  | 26,⟨_,h⟩ => rcases h.cases with ⟨h0,e⟩ | ⟨_,t',_,e⟩; exact sets _ (congrArg KS.os e); exact same (by subst e; rfl)
  | 27,⟨_,h⟩ => rcases h.cases with ⟨h0,e⟩ | ⟨_,t',_,e⟩; exact sets _ (congrArg KS.os e); exact same (by subst e; rfl)
  | n+28,h => exact h.elim
/-! ### names -/
theorem close_T (h:TBnd S.T B) (L:PTab) (n:Int):TBnd (closeS S L n).T B:=by
 unfold closeS
 cases entL S L n with
 | none => exact h
 | some z =>
  simp only [Option.elim]
  split
  ·exact h
  ·unfold goneS
   split
   ·exact TBnd.drop (T:=S.T) h _
   ·cases ((delS S z.1).ps[z.2.pid]?) with
    | none => exact h
    | some q => exact h
theorem clear_T (L0:PTab) (all:Bool):∀ (f i:Nat) (S:PS) (L:PTab),TBnd S.T B→TBnd (clearFrom L0 all f i S L).1.T B
 | 0,_,S,L,h => h
 | f+1,i,S,L,h => by
  unfold clearFrom
  split
  ·exact clear_T L0 all f (i+1) _ _ (close_T h L i)
  ·exact clear_T L0 all f (i+1) _ _ h
theorem clearS_T (h:TBnd S.T B) (L:PTab) (all:Bool):TBnd (clearS S L all).T B:=clear_T L all 8 0 S L h
theorem fork_T (L:PTab):∀ (f i:Nat) (S:PS),(forkFrom L f i S).T=S.T
 | 0,_,S => rfl
 | f+1,i,S => by
  show (forkFrom L f (i+1) (if 0 < (L i).1 then bumpS S ((L i).1 - 1) else S)).T=S.T
  rw [fork_T L f (i+1)]
  split
  ·unfold bumpS
   cases mget S.es ((L i).1 - 1) <;> rfl
  ·rfl
theorem bump_T:(bumpE S L n).T=S.T:=by
 unfold bumpE
 cases entL S L n <;> rfl
theorem dup_T:(dupS S L n).T=S.T:=by
 unfold dupS
 split
 ·cases entL S L n <;> rfl
 ·rfl
theorem dup2_T (h:TBnd S.T B) (L:PTab) (n m:Int):TBnd (dup2S S L n m).T B:=by
 unfold dup2S
 split
 ·exact close_T (by rw [bump_T]; exact h) L m
 ·exact h
theorem piped_T:(pipedS S L).T=S.T:=by
 unfold pipedS
 split <;> rfl
theorem rd_T (m:Int):(rdS S L n m).T=S.T:=by
 unfold rdS
 cases entL S L n with
 | none => rfl
 | some z =>
  simp only [Option.elim]
  split
  ·rfl
  ·split
   ·cases S.ps[z.2.pid]? <;> rfl
   ·rfl
theorem wr_T (h:TBnd S.T B) (L:PTab) (n:Int) (s:ByteArray) (m:Int):TBnd (wrS S L n s m).T B:=by
 unfold wrS
 cases entL S L n with
 | none => exact h
 | some z =>
  simp only [Option.elim]
  split
  ·exact h
  ·split
   ·cases S.ps[z.2.pid]? <;> exact h
   ·split
    ·exact h
    ·split
     ·exact h.write _ _ _
     ·exact h
theorem open_T (h:TBnd S.T B) (h1:1≤B) (L:PTab) (path:ByteArray) (prot:Int) (mk:Bool):TBnd (openS S L path prot mk).T (B+2):=by
 have hN:TBnd (fileN S.T path mk).2.2 (B+1):=by
  unfold fileN
  split
  ·exact h.make h1 path false
  ·exact h.mono (by omega)
 have hH:TBnd (fileH (fileN S.T path mk)) (B+2):=by
  unfold fileH
  split
  ·exact hN.hold _
  ·exact hN.mono (by omega)
 unfold openS
 split
 ·exact h.mono (by omega)
 ·split
  ·exact h.mono (by omega)
  ·split
   ·exact hH
   ·exact hH
theorem went_T:∀ {go:List Int} {k k1:KS},TBnd k.S.T B→Went a k go k1→TBnd k1.S.T B
 | [],k,k1,hB,h => by rw [show k1=k from h]; exact hB
 | v :: go,k,k1,hB,h => by
  obtain ⟨k2,hg,h2⟩:=h
  obtain ⟨_,_,_,_,i,o,x,y,b,t',_,_,_,_,e⟩:=hg
  refine went_T ?_ h2
  rw [e]
  exact clearS_T hB y.2 true
theorem storeOn_S {p q v:Int} (h:StoreOn a k i x p q v z k'):k'.S=k.S:=by
 rcases h with ⟨_,_,e⟩ | ⟨_,_,_,g,_,⟨_,_,t',_,_,e⟩ | ⟨_,_,_,e⟩ | ⟨_,_,f,t',_,_,_,_,e⟩⟩ <;> rw [e]
theorem storeR_T (hB:TBnd k.S.T B) (h:StoreR a k v i o x y z k'):TBnd k'.S.T B:=by
 obtain ⟨go,k1,hw,_,⟨_,hs,_⟩ | ⟨_,e,_⟩⟩:=h
 ·rw [storeOn_S hs]; exact went_T hB hw
 ·rw [e]; exact went_T hB hw
theorem CallR.bnd (hB:TBnd k.S.T B) (h1:1≤B) (h:CallR a k v z k'):TBnd k'.S.T (B+2):=by
 have same:k'.S.T=k.S.T→TBnd k'.S.T (B+2):=fun e => by rw [e]; exact hB.mono (by omega)
 have le:TBnd k'.S.T B→TBnd k'.S.T (B+2):=fun h => h.mono (by omega)
 rcases h with ⟨_,_,e⟩ | ⟨_,_,e⟩ | ⟨n,i,o,x,y,hn,hm,h⟩
 ·exact same (by subst e; rfl)
 ·exact same (by subst e; rfl)
 ·have hfork:ForkR k v.p o x y z k'→TBnd k'.S.T (B+2):=fun h => by
   rcases h with ⟨_,_,e⟩ | ⟨_,_,b,f,_,_,_,e⟩
   ·exact same (by subst e; rfl)
   ·exact same (by subst e; exact fork_T y.2 8 0 k.S)
  match n,h with
  | 0,h => exact hfork h
  | 1,h => exact hfork h
  | 2,⟨_,h⟩ =>
   rcases h.cases with ⟨_,t',b,_,_,e⟩ | ⟨_,t',_,e⟩
   ·exact le (by subst e; exact clearS_T hB y.2 true)
   ·exact same (by subst e; rfl)
  | 3,⟨_,t',_,e⟩ => exact le (by subst e; exact clearS_T hB y.2 false)
  | 4,h => rcases h with ⟨_,e⟩ | ⟨_,j,c,b,_,_,_,e⟩ <;> exact same (by subst e; rfl)
  | 5,⟨_,h⟩ => rcases h.cases with ⟨h0,e⟩ | ⟨_,t',_,e⟩ <;> exact same (by subst e; rfl)
  | 6,⟨_,h⟩ => rcases h.cases with ⟨h0,e⟩ | ⟨_,t',_,e⟩ <;> exact same (by subst e; rfl)
  | 7,⟨_,h⟩ => rcases h.cases with ⟨h0,t',_,e⟩ | ⟨_,t',_,e⟩ <;> exact same (by subst e; rfl)
  | 8,h => exact le (storeR_T hB h)
  | 9,h => exact le (storeR_T hB h)
  | 10,h => exact le (storeR_T hB h)
  | 11,⟨_,h⟩ => rcases h.cases with ⟨h0,e⟩ | ⟨_,t',_,e⟩; (subst e; exact open_T hB h1 _ _ _ _); exact same (by subst e; rfl)
  | 12,⟨_,h⟩ => rcases h.cases with ⟨h0,e⟩ | ⟨_,t',_,e⟩; (subst e; exact open_T hB h1 _ _ _ _); exact same (by subst e; rfl)
  | 13,⟨_,h⟩ => rcases h.cases with ⟨h0,e⟩ | ⟨_,t',_,e⟩; exact same (by subst e; exact piped_T); exact same (by subst e; rfl)
  | 14,⟨_,h⟩ => rcases h.cases with ⟨h0,e⟩ | ⟨_,t',_,e⟩; exact same (by subst e; exact dup_T); exact same (by subst e; rfl)
  | 15,⟨_,h⟩ => rcases h.cases with ⟨h0,e⟩ | ⟨_,t',_,e⟩; exact le (by subst e; exact dup2_T hB _ _ _); exact same (by subst e; rfl)
  | 16,⟨_,h⟩ => rcases h.cases with ⟨h0,e⟩ | ⟨_,t',_,e⟩; exact le (by subst e; exact close_T hB _ _); exact same (by subst e; rfl)
  | 17,⟨_,pf',e,_,_⟩ => exact le (by subst e; exact wr_T hB _ _ _ _)
  | 18,⟨_,h⟩ => rcases h.cases with ⟨h0,e⟩ | ⟨_,t',_,e⟩; exact same (by subst e; exact rd_T _); exact same (by subst e; rfl)
  | 19,⟨_,h⟩ => rcases h.cases with ⟨h0,e⟩ | ⟨_,t',_,e⟩ <;> exact same (by subst e; rfl)
  | 20,⟨_,pf',e,_⟩ => exact same (by subst e; rfl)
  | 21,⟨_,h⟩ =>
   rcases h with ⟨_,r,pf',_,_,⟨_,e⟩ | ⟨_,t',b,_,_,e⟩⟩ | ⟨_,b,Wt,_,e⟩
   ·exact same (by subst e; rfl)
   ·exact le (by subst e; exact clearS_T hB y.2 true)
   ·exact same (by subst e; rfl)
  | 22,⟨_,h⟩ => rcases h.cases with ⟨h0,e⟩ | ⟨_,t',_,e⟩; (subst e; exact (hB.make h1 _ _).mono (Nat.le_succ _)); exact same (by subst e; rfl)
  | 23,⟨_,h⟩ => rcases h.cases with ⟨h0,e⟩ | ⟨_,t',_,e⟩; (subst e; exact (hB.unlink _).mono (Nat.le_succ _)); exact same (by subst e; rfl)
  | 24,⟨_,h⟩ => rcases h.cases with ⟨h0,e⟩ | ⟨_,t',_,e⟩; (subst e; exact hB.move _ _); exact same (by subst e; rfl)
  | 25,⟨_,h⟩ => rcases h.cases with ⟨h0,e⟩ | ⟨_,t',_,e⟩ <;> exact same (by subst e; rfl)
  | 26,⟨_,h⟩ => rcases h.cases with ⟨h0,e⟩ | ⟨_,t',_,e⟩ <;> exact same (by subst e; rfl)
  | 27,⟨_,h⟩ => rcases h.cases with ⟨h0,e⟩ | ⟨_,t',_,e⟩ <;> exact same (by subst e; rfl)
  | n+28,h => exact h.elim
def KRun (n:Nat) (k:KS):Prop:=k.os.length≤1+n∧TBnd k.S.T (1+2 * n)
theorem KRun.next {n:Nat} (h:KRun n k) (hc:CallR a k v z k'):KRun (n+1) k':=by
 refine ⟨?_,?_⟩
 ·have:=hc.len; have:=h.1; omega
 ·have h2:=hc.bnd h.2 (by omega)
  exact h2.mono (by omega)
theorem KRun.more {n m:Nat} (h:KRun n k) (hnm:n≤m):KRun m k:=⟨by have:=h.1; omega,h.2.mono (by omega)⟩
theorem KRun.pre {n:Nat} (h:KRun n k) (hn:n < 99) (hs:v.s.size≤100) (ht:v.t.size≤60):KPre k v :=
 ⟨by have:=h.1; omega,hs,ht,1+2 * n,h.2,by omega⟩
end
section
variable {W w w' w1:World}
def CallsAt (W:World) (b off:Nat) (xs:List CallV):Prop:=∀ (j:Nat) (x:CallV),xs[j]?=some x →
 W.cell? ⟨b,off+j * 7,none⟩=some (.int .i64 x.w)∧W.cell? ⟨b,off+j * 7+1,none⟩=some (.int .i64 x.p)∧W.cell? ⟨b,off+j * 7+2,none⟩=some (.int .i64 x.a)∧W.cell? ⟨b,off+j * 7+3,none⟩=some (.int .i64 x.b)∧W.cell? ⟨b,off+j * 7+4,none⟩=some (.int .i64 x.c)∧W.cell? ⟨b,off+j * 7+5,none⟩=some (.string x.s)∧W.cell? ⟨b,off+j * 7+6,none⟩=some (.string x.t)
theorem CallsAt.turned {b off:Nat} {xs:List CallV} {S:Nat→Prop} (h:CallsAt W b off xs) (t:Turn S W w) (hb:b < W.heap.size) (hn:¬ S b):CallsAt w b off xs:=fun j x hx => by
 obtain ⟨h0,h1,h2,h3,h4,h5,h6⟩:=h j x hx
 exact ⟨(t.cell (a:=⟨b,_,none⟩) hb hn).trans h0,(t.cell (a:=⟨b,_,none⟩) hb hn).trans h1,(t.cell (a:=⟨b,_,none⟩) hb hn).trans h2,(t.cell (a:=⟨b,_,none⟩) hb hn).trans h3,(t.cell (a:=⟨b,_,none⟩) hb hn).trans h4,(t.cell (a:=⟨b,_,none⟩) hb hn).trans h5,(t.cell (a:=⟨b,_,none⟩) hb hn).trans h6⟩
def CallsIn (W:World) (a:Option Addr) (xs:List CallV):Prop:=xs≠[]→∃ b off,a=some ⟨b,off,none⟩∧CallsAt W b off xs∧b < W.heap.size
theorem CallsIn.turned {a:Option Addr} {xs:List CallV} (h:CallsIn W a xs) (t:Turn (fun _ => False) W w):CallsIn w a xs:=fun hne => by
 obtain ⟨b,off,h1,h2,h3⟩:=h hne
 exact ⟨b,off,h1,h2.turned t h3 id,Nat.lt_of_lt_of_le h3 t.size⟩
def Short (v:CallV):Prop:=v.s.size≤100∧v.t.size≤60
theorem calls_many (a:Option Addr) (n cap:Nat) (W:World) (h:40 < n) (hm:n≤9223372036854775807) :
  Calls Tryz.prog 22 #[.slice a n cap] W fun e w' => e=.returned (.bool false)∧W=w':=by
 have h':(40:Int) < n:=by omega
 go_enter Tryz.func22,Tryz.ntmps22
 go_wp2_with fail
 go_returns
 exact ⟨rfl,rfl⟩
def CallsTo (W:World) (xs:List CallV) (e:Ending) (w':World):Prop:=∃ r:Bool,e=.returned (.bool r)∧Turn (fun _ => False) W w'∧(r=true→∀ v∈xs,Short v)
theorem calls_is (a:Option Addr) (xs:List CallV) (cap:Nat) (W:World) (hl:xs.length≤40) (hc:CallsIn W a xs) :
  Calls Tryz.prog 22 #[.slice a xs.length cap] W (CallsTo W xs):=by
 have h':¬ (40:Int) < xs.length:=by omega
 have HC:=hid hc
 clear hc
 obtain ⟨n,hn⟩:∃ n,xs.length=n:=⟨_,rfl⟩
 have HN:=hid hn
 rw [hn] at h' hl ⊢
 clear hn
 go_enter Tryz.func22,Tryz.ntmps22
 go_wp2_with fail
 go_loopg [3] (n) (fun gl ix wr => ∃ j:Nat,j+gl=n∧ix=.int .i64 j∧Hid (Turn (fun _ => False) W wr∧∀ (i:Nat) v,i < j→xs[i]?=some v→Short v))
 case atStart => exact ⟨0,by omega,rfl,hid ⟨Turn.refl _ _,fun i v hi => absurd hi (Nat.not_lt_zero _)⟩⟩
 case round =>
  obtain ⟨j,hj,rfl,hS⟩:=hrel
  by_cases hlt:j < n
  ·have hlt':(j:Int) < n:=by omega
   obtain ⟨v,hv⟩:∃ v,xs[j]?=some v:=⟨_,List.getElem?_eq_getElem (by rw [HN.out]; exact hlt)⟩
   obtain ⟨b,off,rfl,hat,hb⟩:=(HC.out.turned hS.out.1) (fun e => by rw [e] at hv; cases hv)
   obtain ⟨c0,c1,c2,c3,c4,c5,c6⟩:=hat j v hv
   have HV:=hid hv
   have q1:(0:Int)≤(j:Int):=by omega
   clear hat hb hv c0 c1 c2 c3 c4
   obtain ⟨ss,hss⟩:∃ ss,v.s.size=ss:=⟨_,rfl⟩
   obtain ⟨st,hst⟩:∃ st,v.t.size=st:=⟨_,rfl⟩
   by_cases hs:100 < ss
   ·have hs':(100:Int) < ss:=by omega
    go_wp2_with fail
    go_returns
    exact ⟨false,rfl,hS.out.1,fun h => by cases h⟩
   ·have hs':¬ (100:Int) < ss:=by omega
    by_cases ht:60 < st
    ·have ht':(60:Int) < st:=by omega
     go_wp2_with fail
     go_returns
     exact ⟨false,rfl,hS.out.1,fun h => by cases h⟩
    ·have ht':¬ (60:Int) < st:=by omega
     have HS2:=hid (show ∀ (i:Nat) u,i < j+1→xs[i]?=some u→Short u from fun i u hi hu => by
      by_cases e:i=j
      ·subst e
       have h9:=HV.out
       rw [hu] at h9
       cases h9
       exact ⟨by omega,by omega⟩
      ·exact hS.out.2 i u (by omega) hu)
     have hn40:n≤40:=hl
     go_wp2_with fail
     go_roundg (gk - 1)
     case measure => omega
     case rel => exact ⟨j+1,by omega,by go_num,hid ⟨hS.out.1,HS2.out⟩⟩
  ·have hj':j=n:=by omega
   subst hj'
   go_wp2_with fail
   go_returns
   refine ⟨true,rfl,hS.out.1,fun _ v hv => ?_⟩
   obtain ⟨i,hi⟩:=List.getElem?_of_mem hv
   exact hS.out.2 i v (by have:=(List.getElem?_eq_some_iff.1 hi).1; rw [HN.out] at this; omega) hi
end
section
variable {W w w' w1:World}
def lim3 (q:Nat):Int:=if q=0 then 64 else if q=1 then 8 else if q=2 then 200 else 0
def mostN (j:Nat):Nat→Int:=fun q => if q < j then lim3 q else 0
theorem mostN_step (j:Nat):upd (mostN j) j (lim3 j)=mostN (j+1):=by
 funext q
 unfold upd mostN
 by_cases e:q=j
 ·subst e
  rw [if_pos rfl,if_pos (by omega)]
 ·rw [if_neg e]
  by_cases hq:q < j
  ·rw [if_pos hq,if_pos (by omega)]
  ·rw [if_neg hq,if_neg (by omega)]
theorem mostN_zero:mostN 0=fun _ => 0:=by funext q; exact if_neg (by omega)
theorem fit_new (j:Nat):Fit (fun _ => 0) (mostN j):=fun q hq => by
 have h:0≤mostN j q∧mostN j q≤1000000:=by
  unfold mostN lim3
  repeat' split
  all_goals omega
 exact ⟨(by show (0:Int)≤0; omega),(by show (0:Int)≤1000000; omega),h.1,h.2⟩
theorem ledger_new (w:World) (t:TypeId):LedgerIs (w.alloc (.cells #[.int .i64 0,.int .i64 0,.int .i64 0,.int .i64 0,.int .i64 0,.int .i64 0] t)) w.heap.size (fun _ => 0) (mostN 0):=by
 rw [mostN_zero]
 refine ⟨fun j hj => ?_,fun j hj => ?_,fun j => by simp⟩ <;> (match j with
  | 0 => simp
  | 1 => simp
  | 2 => simp
  | j+3 => exact absurd hj (by omega))
theorem idx_lim0 (w:World):(Instr.index 67 (.agg #[.int .i64 64,.int .i64 8,.int .i64 200]) (.int .i64 0)).run Tryz.prog w=.ok (.int .i64 64) w:=by kernel_rfl
theorem idx_lim1 (w:World):(Instr.index 67 (.agg #[.int .i64 64,.int .i64 8,.int .i64 200]) (.int .i64 1)).run Tryz.prog w=.ok (.int .i64 8) w:=by kernel_rfl
theorem idx_lim2 (w:World):(Instr.index 67 (.agg #[.int .i64 64,.int .i64 8,.int .i64 200]) (.int .i64 2)).run Tryz.prog w=.ok (.int .i64 200) w:=by kernel_rfl
theorem idx_lim (k:Nat) (hk:k < 3) (w:World):(Instr.index 67 (.agg #[.int .i64 64,.int .i64 8,.int .i64 200]) (.int .i64 k)).run Tryz.prog w=.ok (.int .i64 (lim3 k)) w:=by
 have h:k=0∨k=1∨k=2:=by omega
 rcases h with h | h | h
 ·rw [h]; exact idx_lim0 w
 ·rw [h]; exact idx_lim1 w
 ·rw [h]; exact idx_lim2 w
theorem ledger_new2 (w:World) (t:TypeId):LedgerIs (w.alloc (.cells #[.int .i64 0,.int .i64 0,.int .i64 0,.int .i64 0,.int .i64 0,.int .i64 0] t)) w.heap.size (fun _ => 0) (mostN 0)∧Turn (fun _ => False) w (w.alloc (.cells #[.int .i64 0,.int .i64 0,.int .i64 0,.int .i64 0,.int .i64 0,.int .i64 0] t)):=⟨ledger_new w t,(Turn.refl _ _).alloc _⟩
/-! ### the first state -/
def kDS0:PS:=⟨rootT,[],[]⟩
theorem kds0_ok:DOk kDS0:=by
 refine ⟨List.nodup_nil,fun k e h => (by cases h),fun k e h => (by cases h),Nat.zero_le _,fun k j e f h => (by cases h),fun i q h => (by cases h),fun n p h => ?_⟩
 have hm:=mem_of_mget h
 have hm:(n,p)∈rootT:=hm
 unfold rootT at hm
 simp only [List.mem_cons,List.not_mem_nil,or_false,Prod.mk.injEq] at hm
 rw [hm.2]; rfl
theorem kcnt0 (k:Int) (hk:0≤k):∀ f i,cntFrom noTab k f i=0
 | 0,i => rfl
 | f+1,i => by
  show hitX (noTab i) k+cntFrom noTab k f (i+1)=0
  rw [kcnt0 k hk f (i+1)]
  unfold hitX
  rw [if_neg (by show ¬ (0:Int)=k+1; omega)]
theorem kjoint0 (t:Nat):Joint kDS0 [(t,noTab)]:=by
 refine ⟨fun k hk => ?_,fun i x hx j hj => ?_⟩
 ·show cntFrom noTab k 8 0+0=0
  rw [kcnt0 k hk]
 ·cases i with
  | zero => cases hx; exact ⟨Int.le_refl _,by show (0:Int)≤40; decide⟩
  | succ i => cases hx
theorem kkin0 (b:Nat):Kin [((1:Int),b)] (fun _ => init):=by
 have h1:mget [((1:Int),b)] 1=some b:=rfl
 refine ⟨fun t ht => ?_,by simp,by simp [MNodup],by simp,⟨b,h1,rfl,rfl⟩,fun t ht hne => ?_,fun t ht => .inl rfl,fun t ht => ⟨0,0,rfl,rfl,by decide,by decide⟩⟩
 ·rw [List.mem_singleton.1 ht]; exact ⟨by show (1:Int)≤1; decide,by show (1:Int)≤24; decide⟩
 ·rw [List.mem_singleton.1 ht] at hne; exact absurd rfl hne
def newKS (t:St) (sp pm tab ob lb b:Nat):KS:=⟨t,[⟨sp,pm,noP⟩],kDS0,[(tab,noTab)],[⟨ob,lb,fun _ => 0,mostN 3,0⟩],[(1,0)],[(1,b)],fun _ => init⟩
theorem one_get {α:Type} {z v:α} {i:Nat} (h:[z][i]?=some v):i=0∧v=z:=by
 cases i with
 | zero => simp at h; exact ⟨rfl,h.symm⟩
 | succ i => simp at h
theorem knew_ok (t:St) (sp pm tab ob lb b:Nat):KOk (newKS t sp pm tab ob lb b):=by
 have hg:∀ p,mget [((1:Int),0)] p=if p=1 then some 0 else none:=fun p => by
  unfold mget
  by_cases e:p=1
  ·subst e; rfl
  ·rw [if_neg e]; simp [show (1:Int)≠p from fun h => e h.symm]
 refine ⟨kkin0 b,kds0_ok,kjoint0 tab,⟨rfl,rfl,by show (1:Nat)≤100; decide⟩,fun p => ?_,by simp [MNodup,newKS],fun p q i hp hq => ?_,fun i o x y ho hx hy _ => ?_,fun i o ho => ?_,fun i x y hx hy _ => ?_,fun p i hp => ?_⟩
 ·show stR [((1:Int),b)] (fun _ => init) p=1 ↔ (mget [((1:Int),0)] p).isSome=true
  rw [hg]
  by_cases e:p=1
  ·subst e; simp [stR,mget,init]
  ·rw [if_neg e]
   unfold stR mget
   simp [show (1:Int)≠p from fun h => e h.symm]
 ·have hp':mget [((1:Int),0)] p=some i:=hp
  have hq':mget [((1:Int),0)] q=some i:=hq
  rw [hg] at hp' hq'
  split at hp'
  ·split at hq'
   ·omega
   ·cases hq'
  ·cases hp'
 ·obtain ⟨_,rfl⟩:=one_get ho
  obtain ⟨_,rfl⟩:=one_get hx
  obtain ⟨_,rfl⟩:=one_get hy
  exact ⟨by show (0:Int)=((lenP noP:Nat):Int); rw [show lenP noP=0 from lenP_none]; rfl,by show (0:Int)=((usedL noTab:Nat):Int); rw [used_zero (fun _ _ => rfl)]; rfl,rfl⟩
 ·obtain ⟨_,rfl⟩:=one_get ho
  exact ⟨fit_new 3,by show (-100:Int)≤0; decide,by show (0:Int)≤100; decide⟩
 ·obtain ⟨_,rfl⟩:=one_get hx
  obtain ⟨_,rfl⟩:=one_get hy
  exact ⟨rfl,used_zero (fun _ _ => rfl)⟩
 ·have hp':mget [((1:Int),0)] p=some i:=hp
  rw [hg] at hp'
  split at hp'
  ·show i < 1
   have:=Option.some.inj hp'
   omega
  ·cases hp'
def ownObj (sp tab lb:Nat):Obj:=.cells #[.pointer (some ⟨sp,0,none⟩),.pointer (some ⟨tab,0,none⟩),.pointer (some ⟨lb,0,none⟩),.int .i64 0] 115
def kernObj (sb tb fb pb om:Nat):Obj:=.cells #[.pointer (some ⟨sb,0,none⟩),.pointer (some ⟨tb,0,none⟩),.pointer (some ⟨fb,0,none⟩),.pointer (some ⟨pb,0,none⟩),.map (some om)] 118
theorem own_new (w:World) (sp tab lb:Nat):OwnAt (w.alloc (ownObj sp tab lb)) w.heap.size sp tab lb 0:=by
 unfold ownObj
 exact ⟨by simp,by simp,by simp,by simp,fun q => by simp⟩
open Classical in
theorem knew_kin {w w1 w3 w4 wr w5 w6:World} {s:SB} {n:Nat} {t:St} {tb fb sp pm lb pb pm2 b:Nat}
  (hst:StoreIs w1 s n t) (hR:∀ f,t.R f=0) (t1:Turn (fun _ => False) w w1) (hft:∀ k,StFoot s t.vs k→w.heap.size≤k)
  (hd:DLaw w1 w3 fb tb kDS0 []) (hsp:SpIs w4 sp pm s.sb noP) (t4:Turn (fun _ => False) w3 w4) (h1:w3.heap.size≤sp) (h2:w3.heap.size≤pm)
  (hl:LedgerIs wr lb (fun _ => 0) (mostN 3)) (tl:Turn (fun _ => False) w4 wr) (hlb:lb=w4.heap.size)
  (hT:PrTab w5 pb pm2 [((1:Int),b)] (fun _ => init)) (t5:Turn (fun _ => False) wr w5) (hTf:∀ k,TFoot pb pm2 [((1:Int),b)] k→wr.heap.size≤k)
  (hm6:MapIs w6 w5.heap.size (.int .i64) encI ptr (mput [] (1:Int) (w5.heap.size+1+1))) (t6:Turn (fun j => j=w5.heap.size) (((w5.alloc (.map #[] 0)).alloc (tabObj noTab)).alloc (ownObj sp (w5.heap.size+1) lb)) w6) :
  KIs w (w6.alloc (kernObj s.sb tb fb pb w5.heap.size)) ⟨w6.heap.size,s,n,tb,fb,pb,pm2,w5.heap.size⟩ (newKS t sp pm (w5.heap.size+1) (w5.heap.size+1+1) lb b):=by
 -- the worlds,one behind the other
 have e5a:(w5.alloc (.map #[] 0)).heap.size=w5.heap.size+1:=World.size_alloc _ _
 have e5b:((w5.alloc (.map #[] 0)).alloc (tabObj noTab)).heap.size=w5.heap.size+1+1:=by rw [World.size_alloc,e5a]
 have e5c:(((w5.alloc (.map #[] 0)).alloc (tabObj noTab)).alloc (ownObj sp (w5.heap.size+1) lb)).heap.size=w5.heap.size+1+1+1:=by rw [World.size_alloc,e5b]
 have t5a:Turn (fun _ => False) w5 (w5.alloc (.map #[] 0)):=(Turn.refl _ _).alloc _
 have t5b:Turn (fun _ => False) (w5.alloc (.map #[] 0)) ((w5.alloc (.map #[] 0)).alloc (tabObj noTab)):=(Turn.refl _ _).alloc _
 have t5c:Turn (fun _ => False) ((w5.alloc (.map #[] 0)).alloc (tabObj noTab)) (((w5.alloc (.map #[] 0)).alloc (tabObj noTab)).alloc (ownObj sp (w5.heap.size+1) lb)):=(Turn.refl _ _).alloc _
 have hO:OwnAt (((w5.alloc (.map #[] 0)).alloc (tabObj noTab)).alloc (ownObj sp (w5.heap.size+1) lb)) (w5.heap.size+1+1) sp (w5.heap.size+1) lb 0:=by
  have h:=own_new ((w5.alloc (.map #[] 0)).alloc (tabObj noTab)) sp (w5.heap.size+1) lb
  rw [e5b] at h
  exact h
 have hd3:=hd.turn0
 have z1:=t1.size
 have z3:=hd3.size
 have z4:=t4.size
 have zl:=tl.size
 have z5:=t5.size
 have z6:=t6.size
 have hlt:=hl.lt
 have l1:=hsp.lt
 have tf:Turn (fun _ => False) w6 (w6.alloc (kernObj s.sb tb fb pb w5.heap.size)):=(Turn.refl _ _).alloc _
 have ef:(w6.alloc (kernObj s.sb tb fb pb w5.heap.size)).heap.size=w6.heap.size+1:=World.size_alloc _ _
 generalize hwc:((w5.alloc (.map #[] 0)).alloc (tabObj noTab)).alloc (ownObj sp (w5.heap.size+1) lb)=wc at *
 have tc:Turn (fun _ => False) w5 wc:=(t5a.trans t5b).trans t5c
 have tg:Turn (fun j => j=w5.heap.size) wc (w6.alloc (kernObj s.sb tb fb pb w5.heap.size)):=t6.trans (tf.mono (fun _ _ h => h.elim))
 have hk:∀ q v,(#[Value.pointer (some ⟨s.sb,0,none⟩),.pointer (some ⟨tb,0,none⟩),.pointer (some ⟨fb,0,none⟩),.pointer (some ⟨pb,0,none⟩),.map (some w5.heap.size)]:Array Value)[q]?=some v→(w6.alloc (kernObj s.sb tb fb pb w5.heap.size)).cell? ⟨w6.heap.size,q,none⟩=some v:=fun q v hv => by
  unfold kernObj
  rw [World.cell?_alloc_new]; exact hv
 generalize hwf:w6.alloc (kernObj s.sb tb fb pb w5.heap.size)=wf at *
 have hsto:=hst.foot_lt
 have hprl:=hT.foot_lt
 -- everything at the last world
 have ho1:¬ StFoot s t.vs sp∧¬ StFoot s t.vs pm:=⟨fun hf => by have:=hsto _ hf; omega,fun hf => by have:=hsto _ hf; omega⟩
 have hv5:VmAll w5 s n t [⟨sp,pm,noP⟩]:=VmAll.first (hst.turned ((((hd3.trans t4).trans tl).trans t5)) (fun _ _ => id)) hR (hsp.turned (tl.trans t5) id id) ho1
 have hvc:=hv5.turned tc (fun _ _ => id)
 have hAF:∀ j,AllFoot s t.vs [(⟨sp,pm,noP⟩:Spc)] j→(w.heap.size≤j∧j < w1.heap.size)∨(w3.heap.size≤j∧j < w4.heap.size):=fun j hj => by
  rcases hj with hj | ⟨i,x,hx,hj⟩
  ·exact .inl ⟨hft j hj,hsto j hj⟩
  ·obtain ⟨_,rfl⟩:=one_get hx
   simp only at hj
   rcases hj with rfl | rfl
   ·exact .inr ⟨h1,l1.1⟩
   ·exact .inr ⟨h2,l1.2⟩
 have hTF:∀ j,TFoot pb pm2 [((1:Int),b)] j→wr.heap.size≤j∧j < w5.heap.size:=fun j hj => ⟨hTf j hj,hprl j hj⟩
 obtain ⟨AF,hAFe⟩:∃ AF,AF=AllFoot s t.vs [(⟨sp,pm,noP⟩:Spc)]:=⟨_,rfl⟩
 obtain ⟨TF,hTFe⟩:∃ TF,TF=TFoot pb pm2 [((1:Int),b)]:=⟨_,rfl⟩
 rw [← hAFe] at hAF
 rw [← hTFe] at hTF
 let C:Nat→Nat×Nat:=fun j => if j=w6.heap.size then (1,0) else if j=w5.heap.size then (2,0) else if j=w5.heap.size+1+1 then (3,0) else if j=lb then (4,0) else if AF j then (5,0) else if TF j then (6,0) else (0,0)
 have hC:∀ j,C j=if j=w6.heap.size then (1,0) else if j=w5.heap.size then (2,0) else if j=w5.heap.size+1+1 then (3,0) else if j=lb then (4,0) else if AF j then (5,0) else if TF j then (6,0) else (0,0):=fun _ => rfl
 have hold:∀ j,C j≠(0,0)→(w.heap.size≤j∧j < wf.heap.size)∧(j < w1.heap.size∨(w3.heap.size≤j∧j < w5.heap.size+1)∨j=w5.heap.size+1+1∨j=w6.heap.size):=fun j hj => by
  rw [hC] at hj
  by_cases q1:j=w6.heap.size
  ·exact ⟨⟨by omega,by omega⟩,by omega⟩
  rw [if_neg q1] at hj
  by_cases q2:j=w5.heap.size
  ·exact ⟨⟨by omega,by omega⟩,by omega⟩
  rw [if_neg q2] at hj
  by_cases q3:j=w5.heap.size+1+1
  ·exact ⟨⟨by omega,by omega⟩,by omega⟩
  rw [if_neg q3] at hj
  by_cases q4:j=lb
  ·exact ⟨⟨by omega,by omega⟩,by omega⟩
  rw [if_neg q4] at hj
  by_cases q5:AF j
  ·have:=hAF j q5
   exact ⟨⟨by omega,by omega⟩,by omega⟩
  rw [if_neg q5] at hj
  by_cases q6:TF j
  ·have:=hTF j q6
   exact ⟨⟨by omega,by omega⟩,by omega⟩
  rw [if_neg q6] at hj
  exact absurd rfl hj
 clear_value C
 have d5a:DLawB ⟨w5.alloc (.map #[] 0),fun j => j < w1.heap.size∨(w3.heap.size≤j∧j < w5.heap.size+1)⟩ (w5.alloc (.map #[] 0)) fb tb kDS0 [] :=
  hd.rebase ((((t4.trans tl).trans t5).trans t5a).mono (fun _ _ h => h.elim)) (fun j hj => by
   rcases hj with hj | hj
   ·exact .inl hj
   ·exact .inr hj.1) (fun j hj => by omega)
 have d5b:=d5a.table
 rw [e5a,List.nil_append] at d5b
 have d5c:DLawB ⟨wc,fun j => (j < w1.heap.size∨(w3.heap.size≤j∧j < w5.heap.size+1))∨j=w5.heap.size+1+1⟩ wc fb tb kDS0 [(w5.heap.size+1,noTab)] :=
  d5b.rebase (t5c.mono (fun _ _ h => h.elim)) (fun j hj => hj.imp id (fun e => by omega)) (fun j hj => by omega)
 have df:DLawB ⟨wf,fun j => j < w.heap.size∨C j≠(0,0)⟩ wf fb tb kDS0 [(w5.heap.size+1,noTab)] :=
  d5c.rebase (tg.mono (fun j _ e => .inl (.inr (by omega)))) (fun j hj => by
   rcases hj with hj | hj
   ·exact .inl (.inl (.inl (by omega)))
   ·have:=(hold j hj).2
    rcases this with h | h | h | h
    ·exact .inl (.inl (.inl h))
    ·exact .inl (.inl (.inr h))
    ·exact .inl (.inr h)
    ·exact .inr (by omega)) (fun j hj => by
   rcases hj with hj | hj
   ·omega
   ·exact (hold j hj).1.2)
 refine ⟨C,hk 0 _ rfl,hk 1 _ rfl,hk 2 _ rfl,hk 3 _ rfl,hk 4 _ rfl,fun i o ho => ?_,?_,fun q hq => ?_,hvc.turned tg (fun j hj e => ?_),(hT.turned tc (fun _ _ => id)).turned tg (fun j hj e => ?_),df,?_,?_,fun i o ho => ?_,fun i o ho => ?_,fun j hj => ?_,fun j hj => ?_,fun j hj => (hold j hj).1,?_⟩
 ·obtain ⟨rfl,rfl⟩:=one_get ho
  exact ⟨_,_,rfl,rfl,hO.turned tg (by omega),(hl.turned (t5.trans tc) id).turned tg (by omega)⟩
 ·exact hm6.turned tf id
 ·have hq:q∈[((1:Int),0)]:=hq
  rw [List.mem_singleton.1 hq]
  exact ⟨_,rfl⟩
 ·have:=hAF j (by rw [hAFe]; exact hj)
  omega
 ·have:=hTF j (by rw [hTFe]; exact hj)
  omega
 ·rw [hC,if_pos rfl]
 ·rw [hC,if_neg (by show ¬ w5.heap.size=w6.heap.size; omega),if_pos rfl]
 ·obtain ⟨rfl,rfl⟩:=one_get ho
  rw [hC,if_neg (by show ¬ w5.heap.size+1+1=w6.heap.size; omega),if_neg (by show ¬ w5.heap.size+1+1=w5.heap.size; omega),if_pos rfl]
 ·obtain ⟨rfl,rfl⟩:=one_get ho
  rw [hC,if_neg (by show ¬ lb=w6.heap.size; omega),if_neg (by show ¬ lb=w5.heap.size; omega),if_neg (by show ¬ lb=w5.heap.size+1+1; omega),if_pos rfl]
 ·have hj:AF j:=by rw [hAFe]; exact hj
  have:=hAF j hj
  rw [hC,if_neg (by omega),if_neg (by omega),if_neg (by omega),if_neg (by omega),if_pos hj]
 ·have hj:TF j:=by rw [hTFe]; exact hj
  have:=hTF j hj
  have hn:¬ AF j:=fun h => by have:=hAF j h; omega
  rw [hC,if_neg (by omega),if_neg (by omega),if_neg (by omega),if_neg (by omega),if_neg hn,if_pos hj]
 ·exact ((((((t1.trans hd3).trans t4).trans tl).trans t5).trans tc).trans' tg (fun j hj e => by omega))
def NewTo (n:Nat) (w:World) (e:Ending) (w':World):Prop :=
 ∃ (a:KA) (t:St) (sp pm tab ob lb b:Nat),e=.returned (.tuple #[.pointer (some ⟨a.kb,0,none⟩),.nilIface])∧a.n=n∧(∀ f,t.R f=0)∧(∀ f g,t.m f g=0)∧KIs w w' a (newKS t sp pm tab ob lb b)∧KOk (newKS t sp pm tab ob lb b)
theorem knew_is (n:Nat) (w:World) (h1:1≤n) (h2:n≤256):Calls Tryz.prog 12 #[.int .i64 n] w (NewTo n w):=by
 have HN:=hid (vmNewStore_is n w h1 h2)
 unfold NewStoreIs at HN
 clear h1 h2
 unfold NewTo
 go_enter Tryz.func12,Tryz.ntmps12
 go_wp2_with fail
 refine HN.out.mono ?_
 rintro e w1 ⟨s,t,rfl,hst,hR,hm,t1,hft⟩
 have HSt:=hid (show StoreIs w1 s n t∧(∀ f,t.R f=0)∧(∀ f k,t.m f k=0)∧Turn (fun _ => False) w w1∧∀ k,StFoot s t.vs k→w.heap.size≤k from ⟨hst,hR,hm,t1,hft⟩)
 clear hst hR hm t1 hft
 have HTr:=hid (law_new w1)
 go_wp2_with fail
 refine HTr.out.mono ?_
 rintro e w2 ⟨tb,rfl,htr⟩
 have HTl:=hid htr
 have HFi:=hid (law_dnew htr)
 clear htr
 go_wp2_with fail
 refine HFi.out.mono ?_
 rintro e w3 ⟨fb,rfl,hfl⟩
 have HFl:=hid hfl
 have HSp:=hid (vmNew_is s.sb w3)
 unfold NewSpaceIs at HSp
 clear hfl
 go_wp2_with fail
 refine HSp.out.mono ?_
 rintro e w4 ⟨sp,pm,rfl,hsp,t4,hs1,hs2⟩
 have HSpI:=hid (show SpIs w4 sp pm s.sb noP∧Turn (fun _ => False) w3 w4∧w3.heap.size≤sp∧w3.heap.size≤pm from ⟨hsp,t4,hs1,hs2⟩)
 clear hsp t4 hs1 hs2
 go_wp2_with fail
 have hL0:=ledger_new2 w4 104
 obtain ⟨lb,hlb⟩:∃ lb,lb=w4.heap.size:=⟨_,rfl⟩
 rw [← hlb] at hL0 ⊢
 have HL0:=hid hL0
 have HLb:=hid hlb
 clear hL0 hlb
 go_loopg [40] (3) (fun gl i wr => ∃ j:Nat,j+gl=3∧i=.int .i64 j∧Hid (LedgerIs wr lb (fun _ => 0) (mostN j)∧Turn (fun _ => False) w4 wr))
 case atStart => exact ⟨0,by omega,rfl,HL0⟩
 case round =>
  obtain ⟨j,hj,rfl,hS⟩:=hrel
  by_cases hlt:j < 3
  ·have hlt':(j:Int) < 3:=by omega
   have ix:=idx_lim j hlt wr
   have hb3:0≤lim3 j∧lim3 j≤1000000:=by
    unfold lim3
    repeat' split
    all_goals omega
   have HLi:=hid (limit_ok hS.out.1 j (lim3 j) hlt hb3.1 hb3.2)
   rw [mostN_step] at HLi
   go_wp2_with fail
   refine HLi.out.mono ?_
   rintro e w5 ⟨rfl,hl5,t5⟩
   have HS5:=hid (show LedgerIs w5 lb (fun _ => 0) (mostN (j+1))∧Turn (fun _ => False) w4 w5 from ⟨hl5,hS.out.2.trans' t5 (fun q hq e => by have:=HLb.out; omega)⟩)
   clear hl5 t5 hb3
   go_wp2_with fail
   go_roundg (gk - 1)
   case measure => omega
   case rel => exact ⟨j+1,by omega,by go_num,HS5⟩
  ·have hj3:j=3:=by omega
   subst hj3
   have hs:=hS.out
   have HL3:=hid hs
   clear hs hS HL0
   have HPn:=hid (proc_new wr)
   unfold NewTab at HPn
   go_wp2_with fail
   refine HPn.out.mono ?_
   rintro e w5 ⟨pb,pm2,b,rfl,hT,t5,hTf⟩
   have HT5:=hid (show PrTab w5 pb pm2 [((1:Int),b)] (fun _ => init)∧Turn (fun _ => False) wr w5∧∀ k,TFoot pb pm2 [((1:Int),b)] k→wr.heap.size≤k from ⟨hT,t5,hTf⟩)
   have hmm:=@run_makeMap Tryz.prog
   have HM:Hid (MapIs (((w5.alloc (.map #[] 0)).alloc (tabObj noTab)).alloc (.cells #[.pointer (some ⟨sp,0,none⟩),.pointer (some ⟨w5.heap.size+1,0,none⟩),.pointer (some ⟨lb,0,none⟩),.int .i64 0] 115)) w5.heap.size (.int .i64) encI ptr ([]:List (Int×Nat))):=hid ((MapIs.made w5).turned (((Turn.refl (fun _ => False) _).alloc _).alloc _) id)
   unfold tabObj noTab at HM
   clear hT t5 hTf
   go_wp2_with (refine wpList_insput rfl _ _ _ 116 3 107 rfl Tryz.underlying116 Tryz.underlying3 keyI w5.heap.size rfl HM.out 1 rfl (w5.heap.size+1+1) rfl ?_; intro w6 hm6 t6; have HM6:=hid hm6; have HT6:=hid t6; clear hm6 t6)
   go_returns
   exact ⟨⟨w6.heap.size,s,n,tb,fb,pb,pm2,w5.heap.size⟩,t,sp,pm,w5.heap.size+1,w5.heap.size+1+1,lb,b,rfl,rfl,HSt.out.2.1,HSt.out.2.2.1,knew_kin HSt.out.1 HSt.out.2.1 HSt.out.2.2.2.1 HSt.out.2.2.2.2 HFl.out HSpI.out.1 HSpI.out.2.1 HSpI.out.2.2.1 HSpI.out.2.2.2 HL3.out.1 HL3.out.2 HLb.out HT5.out.1 HT5.out.2.1 HT5.out.2.2 HM6.out HT6.out,knew_ok t sp pm _ _ lb b⟩
end
section
variable {W w w' w1:World} {a:KA} {k k':KS} {C C':Nat→Nat×Nat} {pid:Int} {i j:Nat} {o:KO} {x:Spc} {y:Nat×PTab}
theorem resP_none:resP (fun _ => none)=0:=sumN_zero fun i _ => rfl
theorem resO_some (p:Pg):resO (some p)=if 0≤p.2 then 1 else 0:=rfl
theorem resP_set (P:Int→Option Pg) (i:Int) (q:Option Pg) (h0:0≤i) (h:i < 64):resP (setP P i q)+resO (P i)=resP P+resO q:=by
 obtain ⟨j,rfl⟩:∃ j:Nat,i=j:=⟨i.toNat,by omega⟩
 have h1:=sumN_upd (fun i:Nat => resO (P (i:Int))) j (resO q) 64 (by omega)
 have h2:(fun i:Nat => resO (setP P (j:Int) q (i:Int)))=fun i:Nat => if i=j then resO q else resO (P (i:Int)):=by
  funext i
  unfold setP
  by_cases e:i=j
  ·subst e; rw [if_pos rfl,if_pos rfl]
  ·rw [if_neg e]
   have e2:(if ((i:Nat):Int)=(j:Int) then q else P (i:Int))=P (i:Int):=if_neg (by omega)
   simp only [e2]
 unfold resP
 rw [h2]
 exact h1
theorem resP_mapP (a n prot:Int):resP (mapP noP a n prot)=0:=sumN_zero fun i _ => by
 unfold mapP
 split
 ·rw [resO_some,if_neg (by show ¬ (0:Int)≤-1; decide)]
 ·rfl
theorem forkC_two {b:Nat} {c:Int} (hk:k.pl=[((1:Int),b)]) (h:ForkC k c):c=2:=by
 obtain ⟨h1,h2,h3,h4⟩:=h
 rw [hk] at h3 h4
 by_cases e:c=1
 ·rw [e] at h3; cases h3
 ·by_cases e2:c=2
  ·exact e2
  ·have h5:=h4 2 (by decide) (by omega)
   cases h5
theorem went_none {go:List Int} (hu:usedN k.t.R a.n≠a.n) (h:Went a k go k'):go=[]∧k'=k:=by
 cases go with
 | nil => exact ⟨rfl,h⟩
 | cons v go =>
  obtain ⟨k1,hg,_⟩:=h
  exact absurd hg.1 hu
theorem KIn.used_le (h:KIn W w a k C):usedN k.t.R a.n≤sumR k.l:=h.vm.sum
theorem Mine.born (hm:Mine k pid i o x y) (hok:KOk k) {b:Nat} {z:ForkNew} (hC:ForkC k z.c):Mine (forkK k pid o x y b z) z.c k.os.length ⟨z.ob,z.lb,o.u,o.m,o.adj⟩ ⟨z.sp,z.pm,x.P⟩ (z.ub,y.2):=by
 have hno:=hok.no_own hC.2.2.1
 obtain ⟨l1,l2,_⟩:=hok.len
 refine ⟨?_,?_,?_,?_⟩
 ·show mget (k.ow ++ [(z.c,k.os.length)]) z.c=_
  rw [mget_snoc hno,if_pos rfl]
 ·show (k.os ++ [_])[k.os.length]?=_
  simp
 ·show (k.l ++ [_])[k.os.length]?=_
  rw [← l1]; simp
 ·show (k.ts ++ [_])[k.os.length]?=_
  rw [← l2]; simp
theorem Mine.stepped {P':Int→Option Pg} {t':St} {u':Nat→Int} (hm:Mine k pid i o x y):Mine (stepK k i o x P' t' u') pid i { o with u:=u' } ⟨x.sp,x.pm,P'⟩ y :=
 ⟨hm.own,set_at hm.ko,set_at hm.sp,hm.tab⟩
theorem store_new {p q v z:Int} (hm:Mine k pid i o x y) (hP:x.P p=some (3,-1)) (hq:0≤q∧q < 8) (hu:usedN k.t.R a.n≠a.n) (h:StoreOn a k i x p q v z k') :
  z=0∧∃ (f:Int) (t':St),0≤f∧f < a.n∧t'.m=newM k.t.m (-1) f q v∧k'={ k with t:=t',l:=k.l.set i ⟨x.sp,x.pm,setP x.P p (some (3,f))⟩ }:=by
 have hE:accE x.P p q 2=0:=by
  unfold accE
  rw [hP]
  simp only [Option.elim]
  rw [if_neg (by omega),if_neg (by decide)]
 rcases h with ⟨h1,_⟩ | ⟨_,_,_,g,hg,⟨⟨h1,_⟩,_⟩ | ⟨_,_,h2,_⟩ | ⟨_,h3,f,t',f0,fn,_,hmm,e⟩⟩
 ·exact absurd hE h1
 ·rw [hP] at hg; cases hg
  exact absurd h1 (by decide)
 ·exact absurd h2 hu
 ·rw [hP] at hg; cases hg
  exact ⟨h3,f,t',f0,fn,hmm,e⟩
def KDone (W:World) (a:KA) (Q:KS→Prop) (w':World):Prop:=∃ k' C',KIn W w' a k' C'∧KOk k'∧Q k'
theorem kept_map (h:KIn W w a k C) (hok:KOk k) (hm:Mine k 2 1 o x y) (hLd:Laid W) (hP:x.P=noP) (hu:o.u 0=0) (hmm:o.m 0=64) (hl:k.l.length=2∧∃ x0,k.l[0]?=some x0∧resP x0.P=0) :
  Calls Tryz.prog 45 #[.pointer (some ⟨a.kb,0,none⟩),.int .i64 2,.int .i64 0,.int .i64 2,.int .i64 3] w fun e w' => e=.returned .nilIface∧KDone W a (fun k' => (∃ o',Mine k' 2 1 o' ⟨x.sp,x.pm,mapP noP 0 2 3⟩ y)∧sumR k'.l=0∧∃ x0 x1,k'.l=[x0,x1]∧resP x0.P=0) w':=by
 have hE:kmapE o x 0 2 3=0:=by
  unfold kmapE
  rw [hP,show mapE noP 0 2 3=0 from by kernel_rfl,if_neg (by simp),hu,hmm]; rfl
 refine (kmap_yes h hok hm hLd 0 2 3).mono ?_
 rintro e w' ⟨rfl,k',⟨C',h1⟩,h2,h3,_⟩
 rw [hE]
 have e1:=h3 hE
 subst e1
 rw [hP] at h1 h2
 obtain ⟨hl2,x0,hx0,hr0⟩:=hl
 obtain ⟨z0,z1,ez⟩:∃ z0 z1,k.l=[z0,z1]:=by
  match hkl:k.l,hl2 with
  | [z0,z1],_ => exact ⟨z0,z1,rfl⟩
 have e0:z0=x0:=by rw [ez] at hx0; exact Option.some.inj hx0
 subst e0
 refine ⟨rfl,_,C',h1,h2,⟨_,by have h9:=hm.stepped (P':=mapP noP 0 2 3) (t':=k.t) (u':=upd o.u 0 (o.u 0+2)); exact h9⟩,?_,z0,⟨x.sp,x.pm,mapP noP 0 2 3⟩,?_,hr0⟩
 ·show sumR (k.l.set 1 ⟨x.sp,x.pm,mapP noP 0 2 3⟩)=0
  rw [ez]
  show resP z0.P+(resP (mapP noP 0 2 3)+0)=0
  rw [hr0,resP_mapP]
 ·show k.l.set 1 _=_
  rw [ez]; rfl
theorem kept_store (h:KIn W w a k C) (hok:KOk k) (hm:Mine k 2 1 o ⟨x.sp,x.pm,mapP noP 0 2 3⟩ y) (hLd:Laid W) (ha:a.n=4) (hs:sumR k.l=0) (hl:∃ x0 x1,k.l=[x0,x1]∧resP x0.P=0) :
  Calls Tryz.prog 28 #[.pointer (some ⟨a.kb,0,none⟩),.int .i64 2,.int .i64 0,.int .i64 1,.int .i64 5] w fun e w' => ∃ b cap,e=.returned (.tuple #[.slice b 0 cap,.nilIface])∧KDone W a (fun k' => ∃ o' x' ,Mine k' 2 1 o' x' y∧accE x'.P 0 1 1=0∧loadV x'.P k'.t.m 0 1=5∧sumR k'.l=1∧resP x'.P=1∧∃ x0,k'.l=[x0,x']∧resP x0.P=0) w':=by
 have hu:usedN k.t.R a.n≠a.n:=by
  have:=h.used_le
  omega
 refine (kstore_yes h hok hm hLd 0 1 5).mono ?_
 rintro e w' ⟨row,go,k1,k',z,C',rfl,hrow,_,hw,_,h1,_,h2,hX⟩
 obtain ⟨rfl,rfl⟩:=went_none hu hw
 rcases hX with ⟨hm1,hst,_⟩ | ⟨_,_,go1,e⟩
 ·obtain ⟨rfl,f,t',f0,fn,hmm,rfl⟩:=store_new hm1 (by show mapP noP 0 2 3 0=_; rfl) (by omega) hu hst
  obtain ⟨b,cap,rfl⟩:=hrow.slice
  obtain ⟨x0,x1,ez,hr0⟩:=hl
  have hrs:resP (setP (mapP noP 0 2 3) 0 (some (3,f)))=1:=by
   have h5:=resP_set (mapP noP 0 2 3) 0 (some (3,f)) (by decide) (by decide)
   rw [resP_mapP,show mapP noP 0 2 3 0=some (3,-1) from rfl,resO_some,resO_some,if_neg (by decide),if_pos (by exact f0)] at h5
   exact h5
  have hg:setP (mapP noP 0 2 3) 0 (some (3,f)) 0=some (3,f):=if_pos rfl
  have hA:accE (setP (mapP noP 0 2 3) 0 (some (3,f))) 0 1 1=0:=by
   unfold accE
   rw [hg]; rfl
  refine ⟨b,cap,rfl,_,C',h1,h2,o,⟨x.sp,x.pm,setP (mapP noP 0 2 3) 0 (some (3,f))⟩,⟨hm1.own,hm1.ko,set_at hm1.sp,hm1.tab⟩,hA,?_,?_,hrs,x0,?_,hr0⟩
  ·unfold loadV
   rw [if_pos hA]
   unfold wordV
   show (if ((setP (mapP noP 0 2 3) 0 (some (3,f)) 0).getD noPg).2 < 0 then 0 else _)=_
   rw [hg]
   show (if f < 0 then (0:Int) else t'.m f.toNat (1:Int).toNat)=5
   rw [if_neg (by omega),hmm]
   unfold newM memSet
   exact if_pos ⟨rfl,rfl⟩
  ·show sumR (k1.l.set 1 _)=1
   rw [ez]
   show resP x0.P+(resP (setP (mapP noP 0 2 3) 0 (some (3,f)))+0)=1
   rw [hr0,hrs]
  ·show k1.l.set 1 _=_
   rw [ez]; rfl
 ·cases go1 <;> cases e
theorem kept_is (w:World) (hLd:Laid w):Calls Tryz.prog 11 #[] w fun e w' => e=.returned (.bool true)∧Turn (fun _ => False) w w':=by
 have HLd:=hid hLd
 have HN:=hid (knew_is 4 w (by decide) (by decide))
 unfold NewTo at HN
 clear hLd
 go_enter Tryz.func11,Tryz.ntmps11
 go_wp2_with fail
 refine HN.out.mono ?_
 rintro e w1 ⟨a,t,sp,pm,tab,ob,lb,b,rfl,ha,hR,hm0,⟨C1,hk1⟩,hok1⟩
 have hm1:Mine (newKS t sp pm tab ob lb b) 1 0 ⟨ob,lb,fun _ => 0,mostN 3,0⟩ ⟨sp,pm,noP⟩ (tab,noTab):=⟨rfl,rfl,rfl,rfl⟩
 have HF:=hid (kfork_yes hk1 hok1 hm1 (by show (1:Nat) < 100; decide))
 unfold ForkTo at HF
 have HX1:=hid (show a.n=4∧KOk (newKS t sp pm tab ob lb b) from ⟨ha,hok1⟩)
 clear ha hR hm0 hk1 hok1 hm1
 go_wp2_with fail
 refine HF.out.mono ?_
 rintro e w2 (⟨h24,_⟩ | ⟨_,b2,z,hb2,hC,hnb,rfl,⟨C2,hk2⟩,hok2⟩)
 ·exact absurd h24 (by show ¬ 24≤(1:Nat); decide)
 have hm1:Mine (newKS t sp pm tab ob lb b) 1 0 ⟨ob,lb,fun _ => 0,mostN 3,0⟩ ⟨sp,pm,noP⟩ (tab,noTab):=⟨rfl,rfl,rfl,rfl⟩
 have hc2:z.c=2:=forkC_two rfl hC
 have hm2:=hm1.born HX1.out.2 (b:=b2) hC
 rw [hc2] at hm2 ⊢
 have HM:=hid (kept_map hk2 hok2 hm2 HLd.out rfl rfl rfl ⟨rfl,⟨sp,pm,noP⟩,rfl,resP_none⟩)
 clear hm1 hc2 hm2 hb2 hC hnb hk2 hok2
 go_wp2_with fail
 refine HM.out.mono ?_
 rintro e w3 ⟨rfl,k3,C3,hk3,hok3,⟨o3,hm3⟩,hs3,hl3⟩
 have HS:=hid (kept_store hk3 hok3 (x:=⟨z.sp,z.pm,noP⟩) hm3 HLd.out HX1.out.1 hs3 hl3)
 clear hk3 hok3 hm3 hs3 hl3
 go_wp2_with fail
 refine HS.out.mono ?_
 rintro e w4 ⟨br,cap,rfl,k4,C4,hk4,hok4,o4,x4,hm4,hA4,hv4,hs4,hr4,x0,hl4,hr0⟩
 have hLo:=kload_yes hk4 hok4 hm4 0 1
 unfold LoadIs at hLo
 rw [hA4,hv4,show VmErr 0=.nilIface from rfl] at hLo
 have HLo:=hid hLo
 have hu:kUsed a k4=1:=by
  have h1:=hk4.used_le
  have h2:=hk4.vm.most hm4.sp
  unfold kUsed
  omega
 have HX4:=hid (show KIn w w4 a k4 C4∧KOk k4∧Mine k4 2 1 o4 x4 (z.ub,(tab,noTab).2)∧(kUsed a k4=1)∧k4.l=[x0,x4]∧resP x0.P=0 from ⟨hk4,hok4,hm4,hu,hl4,hr0⟩)
 clear hLo hk4 hok4 hm4 hA4 hv4 hs4 hr4 hl4 hr0 hu
 go_wp2_with fail
 refine HLo.out.mono ?_
 rintro e w5 ⟨rfl,t5⟩
 have hk5:=HX4.out.1.still t5
 have hLe:=kleft_is hk5
 rw [HX4.out.2.2.2.1,HX1.out.1] at hLe
 have HLe:=hid hLe
 have HEx:=hid (kexit_yes hk5 HX4.out.2.1 HX4.out.2.2.1 0)
 unfold ExitTo at HEx
 rw [show exE 2=0 from rfl,show VmErr 0=.nilIface from rfl] at HEx
 clear hk5 hLe t5
 go_wp2_with fail
 refine HLe.out.mono ?_
 rintro e w6 ⟨rfl,hw⟩; subst w6
 go_wp2_with fail
 refine HEx.out.mono ?_
 rintro e w7 ⟨rfl,k7,⟨C7,hk7⟩,hok7,hR7,_⟩
 have hu7:kUsed a k7=0:=by
  obtain ⟨t',b',_,_,e7⟩:=hR7 rfl
  have h1:=hk7.used_le
  have h2:sumR k7.l=0:=by
   rw [e7]
   show sumR (k4.l.set 1 ⟨x4.sp,x4.pm,fun _ => none⟩)=0
   rw [HX4.out.2.2.2.2.1]
   show resP x0.P+(resP (fun _ => none)+0)=0
   rw [HX4.out.2.2.2.2.2,resP_none]
  unfold kUsed
  omega
 have hLe7:=kleft_is hk7
 rw [hu7,HX1.out.1] at hLe7
 have HLe7:=hid hLe7
 have HT7:=hid hk7.turn
 clear hu7 hLe7 hk7 hok7 hR7
 go_wp2_with fail
 refine HLe7.out.mono ?_
 rintro e w8 ⟨rfl,hw⟩; subst w8
 go_wp2_with fail
 go_returns
 exact ⟨rfl,HT7.out⟩
end
end Go.Proofs.YtamleilijmgoeaaGreatDoor
