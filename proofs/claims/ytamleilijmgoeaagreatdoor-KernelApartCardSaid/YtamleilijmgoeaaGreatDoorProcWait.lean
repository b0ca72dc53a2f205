/- Package proc: Wait. Conditions: each theorem's own premises. Package proc: who is whose: the table's own law, kept by each call. Conditions: each theorem's own premises. -/
import Derived.Test.YtamleilijmgoeaaGreatDoorProcPids
import Derived.Test.YtamleilijmgoeaaGreatDoorProc
import Derived.Test.YtamleilijmgoeaaGreatDoorBase
import Derived.Deep.RegionWith
import Derived.Deep.RegionHeld3
import Derived.OwnWalk
namespace Go.Proofs.YtamleilijmgoeaaGreatDoor
open Go.RowKit
set_option linter.unusedVariables false
set_option maxHeartbeats 4000000
set_option maxRecDepth 100000
section
open Go.RowKit Go.Shelf
def parR (l:List (Int×Nat)) (f:Nat→Pr) (pid:Int):Int:=(mget l pid).elim 0 fun b => (f b).parent
def ownOf (l:List (Int×Nat)) (f:Nat→Pr) (pid:Int):List Int:=(pidsOf l).filter fun k => !(parR l f k != pid)
theorem mem_pidsOf {l:List (Int×Nat)} {k:Int}:k∈pidsOf l ↔ k∈l.map (·.1):=by
 unfold pidsOf
 rw [List.mem_mergeSort]
theorem mget_of_key {l:List (Int×Nat)} {k:Int} (h:k∈l.map (·.1)):∃ b,mget l k=some b:=by
 cases e:mget l k with
 | some b => exact ⟨b,rfl⟩
 | none =>
  obtain ⟨t,ht,rfl⟩:=List.mem_map.1 h
  exact absurd rfl (mget_none_iff.1 e t ht)
theorem pidsOf_length (l:List (Int×Nat)):(pidsOf l).length=l.length:=by unfold pidsOf; rw [List.length_mergeSort]; simp
theorem wait1_is {w:World} {tb mb:Nat} {l:List (Int×Nat)} {f:Nat→Pr} (h:PrTab w tb mb l f) (pt pp:Nat) (pid k:Int) (hk:k∈l.map (·.1)) (ht:w.cell? ⟨pt,0,none⟩=some (.pointer (some ⟨tb,0,none⟩))) (hp:w.cell? ⟨pp,0,none⟩=some (.int .i64 pid)) :
  Calls Tryz.prog 177 #[.int .i64 k,.pointer (some ⟨pt,0,none⟩),.pointer (some ⟨pp,0,none⟩)] w fun e w' => e=.returned (.bool (parR l f k != pid))∧Turn (fun _ => False) w w':=by
 obtain ⟨b,hb⟩:=mget_of_key hk
 have lk:=fun n => lookup_pid (h.mp.turned ((Turn.refl (fun _ => False) w).drewN n) id) k
 have hh:=h.hdr
 unfold whereP at lk
 unfold parR
 rw [hb] at lk ⊢
 simp only [Option.elim,ptr] at lk ⊢
 have c0:=(h.pr _ (mem_of_mget hb)).c0
 simp only at c0
 clear h hb hk
 go_enter Tryz.func177,Tryz.ntmps177
 go_wp2_with fail
 go_quiet (fail)
 go_wp2_with fail
 go_ret
 exact ⟨rfl,(Turn.refl _ _).drewN _⟩
theorem wait2_is {w:World} {tb mb:Nat} {l:List (Int×Nat)} {f:Nat→Pr} (h:PrTab w tb mb l f) (pt:Nat) (k:Int) (hk:k∈l.map (·.1)) (ht:w.cell? ⟨pt,0,none⟩=some (.pointer (some ⟨tb,0,none⟩))) :
  Calls Tryz.prog 179 #[.int .i64 k,.pointer (some ⟨pt,0,none⟩)] w fun e w' => e=.returned (.bool (stR l f k == 2))∧Turn (fun _ => False) w w':=by
 obtain ⟨b,hb⟩:=mget_of_key hk
 have lk:=lookup_pid h.mp k
 have hh:=h.hdr
 unfold whereP at lk
 unfold stR
 rw [hb] at lk ⊢
 simp only [Option.elim,ptr] at lk ⊢
 have c1:=(h.pr _ (mem_of_mget hb)).c1
 simp only at c1
 clear h hb hk
 go_enter Tryz.func179,Tryz.ntmps179
 go_wp2_with fail
 go_ret
 exact ⟨rfl,Turn.refl _ _⟩
theorem enter_wait1 (args:Array Value) (w:World):(callFunc 177 args).run Tryz.prog w=.ok (.enter 177 args) w:=by kernel_rfl
theorem enter_wait2 (args:Array Value) (w:World):(callFunc 179 args).run Tryz.prog w=.ok (.enter 179 args) w:=by kernel_rfl
theorem wait_missing {w:World} {tb mb:Nat} {l:List (Int×Nat)} {f:Nat→Pr} (h:PrTab w tb mb l f) (pid:Int) (hr:¬ RunsIn l f pid) :
  Calls Tryz.prog 85 #[.pointer (some ⟨tb,0,none⟩),.int .i64 pid] w fun e w' => e=.returned (.tuple #[.int .i64 0,.int .i64 0,.iface 36 (.int .i64 7)])∧Turn (fun _ => False) w w':=by
 have T0:Turn (fun _ => False) w ((w.alloc (.cells #[.pointer (some ⟨tb,0,none⟩)] 105)).alloc (.cells #[.int .i64 pid] 3)):=((Turn.refl _ _).alloc _).alloc _
 have HR:=hid (runs_no (h.turned T0 (fun _ _ => id)) pid hr)
 clear h hr
 go_enter Tryz.func85,Tryz.ntmps85
 go_wp2_with fail
 refine HR.out.mono ?_
 rintro e w1 ⟨rfl,rfl⟩
 go_wp2_with fail
 go_ret3
 exact ⟨rfl,T0⟩
def Waited (tb mb:Nat) (l:List (Int×Nat)) (f:Nat→Pr) (pid:Int) (w:World) (e:Ending) (w':World):Prop :=
 (ownOf l f pid=[]∧e=.returned (.tuple #[.int .i64 0,.int .i64 0,.iface 36 (.int .i64 8)])∧Turn (fun _ => False) w w') ∨
 (ownOf l f pid≠[]∧(∀ k∈ownOf l f pid,stR l f k≠2)∧e=.returned (.tuple #[.int .i64 0,.int .i64 0,.iface 36 (.int .i64 6)])∧Turn (fun _ => False) w w') ∨
 (∃ (j:Nat) (k:Int) (b:Nat),(ownOf l f pid)[j]?=some k∧(∀ y∈(ownOf l f pid).take j,stR l f y≠2)∧mget l k=some b∧(f b).state=2∧e=.returned (.tuple #[.int .i64 k,.int .i64 (f b).code,.nilIface])∧PrTab w' tb mb (mdel l k) f∧Turn (fun j => j=mb) w w')
theorem PrTab.del {w w':World} {tb mb:Nat} {l:List (Int×Nat)} {f:Nat→Pr} (h:PrTab w tb mb l f) (k:Int) (hm:MapIs w' mb (.int .i64) encI (fun b:Nat => Value.pointer (some ⟨b,0,none⟩)) (mdel l k)) (t:Turn (fun j => j=mb) w w'):PrTab w' tb mb (mdel l k) f:=by
 have hsub:∀ s∈mdel l k,s∈l:=fun s hs => (List.mem_filter.1 hs).1
 refine ⟨(t.cell (a:=⟨tb,0,none⟩) (lt_of_cell h.hdr) h.ne).trans h.hdr,hm,fun s hs => (h.pr s (hsub s hs)).turned t (h.ap s (hsub s hs)).2,?_,fun s hs => h.ap s (hsub s hs),h.ne⟩
 exact ((List.filter_sublist (p:=fun p:Int×Nat => decide (p.1≠k)) (l:=l)).map (·.2)).nodup h.inj
theorem wait_runs {w:World} {tb mb:Nat} {l:List (Int×Nat)} {f:Nat→Pr} (h:PrTab w tb mb l f) (pid:Int) (hr:RunsIn l f pid) (hwf:∀ t∈l,(Lit.int .i64 t.1).wf=true) (hl:l.length≤1000) :
  Calls Tryz.prog 85 #[.pointer (some ⟨tb,0,none⟩),.int .i64 pid] w (Waited tb mb l f pid w):=by
 obtain ⟨W0,hW0⟩:∃ W0,(w.alloc (.cells #[.pointer (some ⟨tb,0,none⟩)] 105)).alloc (.cells #[.int .i64 pid] 3)=W0:=⟨_,rfl⟩
 have T0:Turn (fun _ => False) w W0:=by rw [← hW0]; exact ((Turn.refl _ _).alloc _).alloc _
 have ht0:W0.cell? ⟨w.heap.size,0,none⟩=some (.pointer (some ⟨tb,0,none⟩)):=by rw [← hW0]; simp
 have hp0:W0.cell? ⟨w.heap.size+1,0,none⟩=some (.int .i64 pid):=by rw [← hW0]; simp
 have hs0:W0.heap.size=w.heap.size+2:=by rw [← hW0]; simp
 have H0:=h.turned T0 (fun _ _ => id)
 have HR:=hid (runs_yes H0 pid hr)
 have HPids:=hid (pids_is H0 hwf (by omega))
 -- behind Pids: the own ones by DeleteFunc
 have HD:∀ w1 v,w1.ownsRow W0.heap.size 3 1 v l.length ((pidsOf l).map fun n:Int => Value.int .i64 n)→Turn (fun _ => False) W0 w1→Calls Tryz.prog 176 #[v,.func (.func 177) #[] #[.pointer (some ⟨w.heap.size,0,none⟩),.pointer (some ⟨w.heap.size+1,0,none⟩)]] w1 (DeletedBy (pidsOf l) (fun k => parR l f k != pid) v w1):=by
  intro w1 v hrow t1
  have hi:IntsAt w1 v (pidsOf l):=by
   unfold IntsAt
   rw [pidsOf_length]
   exact ownsRow_base_a hrow (Nat.zero_le _)
  refine deleteFunc_intsIn hi (by rw [pidsOf_length]; omega) _ _ _ enter_wait1 (fun w2 x hx t2 => ?_)
  have hge:∀ k,v.ownBlock=some k→W0.heap.size≤k:=fun k hk => ownBlock_ge hrow hk
  have t02:Turn (fun k => v.ownBlock=some k) W0 w2:=(t1.mono fun _ _ h => h.elim).trans t2
  have HT2:PrTab w2 tb mb l f:=H0.turned t02 (fun k hk e => by have:=H0.foot_lt k hk; have:=hge k e; omega)
  exact wait1_is HT2 _ _ pid x (mem_pidsOf.1 hx) ((t02.cell (a:=⟨w.heap.size,0,none⟩) (by simp only; omega) (fun e => by have:=hge _ e; simp only at this; omega)).trans ht0) ((t02.cell (a:=⟨w.heap.size+1,0,none⟩) (by simp only; omega) (fun e => by have:=hge _ e; simp only at this; omega)).trans hp0)
 have HI:∀ w1 v own,IntsAt w1 v own→(∀ k∈own,k∈l.map (·.1))→own.length≤1000→PrTab w1 tb mb l f→w1.cell? ⟨w.heap.size,0,none⟩=some (.pointer (some ⟨tb,0,none⟩))→w.heap.size+2≤w1.heap.size→Calls Tryz.prog 178 #[v,.func (.func 179) #[] #[.pointer (some ⟨w.heap.size,0,none⟩)]] w1 (FoundBy own (fun k => stR l f k == 2) w1):=by
  intro w1 v own hi ho hol hT ht hsz
  refine indexFunc_intsIn hi (by omega) _ _ _ enter_wait2 (fun w2 x hx t2 => ?_)
  exact wait2_is (hT.turned t2 (fun _ _ => id)) _ x (ho x hx) ((t2.cell (a:=⟨w.heap.size,0,none⟩) (by simp only; omega) id).trans ht)
 have HH0:=hid H0
 have HT0:=hid T0
 replace HD:=hid HD
 replace HI:=hid HI
 have HMl:=hid hl
 subst hW0
 clear h H0 T0 hr hl hwf hs0
 go_enter Tryz.func85,Tryz.ntmps85
 go_wp2_with fail
 refine HR.out.mono ?_
 rintro e w1 ⟨rfl,rfl⟩
 go_wp2_with fail
 refine HPids.out.mono ?_
 rintro e w1 ⟨v,rfl,hrow,hbel⟩
 have t1:Turn (fun _ => False) _ w1:=⟨hbel.os,hbel.tape,hbel.output,hbel.size,fun k hk _ => hbel.block k hk⟩
 have HRow:=hid hrow
 have HT1:=hid t1
 have HD1:=hid (HD.out w1 v hrow t1)
 clear hrow hbel t1
 go_wp2_with fail
 refine HD1.out.mono ?_
 rintro e w2 ⟨v',rfl,hi2,ho2,t2⟩
 have hge:∀ k,v.ownBlock=some k→w.heap.size+2≤k:=fun k hk => by have:=ownBlock_ge HRow.out hk; simp only [World.size_alloc] at this; omega
 have t02:=(HT1.out.mono fun _ _ h => h.elim).trans t2
 have HT2:Hid (Turn (fun _ => False) w w2):=hid (HT0.out.trans' t02 (fun k hk e => by have:=hge k e; omega))
 have HTab:Hid (PrTab w2 tb mb l f):=hid (HH0.out.turned t02 (fun k hk e => by have h1:=HH0.out.foot_lt k hk; have h2:=hge k e; simp only [World.size_alloc] at h1; omega))
 have hct:w2.cell? ⟨w.heap.size,0,none⟩=some (.pointer (some ⟨tb,0,none⟩)):=(t02.cell (a:=⟨w.heap.size,0,none⟩) (by simp only [World.size_alloc]; omega) (fun e => by have:=hge _ e; simp only at this; omega)).trans ht0
 have hsz2:w.heap.size+2≤w2.heap.size:=by have:=t02.size; simp only [World.size_alloc] at this; omega
 obtain ⟨own,hown⟩:∃ own,ownOf l f pid=own:=⟨_,rfl⟩
 change IntsAt w2 v' (ownOf l f pid) at hi2
 have hol:own.length≤1000:=by
  rw [← hown]
  refine Nat.le_trans (List.length_filter_le _ _) ?_
  rw [pidsOf_length]; exact HMl.out
 have hok:∀ k∈own,k∈l.map (·.1):=fun k hk => by
  rw [← hown] at hk
  exact mem_pidsOf.1 (List.mem_filter.1 hk).1
 rw [hown] at hi2
 have HOwn:=hid hown
 have HOk:=hid hok
 have HIx:=hid (HI.out w2 v' own hi2 hok hol HTab.out hct hsz2)
 have HOl:=hid hol
 clear ht0 hp0 hown hok t02 t2 hge ho2 HT1 HRow HD HD1 HI HPids HR HT0 HH0 hol
 rcases hi2.shape with ⟨rfl,rfl⟩ | ⟨b,cap,rfl,hc1,hc2,hb2⟩
 ·go_wp2_with fail
  go_ret3
  exact .inl ⟨HOwn.out,rfl,HT2.out⟩
 ·by_cases h0:own=[]
  ·subst h0
   simp only [List.length_nil] at *
   go_wp2_with fail
   go_ret3
   exact .inl ⟨HOwn.out,rfl,HT2.out⟩
  ·have hl0:own.length≠0:=fun e => h0 (List.length_eq_zero_iff.1 e)
   have hl1:((own.length:Int) == 0)=false:=beq_eq_false_iff_ne.2 (by omega)
   have HI2:=hid hi2
   have HO0:=hid h0
   clear hi2 h0
   go_wp2_with fail
   refine HIx.out.mono ?_
   rintro e w3 ⟨r,rfl,t3,⟨rfl,hno⟩ | ⟨j,x,hj,hp0,rfl,hno⟩⟩
   ·have HN:=hid hno
    have HT3:=hid t3
    clear hno t3
    go_wp2_with fail
    go_ret3
    refine .inr (.inl ⟨by rw [HOwn.out]; exact HO0.out,fun k hk => ?_,rfl,HT2.out.trans HT3.out⟩)
    rw [HOwn.out] at hk
    exact of_decide_eq_false (HN.out k hk)
   ·have hjl:=(List.getElem?_eq_some_iff.1 hj).1
    obtain ⟨bx,hbx⟩:=mget_of_key (HOk.out x (List.mem_of_getElem? hj))
    have hct3:w3.cell? ⟨w.heap.size,0,none⟩=some (.pointer (some ⟨tb,0,none⟩)):=(t3.cell (a:=⟨w.heap.size,0,none⟩) (by simp only; omega) id).trans hct
    have hcx:w3.cell? ⟨b,j,none⟩=some (.int .i64 x):=(HI2.out.turned t3 (fun _ _ => id)).cell j x hj
    have HTab3:=hid (HTab.out.turned t3 (fun _ _ => id))
    have HT3:=hid (HT2.out.trans t3)
    have hh:=HTab3.out.hdr
    have lk:=lookup_pid HTab3.out.mp x
    unfold whereP at lk
    rw [hbx] at lk
    simp only [Option.elim,ptr] at lk
    have c2:=(HTab3.out.pr _ (mem_of_mget hbx)).c2
    simp only at c2
    have HN:=hid hno
    have HJ:=hid hj
    have HP0:=hid hp0
    have HB:=hid hbx
    clear hno t3 hj hp0 hbx hct HT2 HTab HIx
    go_wp2_with (at_delete; refine wpList_mapdel rfl _ _ 230 3 227 rfl Tryz.underlying230 Tryz.underlying3 keyI mb rfl HTab3.out.mp x rfl ?_; intro w4 hm4 t4; have HM4:=hid hm4; have HT4:=hid t4; clear hm4 t4)
    go_ret3
    have hst:(f bx).state=2:=by
     have:=HP0.out
     unfold stR at this
     rw [HB.out] at this
     simpa using this
    refine .inr (.inr ⟨j,x,bx,by rw [HOwn.out]; exact HJ.out,fun y hy => ?_,HB.out,hst,rfl,HTab3.out.del x HM4.out HT4.out,(HT3.out.mono fun _ _ h => h.elim).trans HT4.out⟩)
    rw [HOwn.out] at hy
    exact of_decide_eq_false (HN.out y hy)
end
def Sigs (p:Pr):Prop:=∃ W I:Nat,p.waits=(W:Nat)∧p.ignores=(I:Nat)∧W < 512∧I < 512
structure Kin (l:List (Int×Nat)) (f:Nat→Pr):Prop where
 rng:∀ t∈l,1≤t.1∧t.1≤24
 len:l.length≤24
 nd:MNodup l
 inj:(l.map (·.2)).Nodup
 one:∃ b,mget l 1=some b∧(f b).state=1∧(f b).parent=0
 par:∀ t∈l,t.1≠1→stR l f (f t.2).parent=1
 st:∀ t∈l,(f t.2).state=1∨(f t.2).state=2
 bits:∀ t∈l,Sigs (f t.2)
theorem Kin.wf {l:List (Int×Nat)} {f:Nat→Pr} (h:Kin l f):∀ t∈l,(Lit.int .i64 t.1).wf=true:=fun t ht => by
 obtain ⟨h1,h2⟩:=h.rng t ht
 have e1:IntKind.i64.min=-9223372036854775808:=by decide
 have e2:IntKind.i64.max=9223372036854775807:=by decide
 simp [Lit.wf]
 omega
theorem Kin.runs1 {l:List (Int×Nat)} {f:Nat→Pr} (h:Kin l f):RunsIn l f 1:=by
 obtain ⟨b,h1,h2,_⟩:=h.one
 unfold RunsIn stR
 rw [h1]
 exact h2
theorem inj_mem:∀ {l:List (Int×Nat)},(l.map (·.2)).Nodup→∀ {p q b},(p,b)∈l→(q,b)∈l→p=q
 | [],_,_,_,_,h,_ => by cases h
 | t :: l,hn,p,q,b,hp,hq => by
  simp only [List.map_cons,List.nodup_cons] at hn
  rcases List.mem_cons.1 hp with rfl | hp2
  ·rcases List.mem_cons.1 hq with e | hq2
   ·cases e; rfl
   ·exact absurd (show b∈l.map (·.2) from List.mem_map.2 ⟨(q,b),hq2,rfl⟩) hn.1
  ·rcases List.mem_cons.1 hq with rfl | hq2
   ·exact absurd (show b∈l.map (·.2) from List.mem_map.2 ⟨(p,b),hp2,rfl⟩) hn.1
   ·exact inj_mem hn.2 hp2 hq2
theorem stR_congr {l:List (Int×Nat)} {f g:Nat→Pr} (h:∀ t∈l,(g t.2).state=(f t.2).state) (q:Int):stR l g q=stR l f q:=by
 unfold stR
 cases e:mget l q with
 | none => rfl
 | some b => exact h _ (mem_of_mget e)
theorem Kin.congr {l:List (Int×Nat)} {f g:Nat→Pr} (h:Kin l f) (e1:∀ t∈l,(g t.2).parent=(f t.2).parent) (e2:∀ t∈l,(g t.2).state=(f t.2).state) (e3:∀ t∈l,Sigs (g t.2)):Kin l g:=by
 obtain ⟨b,h1,h2,h3⟩:=h.one
 refine ⟨h.rng,h.len,h.nd,h.inj,⟨b,h1,?_,?_⟩,fun t ht hne => ?_,fun t ht => ?_,e3⟩
 ·rw [e2 _ (mem_of_mget h1)]; exact h2
 ·rw [e1 _ (mem_of_mget h1)]; exact h3
 ·rw [stR_congr e2,e1 t ht]; exact h.par t ht hne
 ·rw [e2 t ht]; exact h.st t ht
theorem Kin.upd {l:List (Int×Nat)} {f:Nat→Pr} (h:Kin l f) (b:Nat) (p:Pr) (e1:p.parent=(f b).parent) (e2:p.state=(f b).state) (e3:Sigs p):Kin l (updPr f b p):=by
 refine h.congr (fun t ht => ?_) (fun t ht => ?_) (fun t ht => ?_)
 ·by_cases e:t.2=b
  ·rw [e,updPr_same]; exact e1
  ·rw [updPr_other _ _ e]
 ·by_cases e:t.2=b
  ·rw [e,updPr_same]; exact e2
  ·rw [updPr_other _ _ e]
 ·by_cases e:t.2=b
  ·rw [e,updPr_same]; exact e3
  ·rw [updPr_other _ _ e]; exact h.bits t ht
theorem mget_snoc {l:List (Int×Nat)} {k:Int} {c:Nat} (hn:mget l k=none) (q:Int):mget (l ++ [(k,c)]) q=if q=k then some c else mget l q:=by
 rw [← mput_new hn,mget_mput]
theorem Kin.fork {l:List (Int×Nat)} {f:Nat→Pr} (h:Kin l f) {pid:Int} {b:Nat} (hr:RunsIn l f pid) (hb:mget l pid=some b) {k:Int} {c:Nat} (k1:1≤k) (k24:k≤24) (hn:mget l k=none) (hl:l.length < 24) (hc:∀ t∈l,t.2≠c) :
  Kin (l ++ [(k,c)]) (updPr f c ⟨pid,1,0,0,(f b).ignores⟩):=by
 obtain ⟨b1,h1,h2,h3⟩:=h.one
 have hs:∀ q,q≠k→stR (l ++ [(k,c)]) (updPr f c ⟨pid,1,0,0,(f b).ignores⟩) q=stR l f q:=fun q hq => by
  have e1:mget (l ++ [(k,c)]) q=mget l q:=by rw [mget_snoc hn,if_neg hq]
  have e2:stR (l ++ [(k,c)]) (updPr f c ⟨pid,1,0,0,(f b).ignores⟩) q=stR l (updPr f c ⟨pid,1,0,0,(f b).ignores⟩) q:=by unfold stR; rw [e1]
  rw [e2]
  exact stR_congr (fun t ht => by rw [updPr_other _ _ (hc t ht)]) q
 have hk:∀ q,stR l f q=1→q≠k:=fun q hq e => by
  subst e
  unfold stR at hq
  rw [hn] at hq
  cases hq
 refine ⟨fun t ht => ?_,by simp; omega,?_,?_,⟨b1,?_,?_,?_⟩,fun t ht hne => ?_,fun t ht => ?_,fun t ht => ?_⟩
 ·rcases List.mem_append.1 ht with ht | ht
  ·exact h.rng t ht
  ·rw [List.mem_singleton.1 ht]; exact ⟨k1,k24⟩
 ·rw [← mput_new hn]; exact mput_nodup h.nd k c
 ·rw [List.map_append,List.nodup_append]
  refine ⟨h.inj,by simp,fun x hx y hy e => ?_⟩
  obtain ⟨t,ht,rfl⟩:=List.mem_map.1 hx
  simp at hy
  exact hc t ht (e.trans hy)
 ·rw [mget_snoc hn,if_neg (fun e => by rw [e,hn] at h1; cases h1)]; exact h1
 ·rw [updPr_other _ _ (hc _ (mem_of_mget h1))]; exact h2
 ·rw [updPr_other _ _ (hc _ (mem_of_mget h1))]; exact h3
 ·rcases List.mem_append.1 ht with ht | ht
  ·rw [updPr_other _ _ (hc t ht)]
   have:=h.par t ht hne
   rw [hs _ (hk _ this)]
   exact this
  ·rw [List.mem_singleton.1 ht,updPr_same]
   rw [hs _ (hk _ hr)]
   exact hr
 ·rcases List.mem_append.1 ht with ht | ht
  ·rw [updPr_other _ _ (hc t ht)]; exact h.st t ht
  ·rw [List.mem_singleton.1 ht,updPr_same]; exact .inl rfl
 ·rcases List.mem_append.1 ht with ht | ht
  ·rw [updPr_other _ _ (hc t ht)]; exact h.bits t ht
  ·rw [List.mem_singleton.1 ht,updPr_same]
   obtain ⟨W,I,_,e2,_,i9⟩:=h.bits _ (mem_of_mget hb)
   exact ⟨0,I,rfl,e2,by decide,i9⟩
theorem exitF_self (f:Nat→Pr) (b:Nat) (pid c:Int):(exitF f b pid c b).state=2∧(exitF f b pid c b).waits=0∧(exitF f b pid c b).ignores=(f b).ignores∧(exitF f b pid c b).code=c:=by
 unfold exitF reparent
 rw [updPr_same]
 unfold deadP
 split <;> exact ⟨rfl,rfl,rfl,rfl⟩
theorem exitF_other (f:Nat→Pr) {b j:Nat} (pid c:Int) (h:j≠b):(exitF f b pid c j).state=(f j).state∧(exitF f b pid c j).waits=(f j).waits∧(exitF f b pid c j).ignores=(f j).ignores∧(exitF f b pid c j).code=(f j).code:=by
 unfold exitF reparent
 rw [updPr_other _ _ h]
 split <;> exact ⟨rfl,rfl,rfl,rfl⟩
theorem exitF_parent (f:Nat→Pr) (b j:Nat) (pid c:Int):(exitF f b pid c j).parent=if (f j).parent=pid then 1 else (f j).parent:=by
 unfold exitF reparent
 by_cases e:j=b
 ·subst e
  rw [updPr_same]
  unfold deadP
  simp only
  split <;> rfl
 ·rw [updPr_other _ _ e]
  split <;> rfl
theorem stR_exit {l:List (Int×Nat)} {f:Nat→Pr} (hi:(l.map (·.2)).Nodup) {pid:Int} {b:Nat} (hb:mget l pid=some b) (c q:Int):stR l (exitF f b pid c) q=if q=pid then 2 else stR l f q:=by
 unfold stR
 split
 ·subst q
  rw [hb]
  exact (exitF_self f b pid c).1
 ·rename_i hne
  cases e:mget l q with
  | none => rfl
  | some bq => exact (exitF_other f pid c (fun e2 => hne (inj_mem hi (mem_of_mget e) (by rw [e2]; exact mem_of_mget hb)))).1
theorem Kin.exit {l:List (Int×Nat)} {f:Nat→Pr} (h:Kin l f) {pid:Int} {b:Nat} (hb:mget l pid=some b) (h1:pid≠1) (c:Int):Kin l (exitF f b pid c):=by
 obtain ⟨b1,g1,g2,g3⟩:=h.one
 have hne:b1≠b:=fun e => h1 (inj_mem h.inj (mem_of_mget hb) (by rw [← e]; exact mem_of_mget g1))
 refine ⟨h.rng,h.len,h.nd,h.inj,⟨b1,g1,?_,?_⟩,fun t ht hne => ?_,fun t ht => ?_,fun t ht => ?_⟩
 ·rw [(exitF_other f pid c hne).1]; exact g2
 ·rw [exitF_parent,g3]
  by_cases e:(0:Int)=pid
  ·exfalso
   have:=h.rng _ (mem_of_mget hb)
   simp only at this
   omega
  ·rw [if_neg e]
 ·rw [exitF_parent,stR_exit h.inj hb]
  by_cases e:(f t.2).parent=pid
  ·rw [if_pos e,if_neg (fun e => h1 e.symm)]
   exact h.runs1
  ·rw [if_neg e,if_neg e]
   exact h.par t ht hne
 ·by_cases e:t.2=b
  ·rw [e]; exact .inr (exitF_self f b pid c).1
  ·rw [(exitF_other f pid c e).1]; exact h.st t ht
 ·by_cases e:t.2=b
  ·obtain ⟨W,I,_,e2,_,i9⟩:=h.bits t ht
   rw [e] at e2 ⊢
   exact ⟨0,I,(exitF_self f b pid c).2.1,(exitF_self f b pid c).2.2.1.trans e2,by decide,i9⟩
  ·obtain ⟨W,I,e1,e2,w9,i9⟩:=h.bits t ht
   exact ⟨W,I,(exitF_other f pid c e).2.1.trans e1,(exitF_other f pid c e).2.2.1.trans e2,w9,i9⟩
theorem stR_del {l:List (Int×Nat)} {f:Nat→Pr} (k q:Int):stR (mdel l k) f q=if q=k then 0 else stR l f q:=by
 unfold stR
 rw [mget_mdel]
 split <;> rfl
theorem Kin.del {l:List (Int×Nat)} {f:Nat→Pr} (h:Kin l f) {k:Int} {b:Nat} (hb:mget l k=some b) (hs:(f b).state=2):Kin (mdel l k) f:=by
 have hsub:∀ t∈mdel l k,t∈l∧t.1≠k:=fun t ht => ⟨(List.mem_filter.1 ht).1,of_decide_eq_true (List.mem_filter.1 ht).2⟩
 have hk:∀ q,stR l f q=1→q≠k:=fun q hq e => by
  subst e
  unfold stR at hq
  rw [hb] at hq
  simp only [Option.elim] at hq
  rw [hs] at hq
  cases hq
 obtain ⟨b1,g1,g2,g3⟩:=h.one
 refine ⟨fun t ht => h.rng t (hsub t ht).1,Nat.le_trans (List.length_filter_le _ _) h.len,mdel_nodup h.nd k,((List.filter_sublist (p:=fun p:Int×Nat => decide (p.1≠k)) (l:=l)).map (·.2)).nodup h.inj,⟨b1,?_,g2,g3⟩,fun t ht hne => ?_,fun t ht => h.st t (hsub t ht).1,fun t ht => h.bits t (hsub t ht).1⟩
 ·rw [mget_mdel,if_neg (hk 1 h.runs1)]; exact g1
 ·have:=h.par t (hsub t ht).1 hne
  rw [stR_del,if_neg (hk _ this)]
  exact this
section
variable {w:World} {tb mb:Nat} {l:List (Int×Nat)} {f:Nat→Pr}
theorem runs_block {pid:Int} (hr:RunsIn l f pid):∃ b,mget l pid=some b:=by obtain ⟨b,h,_⟩:=hr.at_; exact ⟨b,h⟩
theorem pfoot_del {k:Int} {j:Nat} (h:TFoot tb mb (mdel l k) j):TFoot tb mb l j:=by
 rcases h with e | e | h
 ·exact .inl e
 ·exact .inr (.inl e)
 ·obtain ⟨t,ht,rfl⟩:=List.mem_map.1 h
  exact .inr (.inr (List.mem_map.2 ⟨t,(List.mem_filter.1 ht).1,rfl⟩))
end
end Go.Proofs.YtamleilijmgoeaaGreatDoor
