/- Package vm: Clear. Conditions: each theorem's own premises. -/
import Derived.Test.YtamleilijmgoeaaGreatDoorVm
import Derived.Test.YtamleilijmgoeaaGreatDoorKeysAny
import Derived.Test.YtamleilijmgoeaaGreatDoorKeysV
namespace Go.Proofs.YtamleilijmgoeaaGreatDoor
set_option linter.unusedVariables false
set_option maxHeartbeats 2000000
set_option maxRecDepth 100000
section
open Go.RowKit Go.Maps Go.Sort Go.Shelf Go.WideElems
section
variable {w w' w1 w2 w3:World} {s:SB} {n:Nat} {t t1 t2:St} {sp pm sb:Nat} {P P':Int→Option Pg} {O:Int→Nat}
def keysOfPg (pl:List (Int×Pg)):List Int:=risen (pl.map (·.1))
theorem keysPg_is (mb:Option Nat) (W:World):Calls Tryz.prog 151 #[.map mb] W fun e w' => e=.returned (.func (.func 228) #[] #[.pointer (some ⟨W.heap.size,0,none⟩)])∧w'=W.alloc (.cells #[.map mb] 224) :=
 callsIn_wide.1 (AnyZI.keys_in laysKeysV Fence.wide 5 trivial rfl mb W)
theorem sortedPg_is {pl:List (Int×Pg)} (h:MapIs w pm (.int .i64) encI encPg pl) (hwf:∀ t∈pl,(Lit.int .i64 t.1).wf=true) (hl:pl.length≤1000000) :
  Calls Tryz.prog 150 #[.func (.func 228) #[] #[.pointer (some ⟨w.heap.size,0,none⟩)]] (w.alloc (.cells #[.map (some pm)] 224)) fun e w' => ∃ v,e=.returned v∧IntsAt w' v (keysOfPg pl)∧(∀ g,v.ownBlock=some g→w.heap.size≤g)∧Turn (fun _ => False) w w':=by
 obtain ⟨D0,hown,hperm,hsize⟩:=h.owns Tryz.underlying3 hwf (by unfold maxLen; omega)
 have hbl:=hown.lt
 have hmax:Maps.size D0≤maxLen:=by rw [hsize]; unfold maxLen; omega
 have hbytes:Maps.size D0 * 8≤140737488355328:=by rw [hsize]; omega
 have hseq:SeqGives Fence.wide 2 Tryz.prog 228 #[.pointer (some ⟨w.heap.size,0,none⟩)] encZ (fun ss => ss.Perm (intKeys D0)) (Maps.size D0) (w.alloc (.cells #[.map (some pm)] 224)) :=
  AnyZI.keys_gives (ρ:=laysKeysV_ren) { laysKeysV with } Fence.wide _ trivial rfl (by omega) w.heap.size pm pl.length D0 _ (by simp) (by simp) (by
   obtain ⟨es,clock,hb,Ft,hs,hD⟩:=hown
   exact ⟨es,clock,(Below.heap_alloc _ _ pm hbl).trans hb,Ft,hs,hD⟩)
 have cS:=AnyZI.sorted_in laysSortedI Fence.wide 5 trivial trivial trivial trivial rfl (by omega) (sortsI _) (enters_of Tryz.func227 (by kernel_rfl) rfl) 228 #[.pointer (some ⟨w.heap.size,0,none⟩)] trivial (enters_of Tryz.func228 (by kernel_rfl) rfl) _ _ hmax hbytes _ hseq
 change CallsIn _ _ Tryz.prog 150 _ _ _ at cS
 refine (callsIn_wide.1 cS).mono ?_
 rintro e w' ⟨v,ss,rfl,hS,hrow,hnil,hb⟩
 have hpp:=hS.trans hperm
 have hlen:ss.length=pl.length:=by rw [hpp.length_eq]; simp
 have hrow2:=ownsRow_base_a hrow (show w.heap.size≤_ by simp)
 rw [sorted_of_perm hpp,hlen] at hrow2
 have hbel:=((Below.refl _ w).alloc (Nat.le_refl _) (.cells #[.map (some pm)] 224)).trans (hb.mono (by simp))
 refine ⟨v,rfl,?_,fun g hg => ownBlock_ge hrow2 hg,⟨hbel.os,hbel.tape,hbel.output,hbel.size,fun k hk _ => hbel.block k hk⟩⟩
 unfold IntsAt
 have e1:(keysOfPg pl).length=pl.length:=by unfold keysOfPg; rw [(risen_perm _).length_eq]; simp
 rw [e1]
 exact ownsRow_base_a hrow2 (Nat.zero_le _)
def delP (P:Int→Option Pg) (ks:List Int):Int→Option Pg:=fun i => if i∈ks then none else P i
theorem delP_one {P:Int→Option Pg} {ks:List Int} {j:Nat} {i:Int} (h:ks[j]?=some i):unmapP (delP P (ks.take j)) i 1=delP P (ks.take (j+1)):=by
 funext x
 show (if i≤x∧x < i+1 then none else if x∈ks.take j then none else P x)=if x∈ks.take (j+1) then none else P x
 have e:ks.take (j+1)=ks.take j ++ [i]:=by
  rw [List.take_add_one,h]; rfl
 rw [e]
 by_cases h1:x=i
 ·rw [if_pos (by omega),if_pos (by simp [h1])]
 ·rw [if_neg (by omega)]
  by_cases h2:x∈ks.take j
  ·rw [if_pos h2,if_pos (by simp [h2])]
  ·rw [if_neg h2,if_neg (by simp [h1,h2])]
theorem unmapE_one {P:Int→Option Pg} {i:Int} {q:Pg} (h:P i=some q) (hi:0≤i∧i < 64):unmapE P i 1=0:=by
 unfold unmapE
 have h1:thereN P i (1:Int).toNat=1:=by
  show cntB _ 1=1
  rw [cntB_succ]
  have e:i+((0:Nat):Int)=i:=by omega
  rw [e,h]
  rfl
 rw [if_neg (fun h => h ⟨hi.1,by omega,by omega,by omega⟩),h1,if_neg (by omega)]
def Cleared (s:SB) (n:Nat) (t:St) (sp pm:Nat) (O:Int→Nat) (w:World) (e:Ending) (w':World):Prop :=
 e=.returned (.tuple #[])∧∃ t',t'.m=t.m∧VmAfter s n t sp pm O w w' (fun _ => none) t'
theorem vmClear_is (h:VmOne w s n t sp pm P O):Calls Tryz.prog 67 #[.pointer (some ⟨sp,0,none⟩)] w (Cleared s n t sp pm O w):=by
 have H:=hid h
 have c1:=h.space.c1
 obtain ⟨pl,hpl,he⟩:=h.space.pages
 have hle:pl.length≤64:=by rw [len_pages hpl.nodup h.space he]; exact lenP_le P
 have hmemk:∀ k,k∈keysOfPg pl ↔ ∃ q,P k=some q:=fun k => by
  have h1:k∈keysOfPg pl ↔ k∈pl.map (·.1):=(risen_perm _).mem_iff
  rw [h1,← he]
  constructor
  ·intro hk
   obtain ⟨x,hx,rfl⟩:=List.mem_map.1 hk
   exact ⟨x.2,mget_mem hpl.nodup hx⟩
  ·rintro ⟨q,hq⟩
   exact List.mem_map.2 ⟨_,mem_of_mget hq,rfl⟩
 have hnd:(keysOfPg pl).Nodup:=(risen_perm _).nodup_iff.2 hpl.nodup
 have hlen:(keysOfPg pl).length≤64:=by unfold keysOfPg; rw [(risen_perm _).length_eq]; simpa using hle
 have HSo:=hid (sortedPg_is hpl (fun x hx => by
  have hd:=h.space.dom x.1 x.2 (by rw [← he]; exact mget_mem hpl.nodup hx)
  have h3:IntKind.i64.min=-9223372036854775808:=by decide
  have h4:IntKind.i64.max=9223372036854775807:=by decide
  simp [Lit.wf,h3,h4]
  omega) (by omega))
 have HK:=hid (keysPg_is (some pm) w)
 have HMem:=hid hmemk
 have HNd:=hid hnd
 generalize hks:keysOfPg pl=ks at *
 clear h hpl he hle hmemk hnd hks
 go_enter Tryz.func67,Tryz.ntmps67
 go_wp2_with fail
 refine HK.out.mono ?_
 rintro e w1 ⟨rfl,rfl⟩
 go_wp2_with fail
 refine HSo.out.mono ?_
 rintro e w2 ⟨v,rfl,hi,hv,t2⟩
 obtain ⟨a,cap,rfl⟩:=hi.slice
 have HI:=hid hi
 have HV:=hid hv
 have HT2:=hid t2
 clear hi hv t2 HK HSo c1
 go_wp2_with fail
 go_loopg [11] (ks.length) (fun gl i wr => ∃ (j:Nat) (tj:St),j+gl=ks.length∧i=.int .i64 j∧Hid (tj.m=t.m)∧Hid (VmAfter s n t sp pm O w2 wr (delP P (ks.take j)) tj))
 case atStart => exact ⟨0,t,by omega,rfl,hid rfl,hid ((H.out.turned HT2.out id id (fun _ _ => id)).same (Turn.refl _ _))⟩
 case round =>
  obtain ⟨j,tj,hj,rfl,hm,hS⟩:=hrel
  by_cases hlt:j < ks.length
  ·have hlt':(j:Int) < ks.length:=by omega
   obtain ⟨f,hf⟩:∃ f,ks[j]?=some f:=⟨_,List.getElem?_eq_getElem hlt⟩
   obtain ⟨g,hg,hcell⟩:∃ g,a=some ⟨g,0,none⟩∧wr.cell? ⟨g,j,none⟩=some (.int .i64 f):=by
    have hiw:=HI.out.turned hS.out.2.1 (fun b hb hbad => by
     have h1:=HV.out b hb
     rcases hbad with h2 | h2
     ·have:=H.out.space.lt.2; omega
     ·have:=H.out.store.foot_lt b h2; omega)
    rcases hiw.shape with ⟨h1,h2⟩ | ⟨g,cap,h1,_⟩
    ·rw [h2] at hlt; simp at hlt
    ·cases h1
     exact ⟨g,rfl,hiw.cell j f hf⟩
   subst hg
   have HDone:=hid (delP_one (P:=P) hf)
   obtain ⟨q,hq⟩:=(HMem.out f).1 (List.mem_of_getElem? hf)
   have hqj:delP P (ks.take j) f=some q:=by
    unfold delP
    rw [if_neg (fun hx => ?_)]
    ·exact hq
    ·obtain ⟨i,hi⟩:=List.getElem?_of_mem hx
     rw [List.getElem?_take] at hi
     split at hi
     ·have h1:i < ks.length:=(List.getElem?_eq_some_iff.1 hi).1
      have:=(List.getElem?_inj h1 HNd.out).1 (hi.trans hf.symm)
      omega
     ·cases hi
   have hE:=unmapE_one hqj (hS.out.1.space.dom _ _ hqj)
   have HU:=hid (vmUnmap_any hS.out.1 f 1)
   have HE:=hid hE
   clear hf hq hqj hE
   go_wp2_with fail
   refine HU.out.mono ?_
   unfold Unmapped
   rintro e w3 ⟨rfl,t3,hm3,hA3⟩
   rw [HE.out,if_pos rfl,HDone.out] at hA3
   have HA3:=hid hA3
   have HM3:=hid hm3
   clear hA3 hm3 HU
   go_wp2_with fail
   go_roundg (gk - 1)
   case measure => omega
   case rel => exact ⟨j+1,t3,by omega,by go_num,hid (HM3.out.trans hm.out),hid (hS.out.trans HA3.out)⟩
  ·have hlt':¬ (j:Int) < ks.length:=by omega
   have hjl:j=ks.length:=by omega
   subst hjl
   go_wp2_with fail
   go_end0
   have hall:delP P (ks.take ks.length)=fun _ => none:=by
    rw [List.take_length]
    funext i
    unfold delP
    by_cases hi:i∈ks
    ·rw [if_pos hi]
    ·rw [if_neg hi]
     cases hq:P i with
     | none => rfl
     | some q => exact absurd ((HMem.out i).2 ⟨q,hq⟩) hi
   rw [hall] at hS
   exact ⟨rfl,tj,hm.out,(H.out.same HT2.out).trans hS.out⟩
end
end
end Go.Proofs.YtamleilijmgoeaaGreatDoor
