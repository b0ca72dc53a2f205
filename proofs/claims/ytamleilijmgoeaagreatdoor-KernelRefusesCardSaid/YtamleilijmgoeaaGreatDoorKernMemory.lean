/- KernelRefuses' 'memory': what a process has in its first pages, as one text. Conditions: each theorem's own premises; what is laid. KernelRefuses' 'all': what is seen of a kernel, as one text: a plain function of what there is. Conditions: each theorem's own premises; what is laid. Kernel's laws: what is seen of a kernel ('all') hangs on few things; what is refused turns none of them; words stay int64. Plain. Conditions: each theorem's own premises. KernelRefuses: the law's walk: for every list of calls it returns true. Conditions: each theorem's own premises; the variables errors.errorType and internal/strconv.uint64pow10 hold what is laid. A list of calls as an argument: opened, with the bounds of what is stored. No condition. -/
import Derived.Test.YtamleilijmgoeaaGreatDoorWordsPlain
import Derived.Test.YtamleilijmgoeaaGreatDoorKern
import Derived.Test.YtamleilijmgoeaaGreatDoorKernFork
import Derived.Test.YtamleilijmgoeaaGreatDoorCallsOpen
namespace Go.Proofs.YtamleilijmgoeaaGreatDoor
set_option linter.unusedVariables false
set_option maxHeartbeats 16000000
set_option maxRecDepth 100000
section
open Go.RowKit Go.Lib
def memT (m:Nat→Nat→Int) (P:Int→Option Pg):ByteArray:=⟨(allT (loadV P m) (fun a k => accE P a k 1) 6).toArray⟩
theorem memT_size {m:Nat→Nat→Int} {P:Int→Option Pg} (hm:∀ f k,I64 (m f k)):(memT m P).size≤2400:=by
 have h:=allT_len (V:=loadV P m) (Z:=fun a k => accE P a k 1) (loadV_range hm) (fun a k => by have:=accE_small P a k 1; exact ⟨by omega,by omega⟩) 6
 unfold memT
 simpa [ByteArray.size] using h
section
variable {W w w':World} {a:KA} {k:KS} {C:Nat→Nat×Nat} {pid:Int} {i:Nat} {o:KO} {x:Spc} {y:Nat×PTab}
theorem memory_is (h:KIn W w a k C) (hok:KOk k) (hmi:Mine k pid i o x y) (hm:∀ f k',I64 (k.t.m f k')) (hT:Tab w) (hL:Laid w) :
  Calls Tryz.prog 127 #[.pointer (some ⟨a.kb,0,none⟩),.int .i64 pid] w fun e w' => e=.returned (.string (memT k.t.m x.P))∧Turn (fun _ => False) w w':=by
 have HT:=hid hT
 have HL:=hid hL
 unfold memT
 obtain ⟨V,hV⟩:∃ V:Int→Int→Int,loadV x.P k.t.m=V:=⟨_,rfl⟩
 obtain ⟨Z,hZ⟩:∃ Z:Int→Int→Int,(fun a k => accE x.P a k 1)=Z:=⟨_,rfl⟩
 have HV:Hid (∀ a k,I64 (V a k)):=hid (fun a' k' => by rw [← hV]; exact loadV_range hm a' k')
 have HZ:Hid (∀ a k,0≤Z a k∧Z a k < 15):=hid (fun a k => by rw [← hZ]; exact accE_small x.P a k 1)
 have HZ2:Hid (∀ a k,I64 (Z a k)):=hid (fun a k => by have:=HZ.out a k; exact ⟨by omega,by omega⟩)
 have HLd:Hid (∀ w',Turn (fun _ => False) w w'→∀ p q:Int,Calls Tryz.prog 31 #[.pointer (some ⟨a.kb,0,none⟩),.int .i64 pid,.int .i64 p,.int .i64 q] w' fun e w'' => e=.returned (.tuple #[.int .i64 (V p q),VmErr (Z p q)])∧Turn (fun _ => False) w' w''):=hid (fun w' tt p q => by
  rw [← hV,← hZ]
  exact kload_yes (h.still tt) hok hmi p q)
 rw [hV,hZ]
 have HB0:=hid (bldNew w.heap.size w (Nat.le_refl _))
 obtain ⟨c,hc⟩:∃ c,w.heap.size=c:=⟨_,rfl⟩
 have HC:=hid hc
 rw [hc] at HB0
 obtain ⟨kb,hkb⟩:∃ kb,a.kb=kb:=⟨_,rfl⟩
 rw [hkb] at HLd ⊢
 clear h hok hmi hm hT hL hV hZ hkb
 go_enter Tryz.func127,Tryz.ntmps127
 go_wp2_with fail
 clear hc
 go_loopg [6] 6 (fun gl i wr => ∃ a:Nat,a+gl=6∧i=.int .i64 a∧Hid (BIs c c (byteCells (allT V Z a)) wr)∧Hid (Turn (fun _ => False) w wr))
 case atStart => exact ⟨0,by omega,rfl,HB0,hid ((Turn.refl _ _).alloc _)⟩
 case round =>
  obtain ⟨a,ha,rfl,hB,hTw⟩:=hrel
  by_cases ha12:a < 6
  ·have ha':(a:Int) < 6:=by omega
   go_wp2_with fail
   go_loopg [7] 8 (fun gl i wx => ∃ k:Nat,k+gl=8∧i=.int .i64 k∧Hid (BIs c c (byteCells (allT V Z a ++ rowT V Z a k)) wx)∧Hid (Turn (fun _ => False) w wx))
   case atStart => exact ⟨0,by omega,rfl,hid (by show BIs c c (byteCells (allT V Z a ++ [])) _; rw [List.append_nil]; exact hB.out),hTw⟩
   case round =>
    clear hB hTw
    obtain ⟨k,hk,rfl,hB,hTw⟩:=hrel
    by_cases hk8:k < 8
    ·have hk8':(k:Int) < 8:=by omega
     have HLk:=hid (HLd.out _ hTw.out a k)
     have hz:=HZ.out a k
     have HVr:=hid (HV.out a k)
     have HZr:=hid (HZ2.out a k)
     have HRow:Hid (rowT V Z a (k+1)=rowT V Z a k ++ pieceL (V a k) (Z a k)):=hid rfl
     have HAl:=hid (allT_len HV.out HZ2.out a)
     have HRl:=hid (rowT_len HV.out HZ2.out a k)
     obtain ⟨v,hv⟩:∃ v,V a k=v:=⟨_,rfl⟩
     obtain ⟨z,hzz⟩:∃ z,Z a k=z:=⟨_,rfl⟩
     rw [hv,hzz] at HLk HRow
     rw [hv] at HVr
     rw [hzz] at HZr hz
     have HPs:=hid (pieceT_size HVr.out HZr.out)
     have hl1:=itoa_length_le v HVr.out.1 HVr.out.2
     have hl2:=itoa_length_le z HZr.out.1 HZr.out.2
     obtain ⟨sv,hsv⟩:∃ sv:ByteArray,⟨(itoa v).toArray⟩=sv:=⟨_,rfl⟩
     obtain ⟨sz,hsz⟩:∃ sz:ByteArray,⟨(itoa z).toArray⟩=sz:=⟨_,rfl⟩
     have hp1:sv.size≤21:=by rw [← hsv]; exact (by simpa [ByteArray.size] using hl1)
     have hp2:sz.size≤21:=by rw [← hsz]; exact (by simpa [ByteArray.size] using hl2)
     have HSv:=hid hsv
     have HSz:=hid hsz
     clear hv hzz hl1 hl2 hsv hsz
     go_wp2_with fail
     refine HLk.out.mono ?_
     rintro e w1 ⟨rfl,t1⟩
     have HT1:=hid (hTw.out.trans t1)
     have HB1:=hid (hB.out.turned t1)
     have HF:=hid (fmt_is v HVr.out.1 HVr.out.2 w1 (HT.out.turned HT1.out))
     rw [HSv.out] at HF
     clear t1 HLk hB hTw
     go_wp2_with fail
     refine HF.out.mono ?_
     rintro e w2 ⟨rfl,t2⟩
     have HT2:=hid (HT1.out.trans t2)
     have HB2:=hid (HB1.out.turned t2)
     clear t2 HF HB1 HT1
     have HTl:=hid (tell_vm z w2 (HL.out.turned0 HT2.out))
     go_wp2_with fail
     refine HTl.out.mono ?_
     rintro e w3 ⟨rfl,t3⟩
     have HT3:=hid (HT2.out.trans t3)
     have HB3:=hid (HB2.out.turned t3)
     have HI:=hid (itoa_is z HZr.out.1 HZr.out.2 w3 (HT.out.turned HT3.out))
     rw [HSz.out] at HI
     clear t3 HTl HB2 HT2
     go_wp2_with fail
     refine HI.out.mono ?_
     rintro e w4 ⟨rfl,t4⟩
     have HT4:=hid (HT3.out.trans t4)
     have HB4:=hid (HB3.out.turned t4)
     clear t4 HI HB3 HT3
     have HW:=hid (bldWrite_is HB4.out (sv ++ ⟨#[44]⟩ ++ sz ++ ⟨#[59]⟩) (by
      have h1:=HAl.out
      have h2:=HRl.out
      have h3:(sv ++ ⟨#[44]⟩ ++ sz ++ ⟨#[59]⟩:ByteArray)=pieceT v z:=by rw [← HSv.out,← HSz.out]; rfl
      rw [h3,byteCells_len,List.length_append]
      have:=HPs.out
      omega) (by have:=HT4.out.size; have:=HC.out; omega))
     go_wp2_with fail
     refine HW.out.mono ?_
     rintro e w5 ⟨rfl,h5,b5⟩
     have HT5:=hid (HT4.out.trans' (turn_above b5) (fun k hk h => by have:=HC.out; omega))
     have HB5:Hid (BIs c c (byteCells (allT V Z a ++ rowT V Z a (k+1))) w5):=hid (by
      have h3:(sv ++ ⟨#[44]⟩ ++ sz ++ ⟨#[59]⟩:ByteArray)=pieceT v z:=by rw [← HSv.out,← HSz.out]; rfl
      rw [h3,pieceT_eq,← byteCells_app] at h5
      rw [HRow.out,← List.append_assoc]
      exact h5)
     clear h5 b5 HW HB4 HT4
     go_wp2_with fail
     go_roundg (gk - 1)
     case measure => omega
     case rel => exact ⟨k+1,by omega,by go_num,HB5,HT5⟩
    ·have hk8':¬ (k:Int) < 8:=by omega
     obtain rfl:k=8:=by omega
     go_wp2_with fail
     go_roundg (6 - (a+1))
     case measure => omega
     case rel => exact ⟨a+1,by omega,by go_num,hB,hTw⟩
  ·have ha':¬ (a:Int) < 6:=by omega
   obtain rfl:a=6:=by omega
   have HSt:=hid (bldString_is hB.out (by have:=hTw.out.size; have:=HC.out; omega))
   clear ha
   go_wp2_with fail
   refine HSt.out.mono ?_
   rintro e w1 ⟨rfl,b1⟩
   have HT1:=hid (hTw.out.trans' (turn_above b1) (fun k hk h => by have:=HC.out; omega))
   clear b1 HSt
   go_wp2_with fail
   go_ret
   exact ⟨rfl,HT1.out⟩
end
end
section
open Go.RowKit Go.Lib
def piT (n:Int):ByteArray:=⟨(itoa n).toArray⟩
theorem piT_size {n:Int} (h:I64 n):(piT n).size≤21:=by
 have:=itoa_length_le n h.1 h.2
 unfold piT
 simpa [ByteArray.size] using this
def headT (l o n:Int):ByteArray:=piT l ++ ⟨#[32]⟩ ++ piT o ++ ⟨#[32]⟩ ++ piT n
def oneT (p s a b c z:Int):ByteArray:=⟨#[124]⟩ ++ piT p ++ ⟨#[32]⟩ ++ piT s ++ ⟨#[32]⟩ ++ piT a ++ ⟨#[32]⟩ ++ piT b ++ ⟨#[32]⟩ ++ piT c ++ ⟨#[32]⟩ ++ piT z
def stepT (k:KS) (p:Int) (s:ByteArray):ByteArray :=
 match mget k.ow p with
 | none => s ++ oneT p (stR k.pl k.pf p) 0 0 0 7
 | some i => match k.l[i]?,k.ts[i]? with
  | some x,some y => s ++ oneT p (stR k.pl k.pf p) (lenP x.P:Nat) (resP x.P:Nat) (usedL y.2:Nat) 0 ++ memT k.t.m x.P
  | _,_ => s
def allN (k:KS) (but:Int) (ps:List Int) (s:ByteArray):Nat→ByteArray
 | 0 => s
 | j+1 => match ps[j]? with
  | none => allN k but ps s j
  | some p => if p=but then allN k but ps s j else stepT k p (allN k but ps s j)
def headK (a:KA) (k:KS) (but:Int):ByteArray:=if 0 < but then ⟨#[]⟩ else headT ((a.n:Int) - kUsed a k) (k.S.es.length:Int) (k.S.T.length:Int)
def allK (a:KA) (k:KS) (but:Int):ByteArray:=allN k but (pidsOf k.pl) (headK a k but) (pidsOf k.pl).length
theorem allN_congr {k k':KS} {but:Int} {ps:List Int} {s:ByteArray} (h:∀ p∈ps,p≠but→∀ s,stepT k' p s=stepT k p s):∀ j,allN k' but ps s j=allN k but ps s j
 | 0 => rfl
 | j+1 => by
  unfold allN
  rw [allN_congr h j]
  cases hp:ps[j]? with
  | none => rfl
  | some p =>
   by_cases e:p=but
   ·simp only [if_pos e]
   ·simp only [if_neg e]
    exact h p (List.mem_of_getElem? hp) e _
theorem bsize_append (a b:ByteArray):(a ++ b).size=a.size+b.size:=ByteArray.size_append
theorem oneT_size {p s a b c z:Int} (hp:I64 p) (hs:I64 s) (ha:I64 a) (hb:I64 b) (hc:I64 c) (hz:I64 z):(oneT p s a b c z).size≤200:=by
 have h1:=piT_size hp
 have h2:=piT_size hs
 have h3:=piT_size ha
 have h4:=piT_size hb
 have h5:=piT_size hc
 have h6:=piT_size hz
 unfold oneT
 simp only [bsize_append]
 have e1:(⟨#[32]⟩:ByteArray).size=1:=rfl
 have e2:(⟨#[124]⟩:ByteArray).size=1:=rfl
 omega
section
variable {W w w':World} {a:KA} {k:KS} {C:Nat→Nat×Nat} {pid:Int} {i:Nat} {o:KO} {x:Spc} {y:Nat×PTab}
theorem KIn.used_le' (h:KIn W w a k C):kUsed a k≤a.n:=cntB_le _ _
theorem kst_small (hok:KOk k) (p:Int):0≤stR k.pl k.pf p∧stR k.pl k.pf p≤2:=by
 unfold stR
 cases hb:mget k.pl p with
 | none => exact ⟨Int.le_refl _,by show (0:Int)≤2; decide⟩
 | some b =>
  have:=hok.kin.st _ (mem_of_mget hb)
  simp only at this ⊢
  rcases this with e | e <;> (rw [show (Option.elim (some b) 0 fun b => (k.pf b).state)=(k.pf b).state from rfl] ; omega)
theorem stepT_none {p:Int} (hn:mget k.ow p=none) (s:ByteArray):stepT k p s=s ++ oneT p (stR k.pl k.pf p) 0 0 0 7:=by unfold stepT; rw [hn]
theorem stepT_some {p:Int} (hm:Mine k p i o x y) (s:ByteArray):stepT k p s=s ++ oneT p (stR k.pl k.pf p) (lenP x.P:Nat) (resP x.P:Nat) (usedL y.2:Nat) 0 ++ memT k.t.m x.P:=by
 unfold stepT
 rw [hm.own]
 simp only [hm.sp,hm.tab]
theorem I64.ofNat {n:Nat} (h:n≤1000000):I64 (n:Int):=⟨by omega,by omega⟩
def HasV (k:KS) (p:Int) (A B D z:Int):Prop:=I64 A∧I64 B∧I64 D∧I64 z∧((z=7∧∀ s,stepT k p s=s ++ oneT p (stR k.pl k.pf p) A B D z)∨(z=0∧∃ i o x y,Mine k p i o x y∧∀ s,stepT k p s=s ++ oneT p (stR k.pl k.pf p) A B D z ++ memT k.t.m x.P))
theorem has_vals {p:Int} {e:Ending} (h:HasIs k p e):∃ A B D z,e=.returned (.tuple #[.int .i64 A,.int .i64 B,.int .i64 D,TErr z])∧HasV k p A B D z:=by
 rcases h with ⟨hn,rfl⟩ | ⟨i,o,x,y,hm,rfl⟩
 ·exact ⟨0,0,0,7,rfl,⟨by decide,by decide⟩,⟨by decide,by decide⟩,⟨by decide,by decide⟩,⟨by decide,by decide⟩,.inl ⟨rfl,stepT_none hn⟩⟩
 ·have h1:=lenP_le x.P
  have h2:=resP_le x.P
  have h3:=usedL_le y.2
  exact ⟨_,_,_,0,rfl,.ofNat (by omega),.ofNat (by omega),.ofNat (by omega),⟨by decide,by decide⟩,.inr ⟨rfl,i,o,x,y,hm,stepT_some hm⟩⟩
theorem stepT_size (hok:KOk k) (hm:∀ f k',I64 (k.t.m f k')) {p:Int} (hp:I64 p) (s:ByteArray):(stepT k p s).size≤s.size+2600:=by
 have hst:=kst_small hok p
 have is:I64 (stR k.pl k.pf p):=⟨by omega,by omega⟩
 unfold stepT
 split
 ·have:=oneT_size (p:=p) (s:=stR k.pl k.pf p) (a:=0) (b:=0) (c:=0) (z:=7) hp is ⟨by decide,by decide⟩ ⟨by decide,by decide⟩ ⟨by decide,by decide⟩ ⟨by decide,by decide⟩
  rw [bsize_append]; omega
 ·split
  ·rename_i x y _ _
   have h1:=lenP_le x.P
   have h2:=resP_le x.P
   have h3:=usedL_le y.2
   have:=oneT_size (p:=p) (s:=stR k.pl k.pf p) (a:=(lenP x.P:Nat)) (b:=(resP x.P:Nat)) (c:=(usedL y.2:Nat)) (z:=0) hp is (.ofNat (by omega)) (.ofNat (by omega)) (.ofNat (by omega)) ⟨by decide,by decide⟩
   have:=memT_size (m:=k.t.m) (P:=x.P) hm
   rw [bsize_append,bsize_append]; omega
  ·omega
theorem allN_size (hok:KOk k) (hm:∀ f k',I64 (k.t.m f k')) {but:Int} {ps:List Int} {s:ByteArray} (hp:∀ p∈ps,I64 p):∀ j,(allN k but ps s j).size≤s.size+j * 2600
 | 0 => by show s.size≤_; omega
 | j+1 => by
  have ih:=allN_size hok hm (but:=but) (s:=s) hp j
  unfold allN
  split
  ·omega
  ·rename_i p hpj
   split
   ·omega
   ·have:=stepT_size hok hm (hp p (List.mem_of_getElem? hpj)) (allN k but ps s j)
    omega
theorem allN_skip {but:Int} {ps:List Int} {s:ByteArray} {j:Nat} (hp:ps[j]?=some but):allN k but ps s (j+1)=allN k but ps s j:=by
 rw [allN,hp]
 exact if_pos rfl
theorem allN_step {but p:Int} {ps:List Int} {s:ByteArray} {j:Nat} (hp:ps[j]?=some p) (hn:p≠but):allN k but ps s (j+1)=stepT k p (allN k but ps s j):=by
 rw [allN,hp]
 exact if_neg hn
theorem pid_i64 (hok:KOk k) {p:Int} (hp:p∈pidsOf k.pl):I64 p:=by
 obtain ⟨t,ht,rfl⟩:=List.mem_map.1 (mem_pidsOf.1 hp)
 have:=hok.kin.rng t ht
 exact ⟨by omega,by omega⟩
theorem all_is (h:KIn W w a k C) (hok:KOk k) (han:a.n≤1000) (hm:∀ f k',I64 (k.t.m f k')) (hT:Tab w) (hL:Laid w) (but:Int) :
  Calls Tryz.prog 43 #[.pointer (some ⟨a.kb,0,none⟩),.int .i64 but] w fun e w' => e=.returned (.string (allK a k but))∧Turn (fun _ => False) w w':=by
 have HIt:Hid (∀ (n:Int) (w':World),I64 n→Turn (fun _ => False) w w'→Calls Tryz.prog 126 #[.int .i64 n] w' fun e w'' => e=.returned (.string (piT n))∧Turn (fun _ => False) w' w'') :=
  hid (fun n w' hn tt => itoa_is n hn.1 hn.2 w' (hT.turned tt))
 have HL:=hid hL
 have HLe:=hid (kleft_is h)
 have H:=hid h
 have HOk:=hid hok
 have HM:=hid hm
 have HT:=hid hT
 have hu:kUsed a k≤a.n:=h.used_le'
 have hes:=hok.dok.size
 have htl:k.S.T.length≤60:=by
  obtain ⟨F,nm,B,D,_,hto,_⟩:=h.tree
  exact hto.size
 have hNl:=kin_len hok
 have HHd:Hid (headT ((a.n:Int) - kUsed a k) (k.S.es.length:Int) (k.S.T.length:Int)=piT ((a.n:Int) - kUsed a k) ++ ⟨#[32]⟩ ++ piT (k.S.es.length:Int) ++ ⟨#[32]⟩ ++ piT (k.S.T.length:Int)):=hid rfl
 have HOp:=hid (fun w' (tt:Turn (fun _ => False) w w') => kopen_is (h.still tt))
 have HNo:=hid (fun w' (tt:Turn (fun _ => False) w w') => knodes_is (h.still tt))
 have HPi:=hid (fun w' (tt:Turn (fun _ => False) w w') => kpids_row (h.still tt) hok)
 unfold allK headK
 obtain ⟨l,hl⟩:∃ l:Int,(a.n:Int) - kUsed a k=l:=⟨_,rfl⟩
 obtain ⟨oo,ho⟩:∃ oo:Int,(k.S.es.length:Int)=oo:=⟨_,rfl⟩
 obtain ⟨nn,hn⟩:∃ nn:Int,(k.S.T.length:Int)=nn:=⟨_,rfl⟩
 have il:I64 l:=⟨by omega,by omega⟩
 have io:I64 oo:=⟨by omega,by omega⟩
 have inn:I64 nn:=⟨by omega,by omega⟩
 have HIl:=hid (fun w' tt => HIt.out l w' il tt)
 have HIo:=hid (fun w' tt => HIt.out oo w' io tt)
 have HIn:=hid (fun w' tt => HIt.out nn w' inn tt)
 rw [hl,ho,hn] at HHd
 rw [hl] at HLe
 rw [ho] at HOp
 rw [hn] at HNo
 simp only [hl,ho,hn]
 have s1:=piT_size il
 have s2:=piT_size io
 have s3:=piT_size inn
 rw [HHd.out]
 obtain ⟨sl,hsl⟩:∃ s,piT l=s:=⟨_,rfl⟩
 obtain ⟨so,hso⟩:∃ s,piT oo=s:=⟨_,rfl⟩
 obtain ⟨sn,hsn⟩:∃ s,piT nn=s:=⟨_,rfl⟩
 rw [hsl,hso,hsn]
 rw [hsl] at s1 HIl
 rw [hso] at s2 HIo
 rw [hsn] at s3 HIn
 obtain ⟨S0,hS0⟩:∃ S0:ByteArray,(if 0 < but then (⟨#[]⟩:ByteArray) else sl ++ ⟨#[32]⟩ ++ so ++ ⟨#[32]⟩ ++ sn)=S0:=⟨_,rfl⟩
 rw [hS0]
 have s0:S0.size≤70:=by
  rw [← hS0]
  have e1:(⟨#[32]⟩:ByteArray).size=1:=rfl
  have e2:(⟨#[]⟩:ByteArray).size=0:=rfl
  split
  ·rw [e2]; omega
  ·simp only [bsize_append]; omega
 have HS0:=hid hS0
 have Hs0:=hid s0
 obtain ⟨N,hN⟩:∃ N,(pidsOf k.pl).length=N:=⟨_,rfl⟩
 have HNn:=hid hN
 rw [hN] at hNl HPi ⊢
 obtain ⟨kb,hkb⟩:∃ kb,a.kb=kb:=⟨_,rfl⟩
 have HKb:=hid hkb
 rw [hkb] at HLe HOp HNo HPi ⊢
 clear h hok hm hT hL hl ho hn hsl hso hsn HHd hN hS0 s0 hu hes htl il io inn hkb han
 go_enter Tryz.func43,Tryz.ntmps43
 go_wp2_with fail
 refine HLe.out.mono ?_
 rintro e w1 ⟨rfl,hw⟩; subst w1
 go_wp2_with fail
 refine (HIl.out _ (Turn.refl _ _)).mono ?_
 rintro e w1 ⟨rfl,t1⟩
 have HT1:=hid t1
 clear t1
 go_wp2_with fail
 refine (HOp.out _ HT1.out).mono ?_
 rintro e w2 ⟨rfl,hw⟩; subst w2
 go_wp2_with fail
 refine (HIo.out _ HT1.out).mono ?_
 rintro e w2 ⟨rfl,t2⟩
 have HT2:=hid (HT1.out.trans t2)
 clear t2
 go_wp2_with fail
 refine (HNo.out _ HT2.out).mono ?_
 rintro e w3 ⟨rfl,hw⟩; subst w3
 go_wp2_with fail
 refine (HIn.out _ HT2.out).mono ?_
 rintro e w3 ⟨rfl,t3⟩
 have HT3:=hid (HT2.out.trans t3)
 clear t3 HIl HIo HIn HT1 HT2 HLe HOp HNo
 go_upto_if 26 with fail
 go_cut [5] (fun v wx => v=.string S0∧Hid (Turn (fun _ => False) w wx))
 case first =>
  by_cases hb:0 < but
  ·have hb':(0:Int) < but:=hb
   have e:=HS0.out
   rw [if_pos hb] at e
   go_wp2_with fail
   go_meet
   first | exact ⟨rfl,HT3⟩ | exact ⟨by rw [e],HT3⟩
  ·have e:=HS0.out
   rw [if_neg hb] at e
   go_wp2_with fail
   go_meet
   first | exact ⟨rfl,HT3⟩ | exact ⟨by rw [e],HT3⟩
 case rest =>
  obtain ⟨rfl,HTx⟩:=hcut
  clear HT3 HS0
  go_wp2_with fail
  refine (HPi.out _ HTx.out).mono ?_
  rintro e w4 ⟨g,cap,rfl,hI,hg,t4⟩
  have HI:=hid hI
  have HT4:=hid (HTx.out.trans t4)
  have Hg:=hid (show g < w4.heap.size from by
   rcases hI.shape with ⟨h,_⟩ | ⟨g',c',h,_,_,hl⟩
   ·cases h
   ·have e:some g=some g':=congrArg Value.ownBlock h
    rw [Option.some.inj e]; exact hl)
  clear hI hg t4 HPi HTx
  go_wp2_with fail
  go_loopg [5,7] (N) (fun gl sv ix wr => ∃ m:Nat,m+gl=N∧ix=.int .i64 m∧sv=.string (allN k but (pidsOf k.pl) S0 m)∧Hid (Turn (fun _ => False) w4 wr))
  case atStart => exact ⟨0,by omega,rfl,rfl,hid (Turn.refl _ _)⟩
  case round =>
   obtain ⟨m,hm,rfl,rfl,hT5⟩:=hrel
   by_cases hml:m < N
   ·have hml':(m:Int) < N:=by omega
    have hm0:(0:Int)≤(m:Int):=by omega
    obtain ⟨p,hp⟩:∃ p,(pidsOf k.pl)[m]?=some p:=⟨_,List.getElem?_eq_getElem (by rw [HNn.out]; exact hml)⟩
    have hI5:=HI.out.turned hT5.out (fun _ _ => id)
    rw [← HNn.out] at hI5
    have cp:=hI5.cell m p hp
    have hI4:=HI.out
    rw [← HNn.out] at hI4
    have HCp4:=hid (hI4.cell m p hp)
    clear hI4
    have hIp:=pid_i64 HOk.out (List.mem_of_getElem? hp)
    have hsz:=allN_size HOk.out HM.out (but:=but) (s:=S0) (fun q hq => pid_i64 HOk.out hq) m
    have hNl2:m < 24:=by omega
    by_cases hpb:p=but
    ·have hb1:(p == but)=true:=by simpa using hpb
     have HA:=hid (allN_skip (k:=k) (s:=S0) (hpb ▸ hp))
     have HT5:=hid hT5.out
     clear hT5 hp hI5 hIp hpb
     obtain ⟨S,hS⟩:∃ S,allN k but (pidsOf k.pl) S0 m=S:=⟨_,rfl⟩
     rw [hS] at HA ⊢
     clear hsz hS
     go_wp2_with fail
     go_roundg (gk - 1)
     case measure => omega
     case rel => exact ⟨m+1,by omega,by go_num,by rw [HA.out],HT5⟩
    ·have hb1:(p == but)=false:=by simpa using hpb
     have HA:=hid (allN_step (k:=k) (s:=S0) hp hpb)
     obtain ⟨S,hS⟩:∃ S,allN k but (pidsOf k.pl) S0 m=S:=⟨_,rfl⟩
     rw [hS] at HA hsz ⊢
     have hsz2:S.size≤70000:=by have:=Hs0.out; omega
     have HHa:=hid (khas_is (H.out.still (HT4.out.trans hT5.out)) HOk.out p)
     rw [HKb.out] at HHa
     have HT5:=hid hT5.out
     have HCp:=hid cp
     have HIp:=hid (fun w' tt => HIt.out p w' hIp (HT4.out.trans tt))
     have hst:=kst_small HOk.out p
     have HIs:=hid (fun w' tt => HIt.out (stR k.pl k.pf p) w' ⟨by omega,by omega⟩ (HT4.out.trans tt))
     have HSt:=hid (fun w' (tt:Turn (fun _ => False) w4 w') => kstate_is (H.out.still (HT4.out.trans tt)) p)
     rw [HKb.out] at HSt
     have s1:=piT_size hIp
     have s2:=piT_size (n:=stR k.pl k.pf p) ⟨by omega,by omega⟩
     clear hT5 hp hI5 hpb hS hsz hst hIp
     go_wp2_with fail
     refine HHa.out.mono ?_
     rintro e w6 ⟨hh,t6⟩
     obtain ⟨A,B,D,z,rfl,iA,iB,iD,iz,hz⟩:=has_vals hh
     have HIA:=hid (fun w' tt => HIt.out A w' iA (HT4.out.trans tt))
     have HIB:=hid (fun w' tt => HIt.out B w' iB (HT4.out.trans tt))
     have HID:=hid (fun w' tt => HIt.out D w' iD (HT4.out.trans tt))
     have HIz:=hid (fun w' tt => HIt.out z w' iz (HT4.out.trans tt))
     have s3:=piT_size iA
     have s4:=piT_size iB
     have s5:=piT_size iD
     have s6:=piT_size iz
     have HZ:=hid hz
     have HOn:Hid (oneT p (stR k.pl k.pf p) A B D z=⟨#[124]⟩ ++ piT p ++ ⟨#[32]⟩ ++ piT (stR k.pl k.pf p) ++ ⟨#[32]⟩ ++ piT A ++ ⟨#[32]⟩ ++ piT B ++ ⟨#[32]⟩ ++ piT D ++ ⟨#[32]⟩ ++ piT z):=hid rfl
     have td:Turn (fun _ => False) w6 w6.drew:=(Turn.refl _ _).drew
     have hT6:=HT5.out.trans t6
     have HTd:=hid (hT6.trans td)
     have HT6:=hid hT6
     have cp6:=(t6.cell (lt_of_cell cp) id).trans cp
     have k6:=(td.cell (lt_of_cell cp6) id).trans cp6
     obtain ⟨st,hst⟩:∃ st,stR k.pl k.pf p=st:=⟨_,rfl⟩
     rw [hst] at HIs HSt s2 HOn HZ
     obtain ⟨x1,e1⟩:∃ s,piT p=s:=⟨_,rfl⟩
     obtain ⟨x2,e2⟩:∃ s,piT st=s:=⟨_,rfl⟩
     obtain ⟨x3,e3⟩:∃ s,piT A=s:=⟨_,rfl⟩
     obtain ⟨x4,e4⟩:∃ s,piT B=s:=⟨_,rfl⟩
     obtain ⟨x5,e5⟩:∃ s,piT D=s:=⟨_,rfl⟩
     obtain ⟨x6,e6⟩:∃ s,piT z=s:=⟨_,rfl⟩
     rw [e1,e2,e3,e4,e5,e6] at HOn
     rw [e1] at HIp s1
     rw [e2] at HIs s2
     rw [e3] at HIA s3
     rw [e4] at HIB s4
     rw [e5] at HID s5
     rw [e6] at HIz s6
     rw [HOn.out] at HZ
     have HTl:=hid (fun w' (tt:Turn (fun _ => False) w4 w') => tell_tree z w' (HL.out.turned0 (HT4.out.trans tt)))
     obtain ⟨tz,htz⟩:∃ v,TErr z=v:=⟨_,rfl⟩
     have HTz:=hid htz
     rw [htz] at HTl ⊢
     clear hh t6 td hT6 cp hst e1 e2 e3 e4 e5 e6 iA iB iD iz hz HHa HCp htz HOn
     have q0:¬ (9223372036854775807 < 1+x1.size):=by omega
     have q1:¬ (9223372036854775807≤1+x1.size):=by omega
     have q2:¬ (9223372036854775807 < 1+x1.size+1):=by omega
     have q3:¬ (9223372036854775807 < 1+x1.size+1+x2.size):=by omega
     have q4:¬ (9223372036854775807≤1+x1.size+1+x2.size):=by omega
     have q5:¬ (9223372036854775807 < 1+x1.size+1+x2.size+1):=by omega
     have q6:¬ (9223372036854775807 < 1+x1.size+1+x2.size+1+x3.size):=by omega
     have q7:¬ (9223372036854775807≤1+x1.size+1+x2.size+1+x3.size):=by omega
     have q8:¬ (9223372036854775807 < 1+x1.size+1+x2.size+1+x3.size+1):=by omega
     have q9:¬ (9223372036854775807 < 1+x1.size+1+x2.size+1+x3.size+1+x4.size):=by omega
     have q10:¬ (9223372036854775807≤1+x1.size+1+x2.size+1+x3.size+1+x4.size):=by omega
     have q11:¬ (9223372036854775807 < 1+x1.size+1+x2.size+1+x3.size+1+x4.size+1):=by omega
     have q12:¬ (9223372036854775807 < 1+x1.size+1+x2.size+1+x3.size+1+x4.size+1+x5.size):=by omega
     have q13:¬ (9223372036854775807≤1+x1.size+1+x2.size+1+x3.size+1+x4.size+1+x5.size):=by omega
     have q14:¬ (9223372036854775807 < 1+x1.size+1+x2.size+1+x3.size+1+x4.size+1+x5.size+1):=by omega
     have q15:¬ (9223372036854775807 < 1+x1.size+1+x2.size+1+x3.size+1+x4.size+1+x5.size+1+x6.size):=by omega
     have q16:¬ (9223372036854775807 < S.size+(1+x1.size+1+x2.size+1+x3.size+1+x4.size+1+x5.size+1+x6.size)):=by omega
     go_wp2_with fail
     go_region_held3 (fun w' => w'.cell? ⟨g,m,none⟩=some (.int .i64 p))
      (first | exact k6 | exact k7 | exact k9 | exact k10 | exact k11 | exact k12 | exact k13 | exact k14 | go_keep)
      (first
       | (go_at_call 126; refine (HIp.out _ HTd.out).mono ?_; rintro e w7 ⟨rfl,t7⟩; have HT7:=hid (HTd.out.trans t7); have k7:=(t7.cell (lt_of_cell k6) id).trans k6; clear t7)
       | (go_at_call 29; refine (HSt.out _ HT7.out).mono ?_; rintro e w8 ⟨rfl,hw⟩; subst w8)
       | (go_at_call 126; refine (HIs.out _ HT7.out).mono ?_; rintro e w9 ⟨rfl,t9⟩; have HT9:=hid (HT7.out.trans t9); have k9:=(t9.cell (lt_of_cell k7) id).trans k7; clear t9)
       | (go_at_call 126; refine (HIA.out _ HT9.out).mono ?_; rintro e w10 ⟨rfl,t10⟩; have HT10:=hid (HT9.out.trans t10); have k10:=(t10.cell (lt_of_cell k9) id).trans k9; clear t10)
       | (go_at_call 126; refine (HIB.out _ HT10.out).mono ?_; rintro e w11 ⟨rfl,t11⟩; have HT11:=hid (HT10.out.trans t11); have k11:=(t11.cell (lt_of_cell k10) id).trans k10; clear t11)
       | (go_at_call 126; refine (HID.out _ HT11.out).mono ?_; rintro e w12 ⟨rfl,t12⟩; have HT12:=hid (HT11.out.trans t12); have k12:=(t12.cell (lt_of_cell k11) id).trans k11; clear t12)
       | (go_at_call 17; refine (HTl.out _ HT12.out).mono ?_; rintro e w13 ⟨rfl,t13⟩; have HT13:=hid (HT12.out.trans t13); have k13:=(t13.cell (lt_of_cell k12) id).trans k12; clear t13)
       | (go_at_call 126; refine (HIz.out _ HT13.out).mono ?_; rintro e w14 ⟨rfl,t14⟩; have HT14:=hid (HT13.out.trans t14); have k14:=(t14.cell (lt_of_cell k13) id).trans k13; clear t14))
     obtain ⟨S2,hS2⟩:∃ S2:ByteArray,S ++ (⟨#[124]⟩ ++ x1 ++ ⟨#[32]⟩ ++ x2 ++ ⟨#[32]⟩ ++ x3 ++ ⟨#[32]⟩ ++ x4 ++ ⟨#[32]⟩ ++ x5 ++ ⟨#[32]⟩ ++ x6)=S2:=⟨_,rfl⟩
     have hs2:S2.size≤80000:=by
      rw [← hS2]
      have e1:(⟨#[32]⟩:ByteArray).size=1:=rfl
      have e2:(⟨#[124]⟩:ByteArray).size=1:=rfl
      simp only [bsize_append]
      omega
     rw [hS2]
     have HZ2:Hid ((z=7∧stepT k p S=S2)∨(z=0∧∃ i o x y,Mine k p i o x y∧stepT k p S=S2 ++ memT k.t.m x.P)):=hid (by
      rcases HZ.out with ⟨h1,h2⟩ | ⟨h1,i,o,x,y,h2,h3⟩
      ·exact .inl ⟨h1,by rw [h2,hS2]⟩
      ·exact .inr ⟨h1,i,o,x,y,h2,by rw [h3,hS2]⟩)
     have e7:=HTz.out
     clear hS2 HZ HIp HIs HIA HIB HID HIz HSt HTl HTz k6 k7 k9 k10 k11 k12 k13 k14 HTd HT7 HT9 HT10 HT11 HT12 HT13 s1 s2 s3 s4 s5 s6 q0 q1 q2 q3 q4 q5 q6 q7 q8 q9 q10 q11 q12 q13 q14 q15 q16
     rcases HZ2.out with ⟨rfl,hs⟩ | ⟨rfl,i,o,x,y,hmi,hs⟩
     ·rw [show TErr 7=.iface 36 (.int .i64 7) from rfl] at e7
      subst e7
      have HS:=hid hs
      clear hs HZ2
      go_wp2_with fail
      go_roundg (gk - 1)
      case measure => omega
      case rel => exact ⟨m+1,by omega,by go_num,by rw [HA.out,HS.out],HT14⟩
     ·rw [show TErr 0=.nilIface from rfl] at e7
      subst e7
      have hme:=memory_is (H.out.still (HT4.out.trans HT14.out)) HOk.out hmi HM.out (HT.out.turned (HT4.out.trans HT14.out)) (HL.out.turned0 (HT4.out.trans HT14.out))
      rw [HKb.out] at hme
      have s7:=memT_size (m:=k.t.m) (P:=x.P) HM.out
      obtain ⟨sm,hsm⟩:∃ s,memT k.t.m x.P=s:=⟨_,rfl⟩
      rw [hsm] at hme s7 hs
      have HMe:=hid hme
      have HS:=hid hs
      clear hs hme hsm hmi HZ2
      have cp2:=(HT14.out.cell (lt_of_cell (HCp4.out)) id).trans HCp4.out
      go_wp2_with fail
      refine HMe.out.mono ?_
      rintro e w15 ⟨rfl,t15⟩
      have HT15:=hid (HT14.out.trans t15)
      clear t15
      go_wp2_with fail
      go_roundg (gk - 1)
      case measure => omega
      case rel => exact ⟨m+1,by omega,by go_num,by rw [HA.out,HS.out],HT15⟩
   ·have hme:m=N:=by omega
    subst hme
    go_wp2_with fail
    go_returns
    exact ⟨rfl,HT4.out.trans hT5.out⟩
end
end
section
open Go.RowKit Go.Lib
section
variable {W w w' w1:World} {a:KA} {k k' k1 k2:KS} {C C':Nat→Nat×Nat} {pid z:Int} {i j:Nat} {o o':KO} {x:Spc} {y:Nat×PTab} {v:CallV} {S:PS} {L:PTab}
structure Alike (k k':KS):Prop where
 ow:k'.ow=k.ow
 l:k'.l=k.l
 ts:k'.ts=k.ts
 es:k'.S.es.length=k.S.es.length
 T:k'.S.T.length=k.S.T.length
 pl:k'.pl=k.pl
 m:k'.t.m=k.t.m
 st:∀ q,stR k'.pl k'.pf q=stR k.pl k.pf q
theorem Alike.refl (k:KS):Alike k k:=⟨rfl,rfl,rfl,rfl,rfl,rfl,rfl,fun _ => rfl⟩
theorem Alike.store {t':St} (h:t'.m=k.t.m):Alike k { k with t:=t' }:=⟨rfl,rfl,rfl,rfl,rfl,rfl,h,fun _ => rfl⟩
theorem Alike.used (h:Alike k k') (hk:KIn W w a k C) (hk':KIn W w' a k' C'):kUsed a k'=kUsed a k:=by
 unfold kUsed usedN
 exact cntB_congr (fun i _ => by rw [hk.vm.refs (i:Int) (by omega),hk'.vm.refs (i:Int) (by omega),h.l])
theorem Alike.step (h:Alike k k') (p:Int) (s:ByteArray):stepT k' p s=stepT k p s:=by
 unfold stepT
 rw [h.ow,h.l,h.ts,h.st,h.m]
theorem Alike.all (h:Alike k k') (hk:KIn W w a k C) (hk':KIn W w' a k' C') (but:Int):allK a k' but=allK a k but:=by
 unfold allK headK
 rw [h.used hk hk',h.es,h.T,h.pl]
 exact allN_congr (fun p _ _ s => h.step p s) _
theorem wrS_err {n:Int} {s:ByteArray} {m:Int} (h:wrE S L n s m≠0):(wrS S L n s m).es=S.es∧(wrS S L n s m).T=S.T:=by
 unfold wrE at h
 unfold wrS
 cases hx:entL S L n with
 | none => exact ⟨rfl,rfl⟩
 | some x =>
  rw [hx] at h
  simp only [Option.elim] at h ⊢
  split
  ·exact ⟨rfl,rfl⟩
  ·rename_i h1
   rw [if_neg h1] at h
   split
   ·cases S.ps[x.2.pid]? <;> exact ⟨rfl,rfl⟩
   ·rename_i h2
    rw [if_neg h2] at h
    split
    ·exact ⟨rfl,rfl⟩
    ·rename_i h3
     rw [if_neg h3] at h
     rw [if_neg h]
     exact ⟨rfl,rfl⟩
theorem KR.err {R:KS→Prop} (h:KR k z R k') (h0:z≠0):Alike k k':=by
 obtain ⟨t',h1,rfl⟩:=h.2 h0
 exact .store h1
theorem storeR_err (h:StoreR a k v i o x y z k') (h0:z≠0) (h10:z≠10) (h12:z≠12):k'=k:=by
 obtain ⟨go,k1,hw,hgo,⟨_,hs,_⟩ | ⟨hz,_⟩⟩:=h
 ·rcases hs with ⟨hne,_,e⟩ | ⟨_,_,_,g,_,⟨_,hz,_⟩ | ⟨_,hz,_⟩ | ⟨_,hz,_⟩⟩
  ·rcases hgo with rfl | h1
   ·rw [e]; exact hw
   ·exact absurd h1 hne
  ·exact absurd hz h0
  ·exact absurd hz h12
  ·exact absurd hz h0
 ·exact absurd hz h10
theorem refused (h:CallR a k v z k') (h0:z≠0) (h10:z≠10) (h12:z=12→v.w < 8∨10 < v.w):Alike k k':=by
 rcases h with ⟨_,_,e⟩ | ⟨_,e,_⟩ | ⟨n,i,o,x,y,hn,hm,h⟩
 ·subst e; exact .refl _
 ·exact absurd e h0
 ·have hfork:ForkR k v.p o x y z k'→Alike k k':=fun h => by
   rcases h with ⟨_,_,e⟩ | ⟨_,e,_⟩
   ·subst e; exact .refl _
   ·exact absurd e h0
  have hstore:n=8∨n=9∨n=10→StoreR a k v i o x y z k'→Alike k k':=fun hn8 h => by
   rw [storeR_err h h0 h10 (fun e => by have:=h12 e; omega)]
   exact .refl k
  match n,hn,h with
  | 0,_,h => exact hfork h
  | 1,_,h => exact hfork h
  | 2,_,⟨_,h⟩ => exact h.err h0
  | 3,_,⟨e,_⟩ => exact absurd e h0
  | 4,_,h =>
   rcases h with ⟨_,e⟩ | ⟨e,_⟩
   ·subst e; exact .refl _
   ·exact absurd e h0
  | 5,_,⟨_,h⟩ => exact h.err h0
  | 6,_,⟨_,h⟩ => exact h.err h0
  | 7,_,⟨_,h⟩ => exact h.err h0
  | 8,_,h => exact hstore (.inl rfl) h
  | 9,_,h => exact hstore (.inr (.inl rfl)) h
  | 10,_,h => exact hstore (.inr (.inr rfl)) h
  | 11,_,⟨_,h⟩ => exact h.err h0
  | 12,_,⟨_,h⟩ => exact h.err h0
  | 13,_,⟨_,h⟩ => exact h.err h0
  | 14,_,⟨_,h⟩ => exact h.err h0
  | 15,_,⟨_,h⟩ => exact h.err h0
  | 16,_,⟨_,h⟩ => exact h.err h0
  | 17,_,⟨hz,pf',e,hq,_⟩ =>
   obtain ⟨h1,h2⟩:=wrS_err (hz ▸ h0)
   subst e
   exact ⟨rfl,rfl,list_set_same hm.tab,by show (wrS k.S y.2 v.a v.s (o.m 2)).es.length=_; rw [h1],by show (wrS k.S y.2 v.a v.s (o.m 2)).T.length=_; rw [h2],rfl,rfl,hq.st⟩
  | 18,_,⟨_,h⟩ => exact h.err h0
  | 19,_,⟨_,h⟩ => exact h.err h0
  | 20,_,⟨_,pf',e,hq,_⟩ =>
   subst e
   exact ⟨rfl,rfl,rfl,rfl,rfl,rfl,rfl,hq.st⟩
  | 21,_,⟨e,_⟩ => exact absurd e h0
  | 22,_,⟨_,h⟩ => exact h.err h0
  | 23,_,⟨_,h⟩ => exact h.err h0
  | 24,_,⟨_,h⟩ => exact h.err h0
  | 25,_,⟨_,h⟩ => exact h.err h0
  | 26,_,⟨_,h⟩ => exact h.err h0
  | 27,_,⟨_,h⟩ => exact h.err h0
/-! ### words -/
def Words (m:Nat→Nat→Int):Prop:=∀ f j,I64 (m f j)
theorem went_m:∀ {go:List Int} {k k1:KS},Went a k go k1→k1.t.m=k.t.m
 | [],k,k1,h => by rw [show k1=k from h]
 | v :: go,k,k1,h => by
  obtain ⟨k2,hg,h2⟩:=h
  obtain ⟨_,_,_,_,i,o,x,y,b,t',_,_,ht,_,e⟩:=hg
  rw [went_m h2,e]
  exact ht
theorem Words.set {m:Nat→Nat→Int} (h:Words m) {c:Int} (hc:I64 c) (f g:Nat):Words (memSet m f g c):=fun p q => by
 unfold memSet
 split
 ·exact hc
 ·exact h p q
theorem Words.new {m:Nat→Nat→Int} (h:Words m) {c:Int} (hc:I64 c) (f g wd:Int):Words (newM m f g wd c):=by
 unfold newM
 refine Words.set ?_ hc _ _
 intro p q
 split
 ·unfold memZero
  split
  ·exact ⟨by decide,by decide⟩
  ·exact h p q
 ·unfold memCopy
  split
  ·exact h _ _
  ·exact h p q
theorem storeR_words (hW:Words k.t.m) (hc:I64 v.c) (h:StoreR a k v i o x y z k'):Words k'.t.m:=by
 obtain ⟨go,k1,hw,_,⟨_,hs,_⟩ | ⟨_,e,_⟩⟩:=h
 ·have h1:Words k1.t.m:=by rw [went_m hw]; exact hW
  rcases hs with ⟨_,_,e⟩ | ⟨_,_,_,g,_,⟨_,_,t',_,hm,e⟩ | ⟨_,_,_,e⟩ | ⟨_,_,f,t',_,_,_,hm,e⟩⟩
  ·rw [e]; exact h1
  ·rw [e]; show Words t'.m; rw [hm]; exact h1.set hc _ _
  ·rw [e]; exact h1
  ·rw [e]; show Words t'.m; rw [hm]; exact h1.new hc _ _ _
 ·rw [e,went_m hw]; exact hW
theorem KR.words {R:KS→Prop} (h:KR k z R k') (hW:Words k.t.m) (hR:R k'→k'.t.m=k.t.m):Words k'.t.m:=by
 rcases h.cases with ⟨_,h⟩ | ⟨_,t',ht,rfl⟩
 ·rw [hR h]; exact hW
 ·show Words t'.m; rw [ht]; exact hW
theorem CallR.words (h:CallR a k v z k') (hW:Words k.t.m) (hc:I64 v.c):Words k'.t.m:=by
 rcases h with ⟨_,_,e⟩ | ⟨_,_,e⟩ | ⟨n,i,o,x,y,hn,hm,h⟩
 ·subst e; exact hW
 ·subst e; exact hW
 ·have hfork:ForkR k v.p o x y z k'→Words k'.t.m:=fun h => by
   rcases h with ⟨_,_,e⟩ | ⟨_,_,b,f,_,_,_,e⟩
   ·subst e; exact hW
   ·subst e; exact hW
  match n,h with
  | 0,h => exact hfork h
  | 1,h => exact hfork h
  | 2,⟨_,h⟩ => exact h.words hW (by rintro ⟨t',b,h1,_,rfl⟩; exact h1)
  | 3,⟨_,t',h1,e⟩ => subst e; show Words t'.m; rw [h1]; exact hW
  | 4,h => rcases h with ⟨_,e⟩ | ⟨_,j,c,b,_,_,_,e⟩ <;> (subst e; exact hW)
  | 5,⟨_,h⟩ => exact h.words hW (by rintro rfl; rfl)
  | 6,⟨_,h⟩ => exact h.words hW (by rintro rfl; rfl)
  | 7,⟨_,h⟩ => exact h.words hW (by rintro ⟨t',h1,rfl⟩; exact h1)
  | 8,h => exact storeR_words hW hc h
  | 9,h => exact storeR_words hW hc h
  | 10,h => exact storeR_words hW hc h
  | 11,⟨_,h⟩ => exact h.words hW (by rintro rfl; rfl)
  | 12,⟨_,h⟩ => exact h.words hW (by rintro rfl; rfl)
  | 13,⟨_,h⟩ => exact h.words hW (by rintro rfl; rfl)
  | 14,⟨_,h⟩ => exact h.words hW (by rintro rfl; rfl)
  | 15,⟨_,h⟩ => exact h.words hW (by rintro rfl; rfl)
  | 16,⟨_,h⟩ => exact h.words hW (by rintro rfl; rfl)
  | 17,⟨_,pf',e,_,_⟩ => subst e; exact hW
  | 18,⟨_,h⟩ => exact h.words hW (by rintro rfl; rfl)
  | 19,⟨_,h⟩ => exact h.words hW (by rintro rfl; rfl)
  | 20,⟨_,pf',e,_⟩ => subst e; exact hW
  | 21,⟨_,h⟩ =>
   rcases h with ⟨_,r,pf',_,_,⟨_,e⟩ | ⟨_,t',b,h1,_,e⟩⟩ | ⟨_,b,Wt,_,e⟩
   ·subst e; exact hW
   ·subst e; show Words t'.m; rw [h1]; exact hW
   ·subst e; exact hW
  | 22,⟨_,h⟩ => exact h.words hW (by rintro rfl; rfl)
  | 23,⟨_,h⟩ => exact h.words hW (by rintro rfl; rfl)
  | 24,⟨_,h⟩ => exact h.words hW (by rintro rfl; rfl)
  | 25,⟨_,h⟩ => exact h.words hW (by rintro rfl; rfl)
  | 26,⟨_,h⟩ => exact h.words hW (by rintro rfl; rfl)
  | 27,⟨_,h⟩ => exact h.words hW (by rintro rfl; rfl)
end
end
section
open Go.RowKit Go.Lib
section
variable {W w w' w1:World} {a:KA} {k k':KS} {C C':Nat→Nat×Nat} {pid z:Int} {i j:Nat} {o o':KO} {x:Spc} {y:Nat×PTab} {v:CallV}
theorem krun_new' (t:St) (sp pm tab ob lb b:Nat):KRun 0 (newKS t sp pm tab ob lb b):=⟨Nat.le_refl _,TBnd.root⟩
theorem kernelRefuses_many (n0:Int) (al:Option Addr) (n cap:Nat) (W:World) (h:40 < n) (hm:n≤9223372036854775807) :
  Calls Tryz.prog 8 #[.int .i64 n0,.slice al n cap] W fun e w' => e=.returned (.bool true)∧Turn (fun _ => False) W w':=by
 have HC:=hid (calls_many al n cap W h hm)
 clear h hm
 go_enter Tryz.func8,Tryz.ntmps8
 go_wp2_with fail
 refine HC.out.mono ?_
 rintro e w1 ⟨rfl,rfl⟩
 go_wp2_with fail
 go_returns
 exact ⟨rfl,Turn.refl _ _⟩
theorem kernelRefuses_few (n0:Int) (al:Option Addr) (xs:List CallV) (cap:Nat) (W:World) (hL:Laid W) (hT:Tab W) (hl:xs.length≤40) (hc:CallsIn W al xs) (hi:∀ v∈xs,I64 v.c) :
  Calls Tryz.prog 8 #[.int .i64 n0,.slice al xs.length cap] W fun e w' => e=.returned (.bool true)∧Turn (fun _ => False) W w':=by
 have HCs:=hid (calls_is al xs cap W hl hc)
 have HLd:=hid hL
 have HTb:=hid hT
 have HIv:=hid hi
 have HCi:=hid hc
 have HPk:=hid (fun (z n:Int) (w':World) (h1:1≤n) (h2:n≤1000000) => pick_any z n w' h1 h2)
 obtain ⟨n,hn⟩:∃ n,xs.length=n:=⟨_,rfl⟩
 have HN:=hid hn
 rw [hn] at hl HCs ⊢
 clear hn hL hc hT hi
 go_enter Tryz.func8,Tryz.ntmps8
 go_wp2_with fail
 refine HCs.out.mono ?_
 rintro e w1 ⟨r,rfl,t1,hsh⟩
 have HT1:=hid t1
 cases r with
 | false =>
  clear t1 hsh
  go_wp2_with fail
  go_returns
  exact ⟨rfl,HT1.out⟩
 | true =>
  have HSh:=hid (hsh rfl)
  have HKp:=hid (kept_is w1 (HLd.out.turned0 t1))
  clear t1 hsh
  go_wp2_with fail
  refine HKp.out.mono ?_
  rintro e w2 ⟨rfl,t2⟩
  have HT2:=hid (HT1.out.trans t2)
  clear t2
  go_wp2_with fail
  refine (HPk.out n0 12 _ (by decide) (by decide)).mono ?_
  rintro e w4 ⟨rfl,hw⟩; subst w4
  have b0:=pk_nonneg n0 12 (by decide)
  have b1:=pk_lt n0 12 (by decide)
  obtain ⟨fr,hfr⟩:∃ fr:Nat,pk n0 12=fr:=⟨(pk n0 12).toNat,by omega⟩
  rw [hfr] at b0 b1 ⊢
  have hwr:IntKind.i64.wrap (1+(fr:Int))=1+(fr:Int):=IntWalk.i64_in _ (by omega)
  have hnw:=knew_is (1+fr) w2 (by omega) (by omega)
  unfold NewTo at hnw
  rw [show ((1+fr:Nat):Int)=1+(fr:Int) from by omega] at hnw
  have HNw:=hid hnw
  clear b0 hfr hnw
  go_wp2_with fail
  refine HNw.out.mono ?_
  rintro e w5 ⟨a,t,sp,pm,tab,ob,lb,b,rfl,ha,hR,hm0,⟨C5,hk5⟩,hok5⟩
  have HI:=hid (show KIn w2 w5 a (newKS t sp pm tab ob lb b) C5∧KOk (newKS t sp pm tab ob lb b)∧KRun 0 (newKS t sp pm tab ob lb b)∧Words (newKS t sp pm tab ob lb b).t.m from ⟨hk5,hok5,krun_new' t sp pm tab ob lb b,fun f g => by rw [show (newKS t sp pm tab ob lb b).t.m f g=0 from hm0 f g]; exact ⟨by decide,by decide⟩⟩)
  have HAn:=hid ha
  clear ha hR hm0 hk5 hok5 HNw
  go_wp2_with fail
  go_loopg [7] (n) (fun gl ix wr => ∃ j:Nat,j+gl=n∧ix=.int .i64 j∧Hid (∃ k C,KIn w2 wr a k C∧KOk k∧KRun j k∧Words k.t.m))
  case atStart => exact ⟨0,by omega,rfl,hid ⟨_,C5,HI.out⟩⟩
  case round =>
   clear HI
   obtain ⟨j,hj,rfl,hS⟩:=hrel
   obtain ⟨k,C,hk,hok,hrun,hwd⟩:=hS.out
   clear hS
   by_cases hlt:j < n
   ·have hlt':(j:Int) < n:=by omega
    have hTW:Turn (fun _ => False) W wr:=HT2.out.trans hk.turn
    have han:a.n≤1000:=by have:=HAn.out; omega
    have HA0:=hid (all_is hk hok han hwd (HTb.out.turned hTW) (HLd.out.turned0 hTW) 0)
    obtain ⟨S0,hS0⟩:∃ S,allK a k 0=S:=⟨_,rfl⟩
    rw [hS0] at HA0
    obtain ⟨v,hv⟩:∃ v,xs[j]?=some v:=⟨_,List.getElem?_eq_getElem (by rw [HN.out]; exact hlt)⟩
    have HVv:=hid hv
    have HX:=hid (show KIn w2 wr a k C∧KOk k∧KRun j k∧Words k.t.m∧allK a k 0=S0∧a.n≤1000 from ⟨hk,hok,hrun,hwd,hS0,han⟩)
    clear hTW han hS0 hk hok hrun hwd hv
    go_wp2_with fail
    refine HA0.out.mono ?_
    rintro e w6 ⟨rfl,t6⟩
    have HT6:=hid t6
    have hT6:Turn (fun _ => False) W w6:=(HT2.out.trans HX.out.1.turn).trans t6
    obtain ⟨bl,off,rfl,hat,hbl⟩:=(HCi.out.turned hT6) (fun e => by have:=HVv.out; rw [e] at this; cases this)
    obtain ⟨c0,c1,c2,c3,c4,c5,c6⟩:=hat j v HVv.out
    have hsv:=HSh.out v (List.mem_of_getElem? HVv.out)
    have q1:(0:Int)≤(j:Int):=by omega
    have hca:=call_is (HX.out.1.still t6) HX.out.2.1 (HLd.out.turned0 HT2.out) (HX.out.2.2.1.pre (by omega) hsv.1 hsv.2)
    unfold callA AskTo sh1 at hca
    have HCa:=hid hca
    clear hat hbl hsv hca t6 hT6 HA0
    go_wp2_with fail
    refine HCa.out.mono ?_
    rintro e w7 ⟨z,rfl,k',C',hk',hok',hcr⟩
    have hwd':=hcr.words HX.out.2.2.2.1 (HIv.out v (List.mem_of_getElem? HVv.out))
    have hal:z≠0→z≠10→(z=12→v.w < 8∨10 < v.w)→allK a k' 0=S0:=fun h0 h10 h12 => by
     rw [(refused hcr h0 h10 h12).all HX.out.1 hk' 0]; exact HX.out.2.2.2.2.1
    have HY:=hid (show KIn w2 w7 a k' C'∧KOk k'∧KRun (j+1) k'∧Words k'.t.m from ⟨hk',hok',HX.out.2.2.1.next hcr,hwd'⟩)
    have HAl:=hid hal
    have hT7:Turn (fun _ => False) W w7:=HT2.out.trans hk'.turn
    obtain ⟨b2,o2,e2,hat2,_⟩:=(HCi.out.turned hT7) (fun e => by have:=HVv.out; rw [e] at this; cases this)
    cases e2
    have d0:=(hat2 j v HVv.out).1
    have HTl:=hid (fun w' (tt:Turn (fun _ => False) w7 w') => tell_tree z w' (HLd.out.turned0 (hT7.trans tt)))
    have HAll:=hid (fun w' (tt:Turn (fun _ => False) w7 w') => all_is (hk'.still tt) hok' HX.out.2.2.2.2.2 hwd' (HTb.out.turned (hT7.trans tt)) (HLd.out.turned0 (hT7.trans tt)) 0)
    clear hk' hok' hcr hwd' hal hT7 hat2 HX HCa c0 c1 c2 c3 c4 c5 c6 HVv
    obtain ⟨tz,htz⟩:∃ t,TErr z=t:=⟨_,rfl⟩
    rw [htz] at HTl ⊢
    clear htz
    by_cases h0:z=0
    ·subst h0
     clear HAl HAll d0
     go_wp2_with fail
     refine (HTl.out _ (Turn.refl _ _)).mono ?_
     rintro e w8 ⟨rfl,t8⟩
     have HT8:=hid t8
     clear t8
     go_wp2_with fail
     refine (HTl.out _ HT8.out).mono ?_
     rintro e w9 ⟨rfl,t9⟩
     have HT9:=hid (HT8.out.trans t9)
     clear t9
     go_wp2_with fail
     go_roundg (gk - 1)
     case measure => omega
     case rel => exact ⟨j+1,by omega,by go_num,hid ⟨k',C',HY.out.1.still HT9.out,HY.out.2⟩⟩
    ·by_cases h10:z=10
     ·subst h10
      clear HAl HAll d0
      go_wp2_with fail
      refine (HTl.out _ (Turn.refl _ _)).mono ?_
      rintro e w8 ⟨rfl,t8⟩
      have HT8:=hid t8
      clear t8
      go_wp2_with fail
      refine (HTl.out _ HT8.out).mono ?_
      rintro e w9 ⟨rfl,t9⟩
      have HT9:=hid (HT8.out.trans t9)
      clear t9
      go_wp2_with fail
      go_roundg (gk - 1)
      case measure => omega
      case rel => exact ⟨j+1,by omega,by go_num,hid ⟨k',C',HY.out.1.still HT9.out,HY.out.2⟩⟩
     ·by_cases h12:z=12
      ·subst h12
       go_wp2_with fail
       refine (HTl.out _ (Turn.refl _ _)).mono ?_
       rintro e w8 ⟨rfl,t8⟩
       have HT8:=hid t8
       clear t8
       go_wp2_with fail
       refine (HTl.out _ HT8.out).mono ?_
       rintro e w9 ⟨rfl,t9⟩
       have HT9:=hid (HT8.out.trans t9)
       have d9:=(HT9.out.cell (lt_of_cell d0) id).trans d0
       clear t9 d0 HT8 h0 h10
       obtain ⟨vw,hvw⟩:∃ q,v.w=q:=⟨_,rfl⟩
       rw [hvw] at HAl d9
       clear hvw
       by_cases h8:vw < 8
       ·have HAA:=hid (HAll.out _ HT9.out)
        rw [HAl.out (by decide) (by decide) (fun _ => .inl h8)] at HAA
        clear HAl HAll
        go_wp2_with fail
        refine HAA.out.mono ?_
        rintro e w10 ⟨rfl,t10⟩
        have HT10:=hid (HT9.out.trans t10)
        clear t10
        go_wp2_with fail
        go_roundg (gk - 1)
        case measure => omega
        case rel => exact ⟨j+1,by omega,by go_num,hid ⟨k',C',HY.out.1.still HT10.out,HY.out.2⟩⟩
       ·by_cases h10:10 < vw
        ·have HAA:=hid (HAll.out _ HT9.out)
         rw [HAl.out (by decide) (by decide) (fun _ => .inr h10)] at HAA
         clear HAl HAll
         go_wp2_with fail
         refine HAA.out.mono ?_
         rintro e w10 ⟨rfl,t10⟩
         have HT10:=hid (HT9.out.trans t10)
         clear t10
         go_wp2_with fail
         go_roundg (gk - 1)
         case measure => omega
         case rel => exact ⟨j+1,by omega,by go_num,hid ⟨k',C',HY.out.1.still HT10.out,HY.out.2⟩⟩
        ·clear HAl HAll
         go_wp2_with fail
         go_roundg (gk - 1)
         case measure => omega
         case rel => exact ⟨j+1,by omega,by go_num,hid ⟨k',C',HY.out.1.still HT9.out,HY.out.2⟩⟩
      ·have e0:(z != 0)=true:=by simpa using h0
       have e10:(z != 10)=true:=by simpa using h10
       have e12:(z != 12)=true:=by simpa using h12
       have f12:(z == 12)=false:=by simpa using h12
       have hS:=HAl.out h0 h10 (fun e => absurd e h12)
       rw [hS] at HAll
       clear h0 h10 h12 hS HAl d0
       go_wp2_with fail
       refine (HTl.out _ (Turn.refl _ _)).mono ?_
       rintro e w8 ⟨rfl,t8⟩
       have HT8:=hid t8
       clear t8
       go_wp2_with fail
       refine (HAll.out _ HT8.out).mono ?_
       rintro e w9 ⟨rfl,t9⟩
       have HT9:=hid (HT8.out.trans t9)
       clear t9
       go_wp2_with fail
       refine (HTl.out _ HT9.out).mono ?_
       rintro e w10 ⟨rfl,t10⟩
       have HT10:=hid (HT9.out.trans t10)
       clear t10
       go_wp2_with fail
       go_roundg (gk - 1)
       case measure => omega
       case rel => exact ⟨j+1,by omega,by go_num,hid ⟨k',C',HY.out.1.still HT10.out,HY.out.2⟩⟩
   ·go_wp2_with fail
    go_returns
    exact ⟨rfl,HT2.out.trans hk.turn⟩
end
end
section
open Go.ChangeShapes Go.WideShapes Go.ChangeAt Go.RowKit
theorem i64_of_wf {z:Int} (h:(Lit.int .i64 z).wf=true):I64 z:=by
 have h3:IntKind.i64.min=-9223372036854775808:=by decide
 have h4:IntKind.i64.max=9223372036854775807:=by decide
 simp [Lit.wf,h3,h4] at h
 exact ⟨by omega,by omega⟩
theorem call_list64 {H:Type} {enc:TypeId×Value→H} {W:World} {fs:Array Field} {b off n:Nat} (h:StructsAt enc Tryz.prog W fs b off n) (hs:fs.size=7) (ht:∀ (j:Nat) (f:Field),fs[j]?=some f→if j < 5 then Tryz.prog.underlying f.type=some (.int .i64) else Tryz.prog.underlying f.type=some .string) :
  ∃ xs:List CallV,xs.length=n∧CallsAt W b off xs∧∀ v∈xs,I64 v.c:=by
 have geti:∀ i j,i < n→j < 5→∃ z:Int,W.cell? ⟨b,off+(i * fs.size+j),none⟩=some (.int .i64 z)∧I64 z:=by
  intro i j hi hj
  have hf:fs[j]?=some (fs[j]'(by omega)):=by simp
  obtain ⟨v,y,m,hc,hd⟩:=h i j _ hi hf
  have h1:=ht j _ hf
  rw [if_pos hj] at h1
  obtain ⟨z,hz,_,hw⟩:=DataW.trod_int h1 hd
  simp only [List.cons.injEq,and_true] at hz
  subst hz
  exact ⟨z,hc,i64_of_wf hw⟩
 have gets:∀ i j,i < n→5≤j∧j < 7→∃ s:ByteArray,W.cell? ⟨b,off+(i * fs.size+j),none⟩=some (.string s):=by
  intro i j hi hj
  have hf:fs[j]?=some (fs[j]'(by omega)):=by simp
  obtain ⟨v,y,m,hc,hd⟩:=h i j _ hi hf
  have h1:=ht j _ hf
  rw [if_neg (by omega)] at h1
  obtain ⟨s,hz,_,hw⟩:=DataW.trod_string h1 hd
  simp only [List.cons.injEq,and_true] at hz
  subst hz
  exact ⟨s,hc⟩
 obtain ⟨g0,h0⟩:=Go.Proofs.YtamleilijmgoeaaGreatDoor.kpick_lt (fun i hi => geti i 0 hi (by omega))
 obtain ⟨g1,h1⟩:=Go.Proofs.YtamleilijmgoeaaGreatDoor.kpick_lt (fun i hi => geti i 1 hi (by omega))
 obtain ⟨g2,h2⟩:=Go.Proofs.YtamleilijmgoeaaGreatDoor.kpick_lt (fun i hi => geti i 2 hi (by omega))
 obtain ⟨g3,h3⟩:=Go.Proofs.YtamleilijmgoeaaGreatDoor.kpick_lt (fun i hi => geti i 3 hi (by omega))
 obtain ⟨g4,h4⟩:=Go.Proofs.YtamleilijmgoeaaGreatDoor.kpick_lt (fun i hi => geti i 4 hi (by omega))
 obtain ⟨g5,h5⟩:=Go.Proofs.YtamleilijmgoeaaGreatDoor.kpick_lt (fun i hi => gets i 5 hi (by omega))
 obtain ⟨g6,h6⟩:=Go.Proofs.YtamleilijmgoeaaGreatDoor.kpick_lt (fun i hi => gets i 6 hi (by omega))
 refine ⟨(List.range n).map fun i => ⟨g0 i,g1 i,g2 i,g3 i,g4 i,g5 i,g6 i⟩,by simp,?_,fun v hv => ?_⟩
 rotate_left
 ·obtain ⟨i,hi,rfl⟩:=List.mem_map.1 hv
  exact (h4 i (List.mem_range.1 hi)).2
 intro j x hx
 have hj:j < n:=by
  have:=(List.getElem?_eq_some_iff.1 hx).1
  simpa using this
 simp only [List.getElem?_map,List.getElem?_range hj,Option.map_some,Option.some.injEq] at hx
 subst hx
 rw [hs] at h0 h1 h2 h3 h4 h5 h6
 exact ⟨(h0 j hj).1,(h1 j hj).1,(h2 j hj).1,(h3 j hj).1,(h4 j hj).1,h5 j hj,h6 j hj⟩
theorem call_open64 {H:Type} {enc:TypeId×Value→H} {W:World} (a:Option Addr) (n:Nat) (fs:Array Field) (hfs:Tryz.prog.underlying 47=some (.struct fs)) (hcase:n=0∨∃ b off,a=some ⟨b,off,none⟩∧b < W.heap.size∧StructsAt enc Tryz.prog W fs b off n):∃ xs:List CallV,xs.length=n∧CallsIn W a xs∧∀ v∈xs,I64 v.c:=by
 have e:=Option.some.inj (hfs.symm.trans Tryz.underlying47)
 injection e with e
 subst e
 rcases hcase with rfl | ⟨b,off,rfl,hb,hst⟩
 ·exact ⟨[],rfl,fun h => absurd rfl h,fun _ h => by cases h⟩
 ·obtain ⟨xs,rfl,hc,h64⟩:=call_list64 hst rfl (fun j f hf => by
   rcases j with _ | _ | _ | _ | _ | _ | _ | j
   ·cases hf; exact Tryz.underlying3
   ·cases hf; exact Tryz.underlying3
   ·cases hf; exact Tryz.underlying3
   ·cases hf; exact Tryz.underlying3
   ·cases hf; exact Tryz.underlying3
   ·cases hf; exact Tryz.underlying9
   ·cases hf; exact Tryz.underlying9
   ·simp at hf)
  exact ⟨xs,rfl,fun _ => ⟨b,off,rfl,hc,hb⟩,h64⟩
end
end Go.Proofs.YtamleilijmgoeaaGreatDoor
