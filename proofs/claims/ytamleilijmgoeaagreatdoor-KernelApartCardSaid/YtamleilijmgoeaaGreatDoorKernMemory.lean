/- KernelRefuses' 'memory': what a process has in its first pages, as one text. Conditions: each theorem's own premises; what is laid. KernelRefuses' 'all': what is seen of a kernel, as one text: a plain function of what there is. Conditions: each theorem's own premises; what is laid. Kernel's laws: what is seen of a kernel ('all') hangs on few things; what is refused turns none of them; words stay int64. Plain. Conditions: each theorem's own premises. KernelApart, plain: what one does turns nothing that is seen of all others, unless somebody goes. Conditions: each theorem's own premises. KernelApart: the law's walk: for all lists of calls it returns true. Conditions: each theorem's own premises; the variables errors.errorType and internal/strconv.uint64pow10 hold what is laid. A list of calls as an argument: opened, with the bounds of what is stored. No condition. -/
import Derived.Test.YtamleilijmgoeaaGreatDoorWordsPlain
import Derived.Test.YtamleilijmgoeaaGreatDoorKern
import Derived.Test.YtamleilijmgoeaaGreatDoorKernFork
import Derived.Test.YtamleilijmgoeaaGreatDoorCallsOpen
namespace Go.Proofs.YtamleilijmgoeaaGreatDoor
set_option linter.unusedVariables false
set_option maxHeartbeats 16000000
set_option maxRecDepth 100000
section
open Go.RowKit Go.Lib
def memT (m:Nat→Nat→Int) (P:Int→Option Pg):ByteArray:=⟨(allT (loadV P m) (fun a k => accE P a k 1) 6).toArray⟩
theorem memT_size {m:Nat→Nat→Int} {P:Int→Option Pg} (hm:∀ f k,I64 (m f k)):(memT m P).size≤2400:=by
 have h:=allT_len (V:=loadV P m) (Z:=fun a k => accE P a k 1) (loadV_range hm) (fun a k => by have:=accE_small P a k 1; exact ⟨by omega,by omega⟩) 6
 unfold memT
 simpa [ByteArray.size] using h
section
variable {W w w':World} {a:KA} {k:KS} {C:Nat→Nat×Nat} {pid:Int} {i:Nat} {o:KO} {x:Spc} {y:Nat×PTab}
theorem memory_is (h:KIn W w a k C) (hok:KOk k) (hmi:Mine k pid i o x y) (hm:∀ f k',I64 (k.t.m f k')) (hT:Tab w) (hL:Laid w) :
  Calls Tryz.prog 127 #[.pointer (some ⟨a.kb,0,none⟩),.int .i64 pid] w fun e w' => e=.returned (.string (memT k.t.m x.P))∧Turn (fun _ => False) w w':=by
 have HT:=hid hT
 have HL:=hid hL
 unfold memT
 obtain ⟨V,hV⟩:∃ V:Int→Int→Int,loadV x.P k.t.m=V:=⟨_,rfl⟩
 obtain ⟨Z,hZ⟩:∃ Z:Int→Int→Int,(fun a k => accE x.P a k 1)=Z:=⟨_,rfl⟩
 have HV:Hid (∀ a k,I64 (V a k)):=hid (fun a' k' => by rw [← hV]; exact loadV_range hm a' k')
 have HZ:Hid (∀ a k,0≤Z a k∧Z a k < 15):=hid (fun a k => by rw [← hZ]; exact accE_small x.P a k 1)
 have HZ2:Hid (∀ a k,I64 (Z a k)):=hid (fun a k => by have:=HZ.out a k; exact ⟨by omega,by omega⟩)
 have HLd:Hid (∀ w',Turn (fun _ => False) w w'→∀ p q:Int,Calls Tryz.prog 31 #[.pointer (some ⟨a.kb,0,none⟩),.int .i64 pid,.int .i64 p,.int .i64 q] w' fun e w'' => e=.returned (.tuple #[.int .i64 (V p q),VmErr (Z p q)])∧Turn (fun _ => False) w' w''):=hid (fun w' tt p q => by
  rw [← hV,← hZ]
  exact kload_yes (h.still tt) hok hmi p q)
 rw [hV,hZ]
 have HB0:=hid (bldNew w.heap.size w (Nat.le_refl _))
 obtain ⟨c,hc⟩:∃ c,w.heap.size=c:=⟨_,rfl⟩
 have HC:=hid hc
 rw [hc] at HB0
 obtain ⟨kb,hkb⟩:∃ kb,a.kb=kb:=⟨_,rfl⟩
 rw [hkb] at HLd ⊢
 clear h hok hmi hm hT hL hV hZ hkb
 go_enter Tryz.func127,Tryz.ntmps127
 go_wp2_with fail
 clear hc
 go_loopg [6] 6 (fun gl i wr => ∃ a:Nat,a+gl=6∧i=.int .i64 a∧Hid (BIs c c (byteCells (allT V Z a)) wr)∧Hid (Turn (fun _ => False) w wr))
 case atStart => exact ⟨0,by omega,rfl,HB0,hid ((Turn.refl _ _).alloc _)⟩
 case round =>
  obtain ⟨a,ha,rfl,hB,hTw⟩:=hrel
  by_cases ha12:a < 6
  ·have ha':(a:Int) < 6:=by omega
   go_wp2_with fail
   go_loopg [7] 8 (fun gl i wx => ∃ k:Nat,k+gl=8∧i=.int .i64 k∧Hid (BIs c c (byteCells (allT V Z a ++ rowT V Z a k)) wx)∧Hid (Turn (fun _ => False) w wx))
   case atStart => exact ⟨0,by omega,rfl,hid (by show BIs c c (byteCells (allT V Z a ++ [])) _; rw [List.append_nil]; exact hB.out),hTw⟩
   case round =>
    clear hB hTw
    obtain ⟨k,hk,rfl,hB,hTw⟩:=hrel
    by_cases hk8:k < 8
    ·have hk8':(k:Int) < 8:=by omega
     have HLk:=hid (HLd.out _ hTw.out a k)
     have hz:=HZ.out a k
     have HVr:=hid (HV.out a k)
     have HZr:=hid (HZ2.out a k)
     have HRow:Hid (rowT V Z a (k+1)=rowT V Z a k ++ pieceL (V a k) (Z a k)):=hid rfl
     have HAl:=hid (allT_len HV.out HZ2.out a)
     have HRl:=hid (rowT_len HV.out HZ2.out a k)
     obtain ⟨v,hv⟩:∃ v,V a k=v:=⟨_,rfl⟩
     obtain ⟨z,hzz⟩:∃ z,Z a k=z:=⟨_,rfl⟩
     rw [hv,hzz] at HLk HRow
     rw [hv] at HVr
     rw [hzz] at HZr hz
     have HPs:=hid (pieceT_size HVr.out HZr.out)
     have hl1:=itoa_length_le v HVr.out.1 HVr.out.2
     have hl2:=itoa_length_le z HZr.out.1 HZr.out.2
     obtain ⟨sv,hsv⟩:∃ sv:ByteArray,⟨(itoa v).toArray⟩=sv:=⟨_,rfl⟩
     obtain ⟨sz,hsz⟩:∃ sz:ByteArray,⟨(itoa z).toArray⟩=sz:=⟨_,rfl⟩
     have hp1:sv.size≤21:=by rw [← hsv]; exact (by simpa [ByteArray.size] using hl1)
     have hp2:sz.size≤21:=by rw [← hsz]; exact (by simpa [ByteArray.size] using hl2)
     have HSv:=hid hsv
     have HSz:=hid hsz
     clear hv hzz hl1 hl2 hsv hsz
     go_wp2_with fail
     refine HLk.out.mono ?_
     rintro e w1 ⟨rfl,t1⟩
     have HT1:=hid (hTw.out.trans t1)
     have HB1:=hid (hB.out.turned t1)
     have HF:=hid (fmt_is v HVr.out.1 HVr.out.2 w1 (HT.out.turned HT1.out))
     rw [HSv.out] at HF
     clear t1 HLk hB hTw
     go_wp2_with fail
     refine HF.out.mono ?_
     rintro e w2 ⟨rfl,t2⟩
     have HT2:=hid (HT1.out.trans t2)
     have HB2:=hid (HB1.out.turned t2)
     clear t2 HF HB1 HT1
     have HTl:=hid (tell_vm z w2 (HL.out.turned0 HT2.out))
     go_wp2_with fail
     refine HTl.out.mono ?_
     rintro e w3 ⟨rfl,t3⟩
     have HT3:=hid (HT2.out.trans t3)
     have HB3:=hid (HB2.out.turned t3)
     have HI:=hid (itoa_is z HZr.out.1 HZr.out.2 w3 (HT.out.turned HT3.out))
     rw [HSz.out] at HI
     clear t3 HTl HB2 HT2
     go_wp2_with fail
     refine HI.out.mono ?_
     rintro e w4 ⟨rfl,t4⟩
     have HT4:=hid (HT3.out.trans t4)
     have HB4:=hid (HB3.out.turned t4)
     clear t4 HI HB3 HT3
     have HW:=hid (bldWrite_is HB4.out (sv ++ ⟨#[44]⟩ ++ sz ++ ⟨#[59]⟩) (by
      have h1:=HAl.out
      have h2:=HRl.out
      have h3:(sv ++ ⟨#[44]⟩ ++ sz ++ ⟨#[59]⟩:ByteArray)=pieceT v z:=by rw [← HSv.out,← HSz.out]; rfl
      rw [h3,byteCells_len,List.length_append]
      have:=HPs.out
      omega) (by have:=HT4.out.size; have:=HC.out; omega))
     go_wp2_with fail
     refine HW.out.mono ?_
     rintro e w5 ⟨rfl,h5,b5⟩
     have HT5:=hid (HT4.out.trans' (turn_above b5) (fun k hk h => by have:=HC.out; omega))
     have HB5:Hid (BIs c c (byteCells (allT V Z a ++ rowT V Z a (k+1))) w5):=hid (by
      have h3:(sv ++ ⟨#[44]⟩ ++ sz ++ ⟨#[59]⟩:ByteArray)=pieceT v z:=by rw [← HSv.out,← HSz.out]; rfl
      rw [h3,pieceT_eq,← byteCells_app] at h5
      rw [HRow.out,← List.append_assoc]
      exact h5)
     clear h5 b5 HW HB4 HT4
     go_wp2_with fail
     go_roundg (gk - 1)
     case measure => omega
     case rel => exact ⟨k+1,by omega,by go_num,HB5,HT5⟩
    ·have hk8':¬ (k:Int) < 8:=by omega
     obtain rfl:k=8:=by omega
     go_wp2_with fail
     go_roundg (6 - (a+1))
     case measure => omega
     case rel => exact ⟨a+1,by omega,by go_num,hB,hTw⟩
  ·have ha':¬ (a:Int) < 6:=by omega
   obtain rfl:a=6:=by omega
   have HSt:=hid (bldString_is hB.out (by have:=hTw.out.size; have:=HC.out; omega))
   clear ha
   go_wp2_with fail
   refine HSt.out.mono ?_
   rintro e w1 ⟨rfl,b1⟩
   have HT1:=hid (hTw.out.trans' (turn_above b1) (fun k hk h => by have:=HC.out; omega))
   clear b1 HSt
   go_wp2_with fail
   go_ret
   exact ⟨rfl,HT1.out⟩
end
end
section
open Go.RowKit Go.Lib
def piT (n:Int):ByteArray:=⟨(itoa n).toArray⟩
theorem piT_size {n:Int} (h:I64 n):(piT n).size≤21:=by
 have:=itoa_length_le n h.1 h.2
 unfold piT
 simpa [ByteArray.size] using this
def headT (l o n:Int):ByteArray:=piT l ++ ⟨#[32]⟩ ++ piT o ++ ⟨#[32]⟩ ++ piT n
def oneT (p s a b c z:Int):ByteArray:=⟨#[124]⟩ ++ piT p ++ ⟨#[32]⟩ ++ piT s ++ ⟨#[32]⟩ ++ piT a ++ ⟨#[32]⟩ ++ piT b ++ ⟨#[32]⟩ ++ piT c ++ ⟨#[32]⟩ ++ piT z
def stepT (k:KS) (p:Int) (s:ByteArray):ByteArray :=
 match mget k.ow p with
 | none => s ++ oneT p (stR k.pl k.pf p) 0 0 0 7
 | some i => match k.l[i]?,k.ts[i]? with
  | some x,some y => s ++ oneT p (stR k.pl k.pf p) (lenP x.P:Nat) (resP x.P:Nat) (usedL y.2:Nat) 0 ++ memT k.t.m x.P
  | _,_ => s
def allN (k:KS) (but:Int) (ps:List Int) (s:ByteArray):Nat→ByteArray
 | 0 => s
 | j+1 => match ps[j]? with
  | none => allN k but ps s j
  | some p => if p=but then allN k but ps s j else stepT k p (allN k but ps s j)
def headK (a:KA) (k:KS) (but:Int):ByteArray:=if 0 < but then ⟨#[]⟩ else headT ((a.n:Int) - kUsed a k) (k.S.es.length:Int) (k.S.T.length:Int)
def allK (a:KA) (k:KS) (but:Int):ByteArray:=allN k but (pidsOf k.pl) (headK a k but) (pidsOf k.pl).length
theorem allN_congr {k k':KS} {but:Int} {ps:List Int} {s:ByteArray} (h:∀ p∈ps,p≠but→∀ s,stepT k' p s=stepT k p s):∀ j,allN k' but ps s j=allN k but ps s j
 | 0 => rfl
 | j+1 => by
  unfold allN
  rw [allN_congr h j]
  cases hp:ps[j]? with
  | none => rfl
  | some p =>
   by_cases e:p=but
   ·simp only [if_pos e]
   ·simp only [if_neg e]
    exact h p (List.mem_of_getElem? hp) e _
theorem bsize_append (a b:ByteArray):(a ++ b).size=a.size+b.size:=ByteArray.size_append
theorem oneT_size {p s a b c z:Int} (hp:I64 p) (hs:I64 s) (ha:I64 a) (hb:I64 b) (hc:I64 c) (hz:I64 z):(oneT p s a b c z).size≤200:=by
 have h1:=piT_size hp
 have h2:=piT_size hs
 have h3:=piT_size ha
 have h4:=piT_size hb
 have h5:=piT_size hc
 have h6:=piT_size hz
 unfold oneT
 simp only [bsize_append]
 have e1:(⟨#[32]⟩:ByteArray).size=1:=rfl
 have e2:(⟨#[124]⟩:ByteArray).size=1:=rfl
 omega
section
variable {W w w':World} {a:KA} {k:KS} {C:Nat→Nat×Nat} {pid:Int} {i:Nat} {o:KO} {x:Spc} {y:Nat×PTab}
theorem KIn.used_le' (h:KIn W w a k C):kUsed a k≤a.n:=cntB_le _ _
theorem kst_small (hok:KOk k) (p:Int):0≤stR k.pl k.pf p∧stR k.pl k.pf p≤2:=by
 unfold stR
 cases hb:mget k.pl p with
 | none => exact ⟨Int.le_refl _,by show (0:Int)≤2; decide⟩
 | some b =>
  have:=hok.kin.st _ (mem_of_mget hb)
  simp only at this ⊢
  rcases this with e | e <;> (rw [show (Option.elim (some b) 0 fun b => (k.pf b).state)=(k.pf b).state from rfl] ; omega)
theorem stepT_none {p:Int} (hn:mget k.ow p=none) (s:ByteArray):stepT k p s=s ++ oneT p (stR k.pl k.pf p) 0 0 0 7:=by unfold stepT; rw [hn]
theorem stepT_some {p:Int} (hm:Mine k p i o x y) (s:ByteArray):stepT k p s=s ++ oneT p (stR k.pl k.pf p) (lenP x.P:Nat) (resP x.P:Nat) (usedL y.2:Nat) 0 ++ memT k.t.m x.P:=by
 unfold stepT
 rw [hm.own]
 simp only [hm.sp,hm.tab]
theorem I64.ofNat {n:Nat} (h:n≤1000000):I64 (n:Int):=⟨by omega,by omega⟩
def HasV (k:KS) (p:Int) (A B D z:Int):Prop:=I64 A∧I64 B∧I64 D∧I64 z∧((z=7∧∀ s,stepT k p s=s ++ oneT p (stR k.pl k.pf p) A B D z)∨(z=0∧∃ i o x y,Mine k p i o x y∧∀ s,stepT k p s=s ++ oneT p (stR k.pl k.pf p) A B D z ++ memT k.t.m x.P))
theorem has_vals {p:Int} {e:Ending} (h:HasIs k p e):∃ A B D z,e=.returned (.tuple #[.int .i64 A,.int .i64 B,.int .i64 D,TErr z])∧HasV k p A B D z:=by
 rcases h with ⟨hn,rfl⟩ | ⟨i,o,x,y,hm,rfl⟩
 ·exact ⟨0,0,0,7,rfl,⟨by decide,by decide⟩,⟨by decide,by decide⟩,⟨by decide,by decide⟩,⟨by decide,by decide⟩,.inl ⟨rfl,stepT_none hn⟩⟩
 ·have h1:=lenP_le x.P
  have h2:=resP_le x.P
  have h3:=usedL_le y.2
  exact ⟨_,_,_,0,rfl,.ofNat (by omega),.ofNat (by omega),.ofNat (by omega),⟨by decide,by decide⟩,.inr ⟨rfl,i,o,x,y,hm,stepT_some hm⟩⟩
theorem stepT_size (hok:KOk k) (hm:∀ f k',I64 (k.t.m f k')) {p:Int} (hp:I64 p) (s:ByteArray):(stepT k p s).size≤s.size+2600:=by
 have hst:=kst_small hok p
 have is:I64 (stR k.pl k.pf p):=⟨by omega,by omega⟩
 unfold stepT
 split
 ·have:=oneT_size (p:=p) (s:=stR k.pl k.pf p) (a:=0) (b:=0) (c:=0) (z:=7) hp is ⟨by decide,by decide⟩ ⟨by decide,by decide⟩ ⟨by decide,by decide⟩ ⟨by decide,by decide⟩
  rw [bsize_append]; omega
 ·split
  ·rename_i x y _ _
   have h1:=lenP_le x.P
   have h2:=resP_le x.P
   have h3:=usedL_le y.2
   have:=oneT_size (p:=p) (s:=stR k.pl k.pf p) (a:=(lenP x.P:Nat)) (b:=(resP x.P:Nat)) (c:=(usedL y.2:Nat)) (z:=0) hp is (.ofNat (by omega)) (.ofNat (by omega)) (.ofNat (by omega)) ⟨by decide,by decide⟩
   have:=memT_size (m:=k.t.m) (P:=x.P) hm
   rw [bsize_append,bsize_append]; omega
  ·omega
theorem allN_size (hok:KOk k) (hm:∀ f k',I64 (k.t.m f k')) {but:Int} {ps:List Int} {s:ByteArray} (hp:∀ p∈ps,I64 p):∀ j,(allN k but ps s j).size≤s.size+j * 2600
 | 0 => by show s.size≤_; omega
 | j+1 => by
  have ih:=allN_size hok hm (but:=but) (s:=s) hp j
  unfold allN
  split
  ·omega
  ·rename_i p hpj
   split
   ·omega
   ·have:=stepT_size hok hm (hp p (List.mem_of_getElem? hpj)) (allN k but ps s j)
    omega
theorem allN_skip {but:Int} {ps:List Int} {s:ByteArray} {j:Nat} (hp:ps[j]?=some but):allN k but ps s (j+1)=allN k but ps s j:=by
 rw [allN,hp]
 exact if_pos rfl
theorem allN_step {but p:Int} {ps:List Int} {s:ByteArray} {j:Nat} (hp:ps[j]?=some p) (hn:p≠but):allN k but ps s (j+1)=stepT k p (allN k but ps s j):=by
 rw [allN,hp]
 exact if_neg hn
theorem pid_i64 (hok:KOk k) {p:Int} (hp:p∈pidsOf k.pl):I64 p:=by
 obtain ⟨t,ht,rfl⟩:=List.mem_map.1 (mem_pidsOf.1 hp)
 have:=hok.kin.rng t ht
 exact ⟨by omega,by omega⟩
theorem all_is (h:KIn W w a k C) (hok:KOk k) (han:a.n≤1000) (hm:∀ f k',I64 (k.t.m f k')) (hT:Tab w) (hL:Laid w) (but:Int) :
  Calls Tryz.prog 43 #[.pointer (some ⟨a.kb,0,none⟩),.int .i64 but] w fun e w' => e=.returned (.string (allK a k but))∧Turn (fun _ => False) w w':=by
 have HIt:Hid (∀ (n:Int) (w':World),I64 n→Turn (fun _ => False) w w'→Calls Tryz.prog 126 #[.int .i64 n] w' fun e w'' => e=.returned (.string (piT n))∧Turn (fun _ => False) w' w'') :=
  hid (fun n w' hn tt => itoa_is n hn.1 hn.2 w' (hT.turned tt))
 have HL:=hid hL
 have HLe:=hid (kleft_is h)
 have H:=hid h
 have HOk:=hid hok
 have HM:=hid hm
 have HT:=hid hT
 have hu:kUsed a k≤a.n:=h.used_le'
 have hes:=hok.dok.size
 have htl:k.S.T.length≤60:=by
  obtain ⟨F,nm,B,D,_,hto,_⟩:=h.tree
  exact hto.size
 have hNl:=kin_len hok
 have HHd:Hid (headT ((a.n:Int) - kUsed a k) (k.S.es.length:Int) (k.S.T.length:Int)=piT ((a.n:Int) - kUsed a k) ++ ⟨#[32]⟩ ++ piT (k.S.es.length:Int) ++ ⟨#[32]⟩ ++ piT (k.S.T.length:Int)):=hid rfl
 have HOp:=hid (fun w' (tt:Turn (fun _ => False) w w') => kopen_is (h.still tt))
 have HNo:=hid (fun w' (tt:Turn (fun _ => False) w w') => knodes_is (h.still tt))
 have HPi:=hid (fun w' (tt:Turn (fun _ => False) w w') => kpids_row (h.still tt) hok)
 unfold allK headK
 obtain ⟨l,hl⟩:∃ l:Int,(a.n:Int) - kUsed a k=l:=⟨_,rfl⟩
 obtain ⟨oo,ho⟩:∃ oo:Int,(k.S.es.length:Int)=oo:=⟨_,rfl⟩
 obtain ⟨nn,hn⟩:∃ nn:Int,(k.S.T.length:Int)=nn:=⟨_,rfl⟩
 have il:I64 l:=⟨by omega,by omega⟩
 have io:I64 oo:=⟨by omega,by omega⟩
 have inn:I64 nn:=⟨by omega,by omega⟩
 have HIl:=hid (fun w' tt => HIt.out l w' il tt)
 have HIo:=hid (fun w' tt => HIt.out oo w' io tt)
 have HIn:=hid (fun w' tt => HIt.out nn w' inn tt)
 rw [hl,ho,hn] at HHd
 rw [hl] at HLe
 rw [ho] at HOp
 rw [hn] at HNo
 simp only [hl,ho,hn]
 have s1:=piT_size il
 have s2:=piT_size io
 have s3:=piT_size inn
 rw [HHd.out]
 obtain ⟨sl,hsl⟩:∃ s,piT l=s:=⟨_,rfl⟩
 obtain ⟨so,hso⟩:∃ s,piT oo=s:=⟨_,rfl⟩
 obtain ⟨sn,hsn⟩:∃ s,piT nn=s:=⟨_,rfl⟩
 rw [hsl,hso,hsn]
 rw [hsl] at s1 HIl
 rw [hso] at s2 HIo
 rw [hsn] at s3 HIn
 obtain ⟨S0,hS0⟩:∃ S0:ByteArray,(if 0 < but then (⟨#[]⟩:ByteArray) else sl ++ ⟨#[32]⟩ ++ so ++ ⟨#[32]⟩ ++ sn)=S0:=⟨_,rfl⟩
 rw [hS0]
 have s0:S0.size≤70:=by
  rw [← hS0]
  have e1:(⟨#[32]⟩:ByteArray).size=1:=rfl
  have e2:(⟨#[]⟩:ByteArray).size=0:=rfl
  split
  ·rw [e2]; omega
  ·simp only [bsize_append]; omega
 have HS0:=hid hS0
 have Hs0:=hid s0
 obtain ⟨N,hN⟩:∃ N,(pidsOf k.pl).length=N:=⟨_,rfl⟩
 have HNn:=hid hN
 rw [hN] at hNl HPi ⊢
 obtain ⟨kb,hkb⟩:∃ kb,a.kb=kb:=⟨_,rfl⟩
 have HKb:=hid hkb
 rw [hkb] at HLe HOp HNo HPi ⊢
 clear h hok hm hT hL hl ho hn hsl hso hsn HHd hN hS0 s0 hu hes htl il io inn hkb han
 go_enter Tryz.func43,Tryz.ntmps43
 go_wp2_with fail
 refine HLe.out.mono ?_
 rintro e w1 ⟨rfl,hw⟩; subst w1
 go_wp2_with fail
 refine (HIl.out _ (Turn.refl _ _)).mono ?_
 rintro e w1 ⟨rfl,t1⟩
 have HT1:=hid t1
 clear t1
 go_wp2_with fail
 refine (HOp.out _ HT1.out).mono ?_
 rintro e w2 ⟨rfl,hw⟩; subst w2
 go_wp2_with fail
 refine (HIo.out _ HT1.out).mono ?_
 rintro e w2 ⟨rfl,t2⟩
 have HT2:=hid (HT1.out.trans t2)
 clear t2
 go_wp2_with fail
 refine (HNo.out _ HT2.out).mono ?_
 rintro e w3 ⟨rfl,hw⟩; subst w3
 go_wp2_with fail
 refine (HIn.out _ HT2.out).mono ?_
 rintro e w3 ⟨rfl,t3⟩
 have HT3:=hid (HT2.out.trans t3)
 clear t3 HIl HIo HIn HT1 HT2 HLe HOp HNo
 go_upto_if 26 with fail
 go_cut [5] (fun v wx => v=.string S0∧Hid (Turn (fun _ => False) w wx))
 case first =>
  by_cases hb:0 < but
  ·have hb':(0:Int) < but:=hb
   have e:=HS0.out
   rw [if_pos hb] at e
   go_wp2_with fail
   go_meet
   first | exact ⟨rfl,HT3⟩ | exact ⟨by rw [e],HT3⟩
  ·have e:=HS0.out
   rw [if_neg hb] at e
   go_wp2_with fail
   go_meet
   first | exact ⟨rfl,HT3⟩ | exact ⟨by rw [e],HT3⟩
 case rest =>
  obtain ⟨rfl,HTx⟩:=hcut
  clear HT3 HS0
  go_wp2_with fail
  refine (HPi.out _ HTx.out).mono ?_
  rintro e w4 ⟨g,cap,rfl,hI,hg,t4⟩
  have HI:=hid hI
  have HT4:=hid (HTx.out.trans t4)
  have Hg:=hid (show g < w4.heap.size from by
   rcases hI.shape with ⟨h,_⟩ | ⟨g',c',h,_,_,hl⟩
   ·cases h
   ·have e:some g=some g':=congrArg Value.ownBlock h
    rw [Option.some.inj e]; exact hl)
  clear hI hg t4 HPi HTx
  go_wp2_with fail
  go_loopg [5,7] (N) (fun gl sv ix wr => ∃ m:Nat,m+gl=N∧ix=.int .i64 m∧sv=.string (allN k but (pidsOf k.pl) S0 m)∧Hid (Turn (fun _ => False) w4 wr))
  case atStart => exact ⟨0,by omega,rfl,rfl,hid (Turn.refl _ _)⟩
  case round =>
   obtain ⟨m,hm,rfl,rfl,hT5⟩:=hrel
   by_cases hml:m < N
   ·have hml':(m:Int) < N:=by omega
    have hm0:(0:Int)≤(m:Int):=by omega
    obtain ⟨p,hp⟩:∃ p,(pidsOf k.pl)[m]?=some p:=⟨_,List.getElem?_eq_getElem (by rw [HNn.out]; exact hml)⟩
    have hI5:=HI.out.turned hT5.out (fun _ _ => id)
    rw [← HNn.out] at hI5
    have cp:=hI5.cell m p hp
    have hI4:=HI.out
    rw [← HNn.out] at hI4
    have HCp4:=hid (hI4.cell m p hp)
    clear hI4
    have hIp:=pid_i64 HOk.out (List.mem_of_getElem? hp)
    have hsz:=allN_size HOk.out HM.out (but:=but) (s:=S0) (fun q hq => pid_i64 HOk.out hq) m
    have hNl2:m < 24:=by omega
    by_cases hpb:p=but
    ·have hb1:(p == but)=true:=by simpa using hpb
     have HA:=hid (allN_skip (k:=k) (s:=S0) (hpb ▸ hp))
     have HT5:=hid hT5.out
     clear hT5 hp hI5 hIp hpb
     obtain ⟨S,hS⟩:∃ S,allN k but (pidsOf k.pl) S0 m=S:=⟨_,rfl⟩
     rw [hS] at HA ⊢
     clear hsz hS
     go_wp2_with fail
     go_roundg (gk - 1)
     case measure => omega
     case rel => exact ⟨m+1,by omega,by go_num,by rw [HA.out],HT5⟩
    ·have hb1:(p == but)=false:=by simpa using hpb
     have HA:=hid (allN_step (k:=k) (s:=S0) hp hpb)
     obtain ⟨S,hS⟩:∃ S,allN k but (pidsOf k.pl) S0 m=S:=⟨_,rfl⟩
     rw [hS] at HA hsz ⊢
     have hsz2:S.size≤70000:=by have:=Hs0.out; omega
     have HHa:=hid (khas_is (H.out.still (HT4.out.trans hT5.out)) HOk.out p)
     rw [HKb.out] at HHa
     have HT5:=hid hT5.out
     have HCp:=hid cp
     have HIp:=hid (fun w' tt => HIt.out p w' hIp (HT4.out.trans tt))
     have hst:=kst_small HOk.out p
     have HIs:=hid (fun w' tt => HIt.out (stR k.pl k.pf p) w' ⟨by omega,by omega⟩ (HT4.out.trans tt))
     have HSt:=hid (fun w' (tt:Turn (fun _ => False) w4 w') => kstate_is (H.out.still (HT4.out.trans tt)) p)
     rw [HKb.out] at HSt
     have s1:=piT_size hIp
     have s2:=piT_size (n:=stR k.pl k.pf p) ⟨by omega,by omega⟩
     clear hT5 hp hI5 hpb hS hsz hst hIp
     go_wp2_with fail
     refine HHa.out.mono ?_
     rintro e w6 ⟨hh,t6⟩
     obtain ⟨A,B,D,z,rfl,iA,iB,iD,iz,hz⟩:=has_vals hh
     have HIA:=hid (fun w' tt => HIt.out A w' iA (HT4.out.trans tt))
     have HIB:=hid (fun w' tt => HIt.out B w' iB (HT4.out.trans tt))
     have HID:=hid (fun w' tt => HIt.out D w' iD (HT4.out.trans tt))
     have HIz:=hid (fun w' tt => HIt.out z w' iz (HT4.out.trans tt))
     have s3:=piT_size iA
     have s4:=piT_size iB
     have s5:=piT_size iD
     have s6:=piT_size iz
     have HZ:=hid hz
     have HOn:Hid (oneT p (stR k.pl k.pf p) A B D z=⟨#[124]⟩ ++ piT p ++ ⟨#[32]⟩ ++ piT (stR k.pl k.pf p) ++ ⟨#[32]⟩ ++ piT A ++ ⟨#[32]⟩ ++ piT B ++ ⟨#[32]⟩ ++ piT D ++ ⟨#[32]⟩ ++ piT z):=hid rfl
     have td:Turn (fun _ => False) w6 w6.drew:=(Turn.refl _ _).drew
     have hT6:=HT5.out.trans t6
     have HTd:=hid (hT6.trans td)
     have HT6:=hid hT6
     have cp6:=(t6.cell (lt_of_cell cp) id).trans cp
     have k6:=(td.cell (lt_of_cell cp6) id).trans cp6
     obtain ⟨st,hst⟩:∃ st,stR k.pl k.pf p=st:=⟨_,rfl⟩
     rw [hst] at HIs HSt s2 HOn HZ
     obtain ⟨x1,e1⟩:∃ s,piT p=s:=⟨_,rfl⟩
     obtain ⟨x2,e2⟩:∃ s,piT st=s:=⟨_,rfl⟩
     obtain ⟨x3,e3⟩:∃ s,piT A=s:=⟨_,rfl⟩
     obtain ⟨x4,e4⟩:∃ s,piT B=s:=⟨_,rfl⟩
     obtain ⟨x5,e5⟩:∃ s,piT D=s:=⟨_,rfl⟩
     obtain ⟨x6,e6⟩:∃ s,piT z=s:=⟨_,rfl⟩
     rw [e1,e2,e3,e4,e5,e6] at HOn
     rw [e1] at HIp s1
     rw [e2] at HIs s2
     rw [e3] at HIA s3
     rw [e4] at HIB s4
     rw [e5] at HID s5
     rw [e6] at HIz s6
     rw [HOn.out] at HZ
     have HTl:=hid (fun w' (tt:Turn (fun _ => False) w4 w') => tell_tree z w' (HL.out.turned0 (HT4.out.trans tt)))
     obtain ⟨tz,htz⟩:∃ v,TErr z=v:=⟨_,rfl⟩
     have HTz:=hid htz
     rw [htz] at HTl ⊢
     clear hh t6 td hT6 cp hst e1 e2 e3 e4 e5 e6 iA iB iD iz hz HHa HCp htz HOn
     have q0:¬ (9223372036854775807 < 1+x1.size):=by omega
     have q1:¬ (9223372036854775807≤1+x1.size):=by omega
     have q2:¬ (9223372036854775807 < 1+x1.size+1):=by omega
     have q3:¬ (9223372036854775807 < 1+x1.size+1+x2.size):=by omega
     have q4:¬ (9223372036854775807≤1+x1.size+1+x2.size):=by omega
     have q5:¬ (9223372036854775807 < 1+x1.size+1+x2.size+1):=by omega
     have q6:¬ (9223372036854775807 < 1+x1.size+1+x2.size+1+x3.size):=by omega
     have q7:¬ (9223372036854775807≤1+x1.size+1+x2.size+1+x3.size):=by omega
     have q8:¬ (9223372036854775807 < 1+x1.size+1+x2.size+1+x3.size+1):=by omega
     have q9:¬ (9223372036854775807 < 1+x1.size+1+x2.size+1+x3.size+1+x4.size):=by omega
     have q10:¬ (9223372036854775807≤1+x1.size+1+x2.size+1+x3.size+1+x4.size):=by omega
     have q11:¬ (9223372036854775807 < 1+x1.size+1+x2.size+1+x3.size+1+x4.size+1):=by omega
     have q12:¬ (9223372036854775807 < 1+x1.size+1+x2.size+1+x3.size+1+x4.size+1+x5.size):=by omega
     have q13:¬ (9223372036854775807≤1+x1.size+1+x2.size+1+x3.size+1+x4.size+1+x5.size):=by omega
     have q14:¬ (9223372036854775807 < 1+x1.size+1+x2.size+1+x3.size+1+x4.size+1+x5.size+1):=by omega
     have q15:¬ (9223372036854775807 < 1+x1.size+1+x2.size+1+x3.size+1+x4.size+1+x5.size+1+x6.size):=by omega
     have q16:¬ (9223372036854775807 < S.size+(1+x1.size+1+x2.size+1+x3.size+1+x4.size+1+x5.size+1+x6.size)):=by omega
     go_wp2_with fail
     go_region_held3 (fun w' => w'.cell? ⟨g,m,none⟩=some (.int .i64 p))
      (first | exact k6 | exact k7 | exact k9 | exact k10 | exact k11 | exact k12 | exact k13 | exact k14 | go_keep)
      (first
       | (go_at_call 126; refine (HIp.out _ HTd.out).mono ?_; rintro e w7 ⟨rfl,t7⟩; have HT7:=hid (HTd.out.trans t7); have k7:=(t7.cell (lt_of_cell k6) id).trans k6; clear t7)
       | (go_at_call 29; refine (HSt.out _ HT7.out).mono ?_; rintro e w8 ⟨rfl,hw⟩; subst w8)
       | (go_at_call 126; refine (HIs.out _ HT7.out).mono ?_; rintro e w9 ⟨rfl,t9⟩; have HT9:=hid (HT7.out.trans t9); have k9:=(t9.cell (lt_of_cell k7) id).trans k7; clear t9)
       | (go_at_call 126; refine (HIA.out _ HT9.out).mono ?_; rintro e w10 ⟨rfl,t10⟩; have HT10:=hid (HT9.out.trans t10); have k10:=(t10.cell (lt_of_cell k9) id).trans k9; clear t10)
       | (go_at_call 126; refine (HIB.out _ HT10.out).mono ?_; rintro e w11 ⟨rfl,t11⟩; have HT11:=hid (HT10.out.trans t11); have k11:=(t11.cell (lt_of_cell k10) id).trans k10; clear t11)
       | (go_at_call 126; refine (HID.out _ HT11.out).mono ?_; rintro e w12 ⟨rfl,t12⟩; have HT12:=hid (HT11.out.trans t12); have k12:=(t12.cell (lt_of_cell k11) id).trans k11; clear t12)
       | (go_at_call 17; refine (HTl.out _ HT12.out).mono ?_; rintro e w13 ⟨rfl,t13⟩; have HT13:=hid (HT12.out.trans t13); have k13:=(t13.cell (lt_of_cell k12) id).trans k12; clear t13)
       | (go_at_call 126; refine (HIz.out _ HT13.out).mono ?_; rintro e w14 ⟨rfl,t14⟩; have HT14:=hid (HT13.out.trans t14); have k14:=(t14.cell (lt_of_cell k13) id).trans k13; clear t14))
     obtain ⟨S2,hS2⟩:∃ S2:ByteArray,S ++ (⟨#[124]⟩ ++ x1 ++ ⟨#[32]⟩ ++ x2 ++ ⟨#[32]⟩ ++ x3 ++ ⟨#[32]⟩ ++ x4 ++ ⟨#[32]⟩ ++ x5 ++ ⟨#[32]⟩ ++ x6)=S2:=⟨_,rfl⟩
     have hs2:S2.size≤80000:=by
      rw [← hS2]
      have e1:(⟨#[32]⟩:ByteArray).size=1:=rfl
      have e2:(⟨#[124]⟩:ByteArray).size=1:=rfl
      simp only [bsize_append]
      omega
     rw [hS2]
     have HZ2:Hid ((z=7∧stepT k p S=S2)∨(z=0∧∃ i o x y,Mine k p i o x y∧stepT k p S=S2 ++ memT k.t.m x.P)):=hid (by
      rcases HZ.out with ⟨h1,h2⟩ | ⟨h1,i,o,x,y,h2,h3⟩
      ·exact .inl ⟨h1,by rw [h2,hS2]⟩
      ·exact .inr ⟨h1,i,o,x,y,h2,by rw [h3,hS2]⟩)
     have e7:=HTz.out
     clear hS2 HZ HIp HIs HIA HIB HID HIz HSt HTl HTz k6 k7 k9 k10 k11 k12 k13 k14 HTd HT7 HT9 HT10 HT11 HT12 HT13 s1 s2 s3 s4 s5 s6 q0 q1 q2 q3 q4 q5 q6 q7 q8 q9 q10 q11 q12 q13 q14 q15 q16
     rcases HZ2.out with ⟨rfl,hs⟩ | ⟨rfl,i,o,x,y,hmi,hs⟩
     ·rw [show TErr 7=.iface 36 (.int .i64 7) from rfl] at e7
      subst e7
      have HS:=hid hs
      clear hs HZ2
      go_wp2_with fail
      go_roundg (gk - 1)
      case measure => omega
      case rel => exact ⟨m+1,by omega,by go_num,by rw [HA.out,HS.out],HT14⟩
     ·rw [show TErr 0=.nilIface from rfl] at e7
      subst e7
      have hme:=memory_is (H.out.still (HT4.out.trans HT14.out)) HOk.out hmi HM.out (HT.out.turned (HT4.out.trans HT14.out)) (HL.out.turned0 (HT4.out.trans HT14.out))
      rw [HKb.out] at hme
      have s7:=memT_size (m:=k.t.m) (P:=x.P) HM.out
      obtain ⟨sm,hsm⟩:∃ s,memT k.t.m x.P=s:=⟨_,rfl⟩
      rw [hsm] at hme s7 hs
      have HMe:=hid hme
      have HS:=hid hs
      clear hs hme hsm hmi HZ2
      have cp2:=(HT14.out.cell (lt_of_cell (HCp4.out)) id).trans HCp4.out
      go_wp2_with fail
      refine HMe.out.mono ?_
      rintro e w15 ⟨rfl,t15⟩
      have HT15:=hid (HT14.out.trans t15)
      clear t15
      go_wp2_with fail
      go_roundg (gk - 1)
      case measure => omega
      case rel => exact ⟨m+1,by omega,by go_num,by rw [HA.out,HS.out],HT15⟩
   ·have hme:m=N:=by omega
    subst hme
    go_wp2_with fail
    go_returns
    exact ⟨rfl,HT4.out.trans hT5.out⟩
end
end
section
open Go.RowKit Go.Lib
section
variable {W w w' w1:World} {a:KA} {k k' k1 k2:KS} {C C':Nat→Nat×Nat} {pid z:Int} {i j:Nat} {o o':KO} {x:Spc} {y:Nat×PTab} {v:CallV} {S:PS} {L:PTab}
/-! ### words -/
def Words (m:Nat→Nat→Int):Prop:=∀ f j,I64 (m f j)
theorem went_m:∀ {go:List Int} {k k1:KS},Went a k go k1→k1.t.m=k.t.m
 | [],k,k1,h => by rw [show k1=k from h]
 | v :: go,k,k1,h => by
  obtain ⟨k2,hg,h2⟩:=h
  obtain ⟨_,_,_,_,i,o,x,y,b,t',_,_,ht,_,e⟩:=hg
  rw [went_m h2,e]
  exact ht
theorem Words.set {m:Nat→Nat→Int} (h:Words m) {c:Int} (hc:I64 c) (f g:Nat):Words (memSet m f g c):=fun p q => by
 unfold memSet
 split
 ·exact hc
 ·exact h p q
theorem Words.new {m:Nat→Nat→Int} (h:Words m) {c:Int} (hc:I64 c) (f g wd:Int):Words (newM m f g wd c):=by
 unfold newM
 refine Words.set ?_ hc _ _
 intro p q
 split
 ·unfold memZero
  split
  ·exact ⟨by decide,by decide⟩
  ·exact h p q
 ·unfold memCopy
  split
  ·exact h _ _
  ·exact h p q
theorem storeR_words (hW:Words k.t.m) (hc:I64 v.c) (h:StoreR a k v i o x y z k'):Words k'.t.m:=by
 obtain ⟨go,k1,hw,_,⟨_,hs,_⟩ | ⟨_,e,_⟩⟩:=h
 ·have h1:Words k1.t.m:=by rw [went_m hw]; exact hW
  rcases hs with ⟨_,_,e⟩ | ⟨_,_,_,g,_,⟨_,_,t',_,hm,e⟩ | ⟨_,_,_,e⟩ | ⟨_,_,f,t',_,_,_,hm,e⟩⟩
  ·rw [e]; exact h1
  ·rw [e]; show Words t'.m; rw [hm]; exact h1.set hc _ _
  ·rw [e]; exact h1
  ·rw [e]; show Words t'.m; rw [hm]; exact h1.new hc _ _ _
 ·rw [e,went_m hw]; exact hW
theorem KR.words {R:KS→Prop} (h:KR k z R k') (hW:Words k.t.m) (hR:R k'→k'.t.m=k.t.m):Words k'.t.m:=by
 rcases h.cases with ⟨_,h⟩ | ⟨_,t',ht,rfl⟩
 ·rw [hR h]; exact hW
 ·show Words t'.m; rw [ht]; exact hW
theorem CallR.words (h:CallR a k v z k') (hW:Words k.t.m) (hc:I64 v.c):Words k'.t.m:=by
 rcases h with ⟨_,_,e⟩ | ⟨_,_,e⟩ | ⟨n,i,o,x,y,hn,hm,h⟩
 ·subst e; exact hW
 ·subst e; exact hW
 ·have hfork:ForkR k v.p o x y z k'→Words k'.t.m:=fun h => by
   rcases h with ⟨_,_,e⟩ | ⟨_,_,b,f,_,_,_,e⟩
   ·subst e; exact hW
   ·subst e; exact hW
  match n,h with
  | 0,h => exact hfork h
  | 1,h => exact hfork h
  | 2,⟨_,h⟩ => exact h.words hW (by rintro ⟨t',b,h1,_,rfl⟩; exact h1)
  | 3,⟨_,t',h1,e⟩ => subst e; show Words t'.m; rw [h1]; exact hW
  | 4,h => rcases h with ⟨_,e⟩ | ⟨_,j,c,b,_,_,_,e⟩ <;> (subst e; exact hW)
  | 5,⟨_,h⟩ => exact h.words hW (by rintro rfl; rfl)
  | 6,⟨_,h⟩ => exact h.words hW (by rintro rfl; rfl)
  | 7,⟨_,h⟩ => exact h.words hW (by rintro ⟨t',h1,rfl⟩; exact h1)
  | 8,h => exact storeR_words hW hc h
  | 9,h => exact storeR_words hW hc h
  | 10,h => exact storeR_words hW hc h
  | 11,⟨_,h⟩ => exact h.words hW (by rintro rfl; rfl)
  | 12,⟨_,h⟩ => exact h.words hW (by rintro rfl; rfl)
  | 13,⟨_,h⟩ => exact h.words hW (by rintro rfl; rfl)
  | 14,⟨_,h⟩ => exact h.words hW (by rintro rfl; rfl)
  | 15,⟨_,h⟩ => exact h.words hW (by rintro rfl; rfl)
  | 16,⟨_,h⟩ => exact h.words hW (by rintro rfl; rfl)
  | 17,⟨_,pf',e,_,_⟩ => subst e; exact hW
  | 18,⟨_,h⟩ => exact h.words hW (by rintro rfl; rfl)
  | 19,⟨_,h⟩ => exact h.words hW (by rintro rfl; rfl)
  | 20,⟨_,pf',e,_⟩ => subst e; exact hW
  | 21,⟨_,h⟩ =>
   rcases h with ⟨_,r,pf',_,_,⟨_,e⟩ | ⟨_,t',b,h1,_,e⟩⟩ | ⟨_,b,Wt,_,e⟩
   ·subst e; exact hW
   ·subst e; show Words t'.m; rw [h1]; exact hW
   ·subst e; exact hW
  | 22,⟨_,h⟩ => exact h.words hW (by rintro rfl; rfl)
  | 23,⟨_,h⟩ => exact h.words hW (by rintro rfl; rfl)
  | 24,⟨_,h⟩ => exact h.words hW (by rintro rfl; rfl)
  | 25,⟨_,h⟩ => exact h.words hW (by rintro rfl; rfl)
  | 26,⟨_,h⟩ => exact h.words hW (by rintro rfl; rfl)
  | 27,⟨_,h⟩ => exact h.words hW (by rintro rfl; rfl)
end
end
section
open Go.RowKit Go.Lib
section
variable {W w w' w1:World} {a:KA} {k k' k1 k2:KS} {C C':Nat→Nat×Nat} {pid z:Int} {i j:Nat} {o o':KO} {x x2:Spc} {y:Nat×PTab} {v:CallV} {S:PS} {L:PTab}
structure Beside (k k':KS) (i:Nat):Prop where
 ow:k'.ow=k.ow
 pl:k'.pl=k.pl
 st:∀ q,stR k'.pl k'.pf q=stR k.pl k.pf q
 l:∀ j,j≠i→k'.l[j]?=k.l[j]?
 ts:∀ j,j≠i→k'.ts[j]?=k.ts[j]?
 mem:∀ j x,j≠i→k.l[j]?=some x→memT k'.t.m x.P=memT k.t.m x.P
theorem Beside.step (h:Beside k k' i) (hok:KOk k) (hi:mget k.ow pid=some i) {p:Int} (hne:p≠pid) (s:ByteArray):stepT k' p s=stepT k p s:=by
 unfold stepT
 rw [h.ow,h.st]
 cases hp:mget k.ow p with
 | none => rfl
 | some j =>
  have hj:j≠i:=fun e => hne (hok.inj p pid i (e ▸ hp) hi)
  simp only
  rw [h.l j hj,h.ts j hj]
  cases hl:k.l[j]? with
  | none => rfl
  | some x =>
   cases ht:k.ts[j]? with
   | none => rfl
   | some y =>
    simp only
    rw [h.mem j x hj hl]
theorem Beside.all (h:Beside k k' i) (hok:KOk k) (hi:mget k.ow pid=some i) (hp:0 < pid):allK a k' pid=allK a k pid:=by
 unfold allK headK
 rw [if_pos hp,if_pos hp,h.pl]
 exact allN_congr (fun p _ hne s => h.step hok hi hne s) _
theorem Beside.of (h1:k'.ow=k.ow) (h2:k'.pl=k.pl) (h3:∀ q,stR k'.pl k'.pf q=stR k.pl k.pf q) (h4:k'.l=k.l∨∃ y,k'.l=k.l.set i y) (h5:k'.ts=k.ts∨∃ y,k'.ts=k.ts.set i y) (h6:k'.t.m=k.t.m):Beside k k' i:=by
 refine ⟨h1,h2,h3,fun j hj => ?_,fun j hj => ?_,fun j x _ _ => by rw [h6]⟩
 ·rcases h4 with e | ⟨y,e⟩
  ·rw [e]
  ·rw [e,List.getElem?_set_ne (fun e => hj e.symm)]
 ·rcases h5 with e | ⟨y,e⟩
  ·rw [e]
  ·rw [e,List.getElem?_set_ne (fun e => hj e.symm)]
theorem Beside.err {R:KS→Prop} (h:KR k z R k') (hR:R k'→Beside k k' i):Beside k k' i:=by
 rcases h.cases with ⟨_,h⟩ | ⟨_,t',ht,rfl⟩
 ·exact hR h
 ·exact .of rfl rfl (fun _ => rfl) (.inl rfl) (.inl rfl) ht
theorem memT_keep {m m':Nat→Nat→Int} {P:Int→Option Pg} (h:∀ i q,P i=some q→0≤q.2→∀ n,m' q.2.toNat n=m q.2.toNat n):memT m' P=memT m P:=by
 unfold memT
 rw [allT_congr (V:=loadV P m') (V':=loadV P m) (Z:=fun a k => accE P a k 1) (Z':=fun a k => accE P a k 1)]
 intro a _ j _
 refine ⟨?_,rfl⟩
 unfold loadV
 by_cases hz:accE P a j 1=0
 ·rw [if_pos hz,if_pos hz]
  rcases accE_or P a j 1 with ⟨he,hn⟩ | he | he | ⟨he,h0,h8,q,hq,hq1⟩
  ·omega
  ·omega
  ·omega
  ·rw [hq]
   simp only [Option.getD_some]
   unfold wordV
   by_cases hf:q.2 < 0
   ·rw [if_pos hf,if_pos hf]
   ·rw [if_neg hf,if_neg hf]
    exact h _ q hq (by omega) _
 ·rw [if_neg hz,if_neg hz]
theorem frame_other (hk:KIn W w a k C) (hi:k.l[i]?=some x) (hj:k.l[j]?=some x2) (hne:j≠i) {p:Int} {q:Pg} (hq:x2.P p=some q) (h0:0≤q.2):1+cntF x.P q.2≤k.t.R q.2:=by
 have hd:=(hk.vm.sps j x2 hj).dom p q hq
 have h1:=cntF_ge (P:=x2.P) (i:=p) (f:=q.2) hd.1 hd.2
 rw [hq,hasF_some,if_pos rfl] at h1
 have h2:=sumC_erase hi q.2
 have h3:=sumC_set (y:=⟨0,0,fun _ => none⟩) hi q.2
 have h4:=sumC_pos (l:=k.l.set i ⟨0,0,fun _ => none⟩) (k:=j) (x:=x2) (by rw [List.getElem?_set_ne (fun e => hne e.symm)]; exact hj) q.2
 have h5:=hk.vm.refs q.2 h0
 have h6:cntF (⟨0,0,fun _ => none⟩:Spc).P q.2=0:=sumN_zero (fun _ _ => rfl)
 omega
theorem storeOn_beside (hk:KIn W w a k C) (hi:k.l[i]?=some x) {p q c:Int} (h:StoreOn a k i x p q c z k'):Beside k k' i:=by
 rcases h with ⟨_,_,e⟩ | ⟨_,_,_,g,hg,⟨⟨h0,h1⟩,_,t',_,hm,e⟩ | ⟨_,_,_,e⟩ | ⟨_,_,f,t',h0,_,hR,hm,e⟩⟩
 ·subst e; exact .of rfl rfl (fun _ => rfl) (.inl rfl) (.inl rfl) rfl
 ·subst e
  refine ⟨rfl,rfl,fun _ => rfl,fun _ _ => rfl,fun _ _ => rfl,fun j x2 hne hj => ?_⟩
  show memT t'.m x2.P=_
  rw [hm]
  refine memT_keep (fun r u hu hu0 n => ?_)
  unfold memSet
  rw [if_neg]
  rintro ⟨h2,_⟩
  have h3:=frame_other hk hi hj hne hu hu0
  have e2:u.2=g.2:=by omega
  have hd:=(hk.vm.sps i x hi).dom p g hg
  have h4:=cntF_ge (P:=x.P) (i:=p) (f:=g.2) hd.1 hd.2
  rw [hg,hasF_some,if_pos rfl] at h4
  rw [e2] at h3
  omega
 ·subst e; exact .of rfl rfl (fun _ => rfl) (.inl rfl) (.inl rfl) rfl
 ·subst e
  refine ⟨rfl,rfl,fun _ => rfl,fun j hj => List.getElem?_set_ne (fun e => hj e.symm),fun _ _ => rfl,fun j x2 hne hj => ?_⟩
  show memT t'.m x2.P=_
  rw [hm]
  refine memT_keep (fun r u hu hu0 n => ?_)
  have hn:u.2.toNat≠f.toNat:=fun h2 => by
   have h3:=frame_other hk hi hj hne hu hu0
   have e2:u.2=f:=by omega
   rw [e2] at h3
   omega
  unfold newM memSet
  rw [if_neg (fun h => hn h.1)]
  split
  ·unfold memZero; rw [if_neg hn]
  ·unfold memCopy; rw [if_neg hn]
/-! ### how many run -/
def cntR (k:KS) (ps:List Int):Nat:=(ps.filter fun p => decide (stR k.pl k.pf p=1)).length
def runsN (k:KS):Nat:=cntR k (pidsOf k.pl)
theorem cntR_le (h:∀ q,stR k'.pl k'.pf q=1→stR k.pl k.pf q=1):∀ ps,cntR k' ps≤cntR k ps
 | [] => Nat.le_refl _
 | p :: ps => by
  have ih:=cntR_le h ps
  unfold cntR at *
  rw [List.filter_cons,List.filter_cons]
  by_cases h1:stR k'.pl k'.pf p=1
  ·rw [if_pos (by simpa using h1),if_pos (by simpa using h p h1)]
   simp only [List.length_cons]; omega
  ·rw [if_neg (by simpa using h1)]
   split
   ·simp only [List.length_cons]; omega
   ·exact ih
theorem cntR_lt (h:∀ q,stR k'.pl k'.pf q=1→stR k.pl k.pf q=1) {u:Int} (h1:stR k.pl k.pf u=1) (h2:stR k'.pl k'.pf u≠1):∀ ps,u∈ps→cntR k' ps < cntR k ps
 | p :: ps,hm => by
  have hle:=cntR_le h ps
  by_cases e:p=u
  ·subst e
   unfold cntR at *
   rw [List.filter_cons,List.filter_cons,if_neg (by simpa using h2),if_pos (by simpa using h1)]
   simp only [List.length_cons]; omega
  ·have ih:=cntR_lt h h1 h2 ps (by
    rcases List.mem_cons.1 hm with h | h
    ·exact absurd h.symm e
    ·exact h)
   unfold cntR at *
   rw [List.filter_cons,List.filter_cons]
   by_cases h3:stR k'.pl k'.pf p=1
   ·rw [if_pos (by simpa using h3),if_pos (by simpa using h p h3)]
    simp only [List.length_cons]; omega
   ·rw [if_neg (by simpa using h3)]
    split
    ·simp only [List.length_cons]; omega
    ·exact ih
theorem gone_runs (hok:KOk k) {u:Int} (h:GoneK a k u k'):runsN k' < runsN k:=by
 obtain ⟨_,_,_,_,i,o,x,y,b,t',hm,_,_,hb,e⟩:=h
 have hst:∀ q,stR k'.pl k'.pf q=if q=u then 2 else stR k.pl k.pf q:=fun q => by
  rw [e]; exact stR_exit hok.kin.inj hb 108 q
 have hpl:k'.pl=k.pl:=by rw [e]; rfl
 have h1:stR k.pl k.pf u=1:=(hok.run u).2 (by rw [hm.own]; rfl)
 unfold runsN
 rw [hpl]
 refine cntR_lt (fun q hq => ?_) h1 (by rw [hst,if_pos rfl]; decide) _ (mem_pidsOf.2 (List.mem_map.2 ⟨_,mem_of_mget hb,rfl⟩))
 rw [hst] at hq
 split at hq
 ·cases hq
 ·exact hq
theorem went_runs:∀ {go:List Int} {k k1:KS},KOk k→Went a k go k1→runsN k1≤runsN k∧(go≠[]→runsN k1 < runsN k)
 | [],k,k1,_,h => by rw [show k1=k from h]; exact ⟨Nat.le_refl _,fun e => absurd rfl e⟩
 | u :: go,k,k1,hok,h => by
  obtain ⟨k2,hg,h2⟩:=h
  have h3:=gone_runs hok hg
  have h4:=(went_runs hg.2.2.2.1 h2).1
  exact ⟨by omega,fun _ => by omega⟩
theorem storeOn_runs {p q c:Int} (h:StoreOn a k i x p q c z k'):runsN k'=runsN k:=by
 rcases h with ⟨_,_,e⟩ | ⟨_,_,_,g,_,⟨_,_,t',_,_,e⟩ | ⟨_,_,_,e⟩ | ⟨_,_,f,t',_,_,_,_,e⟩⟩ <;> (subst e; rfl)
theorem storeR_beside (hk:KIn W w a k C) (hok:KOk k) (hm:Mine k v.p i o x y) (h:StoreR a k v i o x y z k') (hr:runsN k'=runsN k):Beside k k' i:=by
 obtain ⟨go,k1,hw,_,⟨_,hs,_⟩ | ⟨_,e,go1,hgo⟩⟩:=h
 ·have h1:=went_runs hok hw
  have h2:=storeOn_runs hs
  by_cases hg:go=[]
  ·subst hg
   have e:k1=k:=hw
   subst e
   exact storeOn_beside hk hm.sp hs
  ·have:=h1.2 hg
   omega
 ·have h1:=(went_runs hok hw).2 (by rw [hgo]; simp)
  rw [e] at hr
  omega
theorem apart (hk:KIn W w a k C) (hok:KOk k) (h:CallR a k v z k') (hw:¬ v.w < 3∧v.w≠4∧v.w≠20∧v.w≠21) (hr:runsN k'=runsN k) (hp:0 < v.p):allK a k' v.p=allK a k v.p:=by
 rcases h with ⟨_,_,e⟩ | ⟨_,_,e⟩ | ⟨n,i,o,x,y,hn,hm,h⟩
 ·rw [e]
 ·rw [e]
 ·have file:∀ S' L' u',Beside k (fileK k i o y S' L' u') i:=fun S' L' u' => .of rfl rfl (fun _ => rfl) (.inl rfl) (.inr ⟨_,rfl⟩) rfl
  refine Beside.all (i:=i) ?_ hok hm.own hp
  match n,hn,h with
  | 0,hn,_ => omega
  | 1,hn,_ => omega
  | 2,hn,_ => omega
  | 3,_,⟨_,t',h1,e⟩ => subst e; exact .of rfl rfl (fun _ => rfl) (.inr ⟨_,rfl⟩) (.inr ⟨_,rfl⟩) h1
  | 4,hn,_ => omega
  | 5,_,⟨_,h⟩ => exact .err h (by rintro rfl; exact .of rfl rfl (fun _ => rfl) (.inr ⟨_,rfl⟩) (.inl rfl) rfl)
  | 6,_,⟨_,h⟩ => exact .err h (by rintro rfl; exact .of rfl rfl (fun _ => rfl) (.inr ⟨_,rfl⟩) (.inl rfl) rfl)
  | 7,_,⟨_,h⟩ => exact .err h (by rintro ⟨t',h1,rfl⟩; exact .of rfl rfl (fun _ => rfl) (.inr ⟨_,rfl⟩) (.inl rfl) h1)
  | 8,_,h => exact storeR_beside hk hok hm h hr
  | 9,_,h => exact storeR_beside hk hok hm h hr
  | 10,_,h => exact storeR_beside hk hok hm h hr
  | 11,_,⟨_,h⟩ => exact .err h (by rintro rfl; exact file _ _ _)
  | 12,_,⟨_,h⟩ => exact .err h (by rintro rfl; exact file _ _ _)
  | 13,_,⟨_,h⟩ => exact .err h (by rintro rfl; exact file _ _ _)
  | 14,_,⟨_,h⟩ => exact .err h (by rintro rfl; exact file _ _ _)
  | 15,_,⟨_,h⟩ => exact .err h (by rintro rfl; exact file _ _ _)
  | 16,_,⟨_,h⟩ => exact .err h (by rintro rfl; exact file _ _ _)
  | 17,_,⟨hz,pf',e,hq,_⟩ => subst e; exact .of rfl rfl hq.st (.inl rfl) (.inr ⟨_,rfl⟩) rfl
  | 18,_,⟨_,h⟩ => exact .err h (by rintro rfl; exact file _ _ _)
  | 19,_,⟨_,h⟩ => exact .err h (by rintro rfl; exact .of rfl rfl (fun _ => rfl) (.inl rfl) (.inl rfl) rfl)
  | 20,hn,_ => omega
  | 21,hn,_ => omega
  | 22,_,⟨_,h⟩ => exact .err h (by rintro rfl; exact .of rfl rfl (fun _ => rfl) (.inl rfl) (.inl rfl) rfl)
  | 23,_,⟨_,h⟩ => exact .err h (by rintro rfl; exact .of rfl rfl (fun _ => rfl) (.inl rfl) (.inl rfl) rfl)
  | 24,_,⟨_,h⟩ => exact .err h (by rintro rfl; exact .of rfl rfl (fun _ => rfl) (.inl rfl) (.inl rfl) rfl)
  | 25,_,⟨_,h⟩ => exact .err h (by rintro rfl; exact .of rfl rfl (fun _ => rfl) (.inr ⟨_,rfl⟩) (.inl rfl) rfl)
  | 26,_,⟨_,h⟩ => exact .err h (by rintro rfl; exact file _ _ _)
  | 27,_,⟨_,h⟩ => exact .err h (by rintro rfl; exact .of rfl rfl (fun _ => rfl) (.inl rfl) (.inl rfl) rfl)
theorem runs_is (h:KIn W w a k C) (hok:KOk k):Calls Tryz.prog 44 #[.pointer (some ⟨a.kb,0,none⟩)] w fun e w' => e=.returned (.int .i64 (runsN k:Int))∧Turn (fun _ => False) w w':=by
 have HPi:=hid (kpids_row h hok)
 have H:=hid h
 obtain ⟨N,hN⟩:∃ N,(pidsOf k.pl).length=N:=⟨_,rfl⟩
 have HNn:=hid hN
 have hNl:=kin_len hok
 rw [hN] at HPi hNl
 clear h hok hN
 go_enter Tryz.func44,Tryz.ntmps44
 go_wp2_with fail
 refine HPi.out.mono ?_
 rintro e w4 ⟨g,cap,rfl,hI,hg,t4⟩
 have HI:=hid hI
 have HT4:=hid t4
 clear hI hg t4 HPi
 go_wp2_with fail
 go_loopg [3,9] (N) (fun gl sv ix wr => ∃ m:Nat,m+gl=N∧ix=.int .i64 m∧sv=.int .i64 (cntR k ((pidsOf k.pl).take m):Int)∧wr=w4)
 case atStart => exact ⟨0,by omega,rfl,rfl,rfl⟩
 case round =>
  obtain ⟨m,hm,rfl,rfl,hwr⟩:=hrel
  subst hwr
  by_cases hml:m < N
  ·have hml':(m:Int) < N:=by omega
   have hm0:(0:Int)≤(m:Int):=by omega
   obtain ⟨p,hp⟩:∃ p,(pidsOf k.pl)[m]?=some p:=⟨_,List.getElem?_eq_getElem (by rw [HNn.out]; exact hml)⟩
   have hI5:=HI.out
   rw [← HNn.out] at hI5
   have cp:=hI5.cell m p hp
   have hst:=kstate_is (H.out.still HT4.out) p
   have hle:cntR k ((pidsOf k.pl).take m)≤24:=by
    unfold cntR
    have h1:=List.length_filter_le (fun p => decide (stR k.pl k.pf p=1)) ((pidsOf k.pl).take m)
    have h2:((pidsOf k.pl).take m).length≤m:=by rw [List.length_take]; omega
    omega
   have hnx:cntR k ((pidsOf k.pl).take (m+1))=cntR k ((pidsOf k.pl).take m)+if stR k.pl k.pf p=1 then 1 else 0:=by
    unfold cntR
    rw [List.take_add_one,hp,List.filter_append,List.length_append]
    congr 1
    show (List.filter _ [p]).length=_
    rw [List.filter_cons]
    by_cases h:stR k.pl k.pf p=1
    ·rw [if_pos (by simpa using h),if_pos h]; rfl
    ·rw [if_neg (by simpa using h),if_neg h]; rfl
   have HNx:=hid hnx
   obtain ⟨c,hc⟩:∃ c,cntR k ((pidsOf k.pl).take m)=c:=⟨_,rfl⟩
   rw [hc] at hle HNx ⊢
   obtain ⟨st,hs⟩:∃ st,stR k.pl k.pf p=st:=⟨_,rfl⟩
   rw [hs] at hst HNx
   have HSt:=hid hst
   clear hst hs hc hnx hI5 hp
   by_cases h1:st=1
   ·subst h1
    go_wp2_with fail
    refine HSt.out.mono ?_
    rintro e w8 ⟨rfl,hw⟩; subst w8
    go_wp2_with fail
    go_roundg (gk - 1)
    case measure => omega
    case rel => exact ⟨m+1,by omega,by go_num,by rw [HNx.out]; simp,rfl⟩
   ·have hb:(st == 1)=false:=by simpa using h1
    go_wp2_with fail
    refine HSt.out.mono ?_
    rintro e w8 ⟨rfl,hw⟩; subst w8
    go_wp2_with fail
    go_roundg (gk - 1)
    case measure => omega
    case rel => exact ⟨m+1,by omega,by go_num,by rw [HNx.out,if_neg h1]; rfl,rfl⟩
  ·have hme:m=N:=by omega
   subst hme
   have hT:List.take m (pidsOf k.pl)=pidsOf k.pl:=by rw [← HNn.out,List.take_length]
   rw [hT]
   clear hT
   go_wp2_with fail
   go_returns
   exact ⟨rfl,HT4.out⟩
end
end
section
open Go.RowKit Go.Lib
section
variable {W w w' w1:World} {a:KA} {k k':KS} {C C':Nat→Nat×Nat} {pid z:Int} {i j:Nat} {o o':KO} {x:Spc} {y:Nat×PTab} {v:CallV}
theorem krun_new' (t:St) (sp pm tab ob lb b:Nat):KRun 0 (newKS t sp pm tab ob lb b):=⟨Nat.le_refl _,TBnd.root⟩
theorem kernelApart_many (n0:Int) (al:Option Addr) (n cap:Nat) (bl:Option Addr) (n2 cap2:Nat) (p0:Int) (W:World) (h:40 < n) (hm:n≤9223372036854775807) :
    Calls Tryz.prog 9 #[.int .i64 n0,.slice al n cap,.slice bl n2 cap2,.int .i64 p0] W fun e w' => e=.returned (.bool true)∧Turn (fun _ => False) W w':=by
  have HC:=hid (calls_many al n cap W h hm)
  clear h hm
  go_enter Tryz.func9,Tryz.ntmps9
  go_wp2_with fail
  refine HC.out.mono ?_
  rintro e w1 ⟨rfl,rfl⟩
  go_wp2_with fail
  go_returns
  exact ⟨rfl,Turn.refl _ _⟩
theorem kernelApart_many2 (n0:Int) (al:Option Addr) (xs:List CallV) (cap:Nat) (bl:Option Addr) (n2 cap2:Nat) (p0:Int) (W:World) (hl:xs.length≤40) (hc:CallsIn W al xs) (h:40 < n2) (hm:n2≤9223372036854775807) :
    Calls Tryz.prog 9 #[.int .i64 n0,.slice al xs.length cap,.slice bl n2 cap2,.int .i64 p0] W fun e w' => e=.returned (.bool true)∧Turn (fun _ => False) W w':=by
  have HCs:=hid (calls_is al xs cap W hl hc)
  have HC:=hid (fun w' => calls_many bl n2 cap2 w' h hm)
  obtain ⟨n,hn⟩:∃ n,xs.length=n:=⟨_,rfl⟩
  rw [hn] at hl HCs ⊢
  clear h hm hn hc
  go_enter Tryz.func9,Tryz.ntmps9
  go_wp2_with fail
  refine HCs.out.mono ?_
  rintro e w1 ⟨r,rfl,t1,hsh⟩
  have HT1:=hid t1
  clear t1 hsh
  cases r with
  | false =>
    go_wp2_with fail
    go_returns
    exact ⟨rfl,HT1.out⟩
  | true =>
    go_wp2_with fail
    refine (HC.out _).mono ?_
    rintro e w2 ⟨rfl,hw⟩; subst w2
    go_wp2_with fail
    go_returns
    exact ⟨rfl,HT1.out⟩
theorem kernelApart_few (n0:Int) (al:Option Addr) (xs:List CallV) (cap:Nat) (bl2:Option Addr) (ys:List CallV) (cap3:Nat) (p0:Int) (W:World) (hL:Laid W) (hT:Tab W) (hl:xs.length≤40) (hc:CallsIn W al xs) (hi:∀ v∈xs,I64 v.c) (hl2:ys.length≤40) (hc2:CallsIn W bl2 ys) (hi2:∀ v∈ys,I64 v.c) :
    Calls Tryz.prog 9 #[.int .i64 n0,.slice al xs.length cap,.slice bl2 ys.length cap3,.int .i64 p0] W fun e w' => e=.returned (.bool true)∧Turn (fun _ => False) W w':=by
  have HCs:=hid (calls_is al xs cap W hl hc)
  have HCs2:=hid (fun w' (tt:Turn (fun _ => False) W w') => calls_is bl2 ys cap3 w' hl2 (hc2.turned tt))
  have HLd:=hid hL
  have HTb:=hid hT
  have HIv:=hid hi
  have HIv2:=hid hi2
  have HCi:=hid hc
  have HCi2:=hid hc2
  have HPk:=hid (fun (z n:Int) (w':World) (h1:1≤n) (h2:n≤1000000) => pick_any z n w' h1 h2)
  obtain ⟨n,hn⟩:∃ n,xs.length=n:=⟨_,rfl⟩
  obtain ⟨n2,hn2⟩:∃ n,ys.length=n:=⟨_,rfl⟩
  have HN:=hid hn
  have HN2:=hid hn2
  rw [hn] at hl HCs ⊢
  rw [hn2] at hl2 HCs2 ⊢
  clear hn hL hc hT hi hn2 hc2 hi2
  go_enter Tryz.func9,Tryz.ntmps9
  go_wp2_with fail
  refine HCs.out.mono ?_
  rintro e w0 ⟨r,rfl,t0,hsh0⟩
  have HT0:=hid t0
  cases r with
  | false =>
    clear t0 hsh0
    go_wp2_with fail
    go_returns
    exact ⟨rfl,HT0.out⟩
  | true =>
   have HSh:=hid (hsh0 rfl)
   clear t0 hsh0
   go_wp2_with fail
   refine (HCs2.out _ HT0.out).mono ?_
   rintro e w1 ⟨r,rfl,t1,hsh⟩
   have HT1:=hid (HT0.out.trans t1)
   cases r with
   | false =>
    clear t1 hsh
    go_wp2_with fail
    go_returns
    exact ⟨rfl,HT1.out⟩
   | true =>
    have HSh2:=hid (hsh rfl)
    have HKp:=hid (kept_is w1 (HLd.out.turned0 HT1.out))
    clear t1 hsh
    go_wp2_with fail
    refine HKp.out.mono ?_
    rintro e w2 ⟨rfl,t2⟩
    have HT2:=hid (HT1.out.trans t2)
    clear t2
    go_wp2_with fail
    refine (HPk.out n0 60 _ (by decide) (by decide)).mono ?_
    rintro e w4 ⟨rfl,hw⟩; subst w4
    have b0:=pk_nonneg n0 60 (by decide)
    have b1:=pk_lt n0 60 (by decide)
    obtain ⟨fr,hfr⟩:∃ fr:Nat,pk n0 60=fr:=⟨(pk n0 60).toNat,by omega⟩
    rw [hfr] at b0 b1 ⊢
    have hwr:IntKind.i64.wrap (8+(fr:Int))=((8+fr:Nat):Int):=by rw [IntWalk.i64_in _ (by omega)]; omega
    have hnw:=knew_is (8+fr) w2 (by omega) (by omega)
    unfold NewTo at hnw
    have HNw:=hid hnw
    clear b0 hfr hnw
    go_wp2_with fail
    (try rw [hwr])
    refine HNw.out.mono ?_
    rintro e w5 ⟨a,t,sp,pm,tab,ob,lb,b,rfl,ha,hR,hm0,⟨C5,hk5⟩,hok5⟩
    have HI:=hid (show KIn w2 w5 a (newKS t sp pm tab ob lb b) C5∧KOk (newKS t sp pm tab ob lb b)∧KRun 0 (newKS t sp pm tab ob lb b)∧Words (newKS t sp pm tab ob lb b).t.m from ⟨hk5,hok5,krun_new' t sp pm tab ob lb b,fun f g => by rw [show (newKS t sp pm tab ob lb b).t.m f g=0 from hm0 f g]; exact ⟨by decide,by decide⟩⟩)
    have HAn:=hid ha
    clear ha hR hm0 hk5 hok5 HNw
    go_wp2_with fail
    go_loopg [11] (n) (fun gl ix wr => ∃ j:Nat,j+gl=n∧ix=.int .i64 j∧Hid (∃ k C,KIn w2 wr a k C∧KOk k∧KRun j k∧Words k.t.m))
    case atStart => exact ⟨0,by omega,rfl,hid ⟨_,C5,HI.out⟩⟩
    case round =>
      clear HI
      obtain ⟨j,hj,rfl,hS⟩:=hrel
      obtain ⟨k,C,hk,hok,hrun,hwd⟩:=hS.out
      clear hS
      have hTW:Turn (fun _ => False) W wr:=HT2.out.trans hk.turn
      by_cases hlt:j < n
      · have hlt':(j:Int) < n:=by omega
        obtain ⟨v,hv⟩:∃ v,xs[j]?=some v:=⟨_,List.getElem?_eq_getElem (by rw [HN.out]; exact hlt)⟩
        obtain ⟨bl,off,rfl,hat,hbl⟩:=(HCi.out.turned hTW) (fun e => by rw [e] at hv; cases hv)
        obtain ⟨c0,c1,c2,c3,c4,c5,c6⟩:=hat j v hv
        have hsv:=HSh.out v (List.mem_of_getElem? hv)
        have q1:(0:Int)≤(j:Int):=by omega
        have hca:=call_is hk hok (HLd.out.turned0 HT2.out) (hrun.pre (by omega) hsv.1 hsv.2)
        unfold callA AskTo sh1 at hca
        have HCa:=hid hca
        have HX:=hid (show KRun j k∧Words k.t.m from ⟨hrun,hwd⟩)
        have HI64:=hid (HIv.out v (List.mem_of_getElem? hv))
        clear hk hok hrun hwd hTW hat hbl hv hsv hca
        go_wp2_with fail
        refine HCa.out.mono ?_
        rintro e w6 ⟨z,rfl,k',C',hk',hok',hcr⟩
        have HY:=hid (show KIn w2 w6 a k' C'∧KOk k'∧KRun (j+1) k'∧Words k'.t.m from ⟨hk',hok',HX.out.1.next hcr,hcr.words HX.out.2 HI64.out⟩)
        clear hk' hok' hcr HX HCa HI64 c0 c1 c2 c3 c4 c5 c6
        go_wp2_with fail
        go_roundg (gk - 1)
        case measure => omega
        case rel => exact ⟨j+1,by omega,by go_num,hid ⟨k',C',HY.out⟩⟩
      · have hje:j=n:=by omega
        subst hje
        have HK:=hid hk
        have HOk:=hid hok
        have HRun:=hid (show KRun j k∧Words k.t.m from ⟨hrun,hwd⟩)
        have HP:=hid (kpids_row hk hok)
        have HNl:=hid (kin_len hok)
        have HOne:=hid (show 1≤(pidsOf k.pl).length from by
          obtain ⟨b1',h1',_⟩:=hok.kin.one
          rw [len_pids]
          cases hpl:k.pl with
          | nil => rw [hpl] at h1'; cases h1'
          | cons _ _ => simp)
        clear hk hok hrun hwd hTW
        go_wp2_with fail
        refine HP.out.mono ?_
        rintro e w6 ⟨g,cap2,rfl,hI,hg,t6⟩
        have HI6:=hid hI
        have HK6:=hid (HK.out.still t6)
        clear hI hg t6 HK
        obtain ⟨N,hN⟩:∃ N,(pidsOf k.pl).length=N:=⟨_,rfl⟩
        have HNn:=hid hN
        have hN24:1≤N∧N≤24:=by
          have h24:=HNl.out
          have h1:=HOne.out
          rw [hN] at h24 h1
          exact ⟨h1,h24⟩
        rw [hN] at HI6 ⊢
        clear hN
        go_wp2_with fail
        refine (HPk.out p0 N _ (by omega) (by omega)).mono ?_
        rintro e w7 ⟨rfl,hw⟩; subst w7
        have d0:=pk_nonneg p0 N (by omega)
        have d1:=pk_lt p0 N (by omega)
        obtain ⟨pi,hpi⟩:∃ pi:Nat,pk p0 N=pi:=⟨(pk p0 N).toNat,by omega⟩
        rw [hpi] at d0 d1 ⊢
        obtain ⟨pid,hpid⟩:∃ pid,(pidsOf k.pl)[pi]?=some pid:=⟨_,List.getElem?_eq_getElem (by rw [HNn.out]; omega)⟩
        have hI6:=HI6.out
        rw [← HNn.out] at hI6
        have cp:=hI6.cell pi pid hpid
        have hpos:1≤pid:=by
          obtain ⟨t,ht,rfl⟩:=List.mem_map.1 (mem_pidsOf.1 (List.mem_of_getElem? hpid))
          exact (HOk.out.kin.rng t ht).1
        clear hI6 hpi hpid
        have HI7:=hid (show KIn w2 w6 a k C∧KOk k∧KRun j k∧Words k.t.m from ⟨HK6.out,HOk.out,HRun.out⟩)
        have HPos:=hid hpos
        clear HK6 HOk HRun HNn HI6 hpos
        go_wp2_with fail
        go_loopg [13] (n2) (fun gl ix wr => ∃ m:Nat,m+gl=n2∧ix=.int .i64 m∧Hid (∃ k C,KIn w2 wr a k C∧KOk k∧KRun (j+m) k∧Words k.t.m))
        case atStart => exact ⟨0,by omega,rfl,hid ⟨k,C,HI7.out⟩⟩
        case round =>
          clear HI7
          obtain ⟨m,hm,rfl,hS⟩:=hrel
          obtain ⟨k,C,hk,hok,hrun,hwd⟩:=hS.out
          clear hS
          by_cases hml:m < n2
          · have hml':(m:Int) < n2:=by omega
            have hm0:(0:Int)≤(m:Int):=by omega
            have hTW:Turn (fun _ => False) W wr:=HT2.out.trans hk.turn
            obtain ⟨v,hv⟩:∃ v,ys[m]?=some v:=⟨_,List.getElem?_eq_getElem (by rw [HN2.out]; exact hml)⟩
            obtain ⟨bl,off,rfl,hat,hbl⟩:=(HCi2.out.turned hTW) (fun e => by rw [e] at hv; cases hv)
            obtain ⟨c0,c1,c2,c3,c4,c5,c6⟩:=hat m v hv
            have hsv:=HSh2.out v (List.mem_of_getElem? hv)
            have h64:=HIv2.out v (List.mem_of_getElem? hv)
            obtain ⟨vw,vp,va,vb,vc,vs,vt⟩:=v
            simp only at c0 c1 c2 c3 c4 c5 c6 hsv h64
            have HV:=hid (show Short ⟨vw,pid,va,vb,vc,vs,vt⟩∧I64 vc from ⟨hsv,h64⟩)
            have HX:=hid (show KIn w2 wr a k C∧KOk k∧KRun (j+m) k∧Words k.t.m from ⟨hk,hok,hrun,hwd⟩)
            clear hk hok hrun hwd hTW hat hbl hv hsv h64
            by_cases h3:vw < 3
            ·
              go_wp2_with fail
              go_roundg (gk - 1)
              case measure => omega
              case rel => exact ⟨m+1,by omega,by go_num,hid ⟨k,C,HX.out.1.still ((Turn.refl _ _).alloc _),HX.out.2.1,HX.out.2.2.1.more (by omega),HX.out.2.2.2⟩⟩
            by_cases h4:vw=4
            · subst h4
              go_wp2_with fail
              go_roundg (gk - 1)
              case measure => omega
              case rel => exact ⟨m+1,by omega,by go_num,hid ⟨k,C,HX.out.1.still ((Turn.refl _ _).alloc _),HX.out.2.1,HX.out.2.2.1.more (by omega),HX.out.2.2.2⟩⟩
            by_cases h20:vw=20
            · subst h20
              go_wp2_with fail
              go_roundg (gk - 1)
              case measure => omega
              case rel => exact ⟨m+1,by omega,by go_num,hid ⟨k,C,HX.out.1.still ((Turn.refl _ _).alloc _),HX.out.2.1,HX.out.2.2.1.more (by omega),HX.out.2.2.2⟩⟩
            by_cases h21:vw=21
            · subst h21
              go_wp2_with fail
              go_roundg (gk - 1)
              case measure => omega
              case rel => exact ⟨m+1,by omega,by go_num,hid ⟨k,C,HX.out.1.still ((Turn.refl _ _).alloc _),HX.out.2.1,HX.out.2.2.1.more (by omega),HX.out.2.2.2⟩⟩
            have e4:(vw == 4)=false:=by simpa using h4
            have e20:(vw == 20)=false:=by simpa using h20
            have e21:(vw == 21)=false:=by simpa using h21
            have HW:=hid (show ¬ vw < 3∧vw≠4∧vw≠20∧vw≠21 from ⟨h3,h4,h20,h21⟩)
            clear h4 h20 h21
            go_upto_region 20 with fail
            have ta:Turn (fun _ => False) wr (wr.alloc (.cells #[.int .i64 vw,.int .i64 pid,.int .i64 va,.int .i64 vb,.int .i64 vc,.string vs,.string vt] 47)):=(Turn.refl _ _).alloc _
            have HD:Hid ((wr.alloc (.cells #[.int .i64 vw,.int .i64 pid,.int .i64 va,.int .i64 vb,.int .i64 vc,.string vs,.string vt] 47)).cell? ⟨wr.heap.size,0,none⟩=some (.int .i64 vw) ∧
              (wr.alloc (.cells #[.int .i64 vw,.int .i64 pid,.int .i64 va,.int .i64 vb,.int .i64 vc,.string vs,.string vt] 47)).cell? ⟨wr.heap.size,1,none⟩=some (.int .i64 pid) ∧
              (wr.alloc (.cells #[.int .i64 vw,.int .i64 pid,.int .i64 va,.int .i64 vb,.int .i64 vc,.string vs,.string vt] 47)).cell? ⟨wr.heap.size,2,none⟩=some (.int .i64 va) ∧
              (wr.alloc (.cells #[.int .i64 vw,.int .i64 pid,.int .i64 va,.int .i64 vb,.int .i64 vc,.string vs,.string vt] 47)).cell? ⟨wr.heap.size,3,none⟩=some (.int .i64 vb) ∧
              (wr.alloc (.cells #[.int .i64 vw,.int .i64 pid,.int .i64 va,.int .i64 vb,.int .i64 vc,.string vs,.string vt] 47)).cell? ⟨wr.heap.size,4,none⟩=some (.int .i64 vc) ∧
              (wr.alloc (.cells #[.int .i64 vw,.int .i64 pid,.int .i64 va,.int .i64 vb,.int .i64 vc,.string vs,.string vt] 47)).cell? ⟨wr.heap.size,5,none⟩=some (.string vs) ∧
              (wr.alloc (.cells #[.int .i64 vw,.int .i64 pid,.int .i64 va,.int .i64 vb,.int .i64 vc,.string vs,.string vt] 47)).cell? ⟨wr.heap.size,6,none⟩=some (.string vt)):=hid ⟨by simp,by simp,by simp,by simp,by simp,by simp,by simp⟩
            obtain ⟨xb,hxb⟩:∃ xb,wr.heap.size=xb:=⟨_,rfl⟩
            generalize hw8:wr.alloc (.cells #[.int .i64 vw,.int .i64 pid,.int .i64 va,.int .i64 vb,.int .i64 vc,.string vs,.string vt] 47)=w8 at ta HD ⊢
            rw [hxb] at HD ⊢
            clear hw8 hxb
            have han:a.n≤1000:=by have:=HAn.out; omega
            have hk8:=HX.out.1.still ta
            have hT8:Turn (fun _ => False) W w8:=HT2.out.trans hk8.turn
            have HA0:=hid (all_is hk8 HX.out.2.1 han HX.out.2.2.2 (HTb.out.turned hT8) (HLd.out.turned0 hT8) pid)
            obtain ⟨S0,hS0⟩:∃ S,allK a k pid=S:=⟨_,rfl⟩
            rw [hS0] at HA0
            have HS0:=hid hS0
            have HAn2:=hid han
            have HRu:=hid (fun w' (tt:Turn (fun _ => False) w8 w') => runs_is (hk8.still tt) HX.out.2.1)
            obtain ⟨R,hR⟩:∃ R,runsN k=R:=⟨_,rfl⟩
            rw [hR] at HRu
            have HR:=hid hR
            have HK8:=hid hk8
            clear ta han hk8 hT8 hS0 hR e4 e20 e21 h3
            go_wp2_with fail
            refine HA0.out.mono ?_
            rintro e w9 ⟨rfl,t9⟩
            have HT9:=hid t9
            clear t9 HA0
            go_wp2_with fail
            refine (HRu.out _ HT9.out).mono ?_
            rintro e w10 ⟨rfl,t10⟩
            have HT10:=hid (HT9.out.trans t10)
            clear t10 HRu HT9
            obtain ⟨d0,d1,d2,d3,d4,d5,d6⟩:=HD.out
            have f0:=(HT10.out.cell (lt_of_cell d0) id).trans d0
            have f1:=(HT10.out.cell (lt_of_cell d1) id).trans d1
            have f2:=(HT10.out.cell (lt_of_cell d2) id).trans d2
            have f3:=(HT10.out.cell (lt_of_cell d3) id).trans d3
            have f4:=(HT10.out.cell (lt_of_cell d4) id).trans d4
            have f5:=(HT10.out.cell (lt_of_cell d5) id).trans d5
            have f6:=(HT10.out.cell (lt_of_cell d6) id).trans d6
            have hk10:=HK8.out.still HT10.out
            have hca:=call_is (v:=⟨vw,pid,va,vb,vc,vs,vt⟩) hk10 HX.out.2.1 (HLd.out.turned0 HT2.out) (HX.out.2.2.1.pre (by omega) HV.out.1.1 HV.out.1.2)
            unfold callA AskTo sh1 at hca
            have HCa:=hid hca
            have HK10:=hid hk10
            clear d0 d1 d2 d3 d4 d5 d6 hk10 hca
            go_wp2_with fail
            refine HCa.out.mono ?_
            rintro e w11 ⟨z,rfl,k',C',hk',hok',hcr⟩
            have hap:=fun hr => apart HK10.out HX.out.2.1 hcr ⟨by have:=HW.out.1; show ¬ vw < 3; omega,HW.out.2⟩ hr (by have:=HPos.out; show (0:Int) < pid; omega)
            rw [show (⟨vw,pid,va,vb,vc,vs,vt⟩:CallV).p=pid from rfl,HS0.out,HR.out] at hap
            have HY:=hid (show KIn w2 w11 a k' C'∧KOk k'∧KRun (j+m+1) k'∧Words k'.t.m from ⟨hk',hok',HX.out.2.2.1.next hcr,hcr.words HX.out.2.2.2 HV.out.2⟩)
            have HRu2:=hid (runs_is hk' hok')
            have HAll:=hid (fun w' (tt:Turn (fun _ => False) w11 w') => all_is (hk'.still tt) hok' HAn2.out HY.out.2.2.2 (HTb.out.turned ((HT2.out.trans hk'.turn).trans tt)) (HLd.out.turned0 ((HT2.out.trans hk'.turn).trans tt)) pid)
            have HTf:=hid (HT2.out.trans hk'.turn)
            have HAp:=hid hap
            obtain ⟨tz,htz⟩:∃ t,TErr z=t:=⟨_,rfl⟩
            rw [htz]
            clear htz hk' hok' hcr hap f0 f1 f2 f3 f4 f5 f6 HCa HK10 HD HK8 HT10 HX HR HS0
            obtain ⟨R2,hR2⟩:∃ R,runsN k'=R:=⟨_,rfl⟩
            rw [hR2] at HRu2 HAp
            clear hR2
            by_cases hr:R2=R
            · have hb:((R2:Int) != (R:Int))=false:=by simp [hr]
              have hS:=HAp.out hr
              rw [hS] at HAll
              clear hr HAp hS
              go_wp2_with fail
              refine HRu2.out.mono ?_
              rintro e w12 ⟨rfl,t12⟩
              have HT12:=hid t12
              clear t12
              go_wp2_with fail
              refine (HAll.out _ HT12.out).mono ?_
              rintro e w13 ⟨rfl,t13⟩
              have HT13:=hid (HT12.out.trans t13)
              clear t13
              go_wp2_with fail
              go_roundg (gk - 1)
              case measure => omega
              case rel => exact ⟨m+1,by omega,by go_num,hid ⟨k',C',HY.out.1.still HT13.out,HY.out.2⟩⟩
            · have hb:((R2:Int) != (R:Int))=true:=by simp; omega
              clear hr HAp HAll
              go_wp2_with fail
              refine HRu2.out.mono ?_
              rintro e w12 ⟨rfl,t12⟩
              have HT12:=hid (HTf.out.trans t12)
              clear t12
              go_wp2_with fail
              go_returns
              exact ⟨rfl,HT12.out⟩
          · have hTf:=HT2.out.trans hk.turn
            have HTf:=hid hTf
            clear hk hok hrun hwd hTf
            go_wp2_with fail
            go_returns
            exact ⟨rfl,HTf.out⟩
end
end
section
open Go.ChangeShapes Go.WideShapes Go.ChangeAt Go.RowKit
theorem i64_of_wf {z:Int} (h:(Lit.int .i64 z).wf=true):I64 z:=by
 have h3:IntKind.i64.min=-9223372036854775808:=by decide
 have h4:IntKind.i64.max=9223372036854775807:=by decide
 simp [Lit.wf,h3,h4] at h
 exact ⟨by omega,by omega⟩
theorem call_list64 {H:Type} {enc:TypeId×Value→H} {W:World} {fs:Array Field} {b off n:Nat} (h:StructsAt enc Tryz.prog W fs b off n) (hs:fs.size=7) (ht:∀ (j:Nat) (f:Field),fs[j]?=some f→if j < 5 then Tryz.prog.underlying f.type=some (.int .i64) else Tryz.prog.underlying f.type=some .string) :
  ∃ xs:List CallV,xs.length=n∧CallsAt W b off xs∧∀ v∈xs,I64 v.c:=by
 have geti:∀ i j,i < n→j < 5→∃ z:Int,W.cell? ⟨b,off+(i * fs.size+j),none⟩=some (.int .i64 z)∧I64 z:=by
  intro i j hi hj
  have hf:fs[j]?=some (fs[j]'(by omega)):=by simp
  obtain ⟨v,y,m,hc,hd⟩:=h i j _ hi hf
  have h1:=ht j _ hf
  rw [if_pos hj] at h1
  obtain ⟨z,hz,_,hw⟩:=DataW.trod_int h1 hd
  simp only [List.cons.injEq,and_true] at hz
  subst hz
  exact ⟨z,hc,i64_of_wf hw⟩
 have gets:∀ i j,i < n→5≤j∧j < 7→∃ s:ByteArray,W.cell? ⟨b,off+(i * fs.size+j),none⟩=some (.string s):=by
  intro i j hi hj
  have hf:fs[j]?=some (fs[j]'(by omega)):=by simp
  obtain ⟨v,y,m,hc,hd⟩:=h i j _ hi hf
  have h1:=ht j _ hf
  rw [if_neg (by omega)] at h1
  obtain ⟨s,hz,_,hw⟩:=DataW.trod_string h1 hd
  simp only [List.cons.injEq,and_true] at hz
  subst hz
  exact ⟨s,hc⟩
 obtain ⟨g0,h0⟩:=Go.Proofs.YtamleilijmgoeaaGreatDoor.kpick_lt (fun i hi => geti i 0 hi (by omega))
 obtain ⟨g1,h1⟩:=Go.Proofs.YtamleilijmgoeaaGreatDoor.kpick_lt (fun i hi => geti i 1 hi (by omega))
 obtain ⟨g2,h2⟩:=Go.Proofs.YtamleilijmgoeaaGreatDoor.kpick_lt (fun i hi => geti i 2 hi (by omega))
 obtain ⟨g3,h3⟩:=Go.Proofs.YtamleilijmgoeaaGreatDoor.kpick_lt (fun i hi => geti i 3 hi (by omega))
 obtain ⟨g4,h4⟩:=Go.Proofs.YtamleilijmgoeaaGreatDoor.kpick_lt (fun i hi => geti i 4 hi (by omega))
 obtain ⟨g5,h5⟩:=Go.Proofs.YtamleilijmgoeaaGreatDoor.kpick_lt (fun i hi => gets i 5 hi (by omega))
 obtain ⟨g6,h6⟩:=Go.Proofs.YtamleilijmgoeaaGreatDoor.kpick_lt (fun i hi => gets i 6 hi (by omega))
 refine ⟨(List.range n).map fun i => ⟨g0 i,g1 i,g2 i,g3 i,g4 i,g5 i,g6 i⟩,by simp,?_,fun v hv => ?_⟩
 rotate_left
 ·obtain ⟨i,hi,rfl⟩:=List.mem_map.1 hv
  exact (h4 i (List.mem_range.1 hi)).2
 intro j x hx
 have hj:j < n:=by
  have:=(List.getElem?_eq_some_iff.1 hx).1
  simpa using this
 simp only [List.getElem?_map,List.getElem?_range hj,Option.map_some,Option.some.injEq] at hx
 subst hx
 rw [hs] at h0 h1 h2 h3 h4 h5 h6
 exact ⟨(h0 j hj).1,(h1 j hj).1,(h2 j hj).1,(h3 j hj).1,(h4 j hj).1,h5 j hj,h6 j hj⟩
theorem call_open64 {H:Type} {enc:TypeId×Value→H} {W:World} (a:Option Addr) (n:Nat) (fs:Array Field) (hfs:Tryz.prog.underlying 47=some (.struct fs)) (hcase:n=0∨∃ b off,a=some ⟨b,off,none⟩∧b < W.heap.size∧StructsAt enc Tryz.prog W fs b off n):∃ xs:List CallV,xs.length=n∧CallsIn W a xs∧∀ v∈xs,I64 v.c:=by
 have e:=Option.some.inj (hfs.symm.trans Tryz.underlying47)
 injection e with e
 subst e
 rcases hcase with rfl | ⟨b,off,rfl,hb,hst⟩
 ·exact ⟨[],rfl,fun h => absurd rfl h,fun _ h => by cases h⟩
 ·obtain ⟨xs,rfl,hc,h64⟩:=call_list64 hst rfl (fun j f hf => by
   rcases j with _ | _ | _ | _ | _ | _ | _ | j
   ·cases hf; exact Tryz.underlying3
   ·cases hf; exact Tryz.underlying3
   ·cases hf; exact Tryz.underlying3
   ·cases hf; exact Tryz.underlying3
   ·cases hf; exact Tryz.underlying3
   ·cases hf; exact Tryz.underlying9
   ·cases hf; exact Tryz.underlying9
   ·simp at hf)
  exact ⟨xs,rfl,fun _ => ⟨b,off,rfl,hc,hb⟩,h64⟩
end
end Go.Proofs.YtamleilijmgoeaaGreatDoor
