/- KernelRefuses' 'memory': what a process has in its first pages, as one text. Conditions: each theorem's own premises; what is laid. KernelRefuses' 'all': what is seen of a kernel, as one text: a plain function of what there is. Conditions: each theorem's own premises; what is laid. Kernel's laws: what is seen of a kernel ('all') hangs on few things; what is refused turns none of them; words stay int64. Plain. Conditions: each theorem's own premises. KernelApart, plain: what one does turns nothing that is seen of all others, unless somebody goes. Conditions: each theorem's own premises. KernelRounds, plain: one that is forked, does with its pages and numbers whatever it likes, ends, and is waited for, leaves all that is seen as it was. Conditions: each theorem's own premises. KernelRounds: the law's walk: for all lists of calls it returns true. Conditions: each theorem's own premises; the variables errors.errorType and internal/strconv.uint64pow10 hold what is laid. A list of calls as an argument: opened, with the bounds of what is stored. No condition. -/
import Derived.Test.YtamleilijmgoeaaGreatDoorWordsPlain
import Derived.Test.YtamleilijmgoeaaGreatDoorKern
import Derived.Test.YtamleilijmgoeaaGreatDoorKernFork
import Derived.Test.YtamleilijmgoeaaGreatDoorCallsOpen
namespace Go.Proofs.YtamleilijmgoeaaGreatDoor
set_option linter.unusedVariables false
set_option maxHeartbeats 16000000
set_option maxRecDepth 100000
section
open Go.RowKit Go.Lib
def memT (m:Nat→Nat→Int) (P:Int→Option Pg):ByteArray:=⟨(allT (loadV P m) (fun a k => accE P a k 1) 6).toArray⟩
theorem memT_size {m:Nat→Nat→Int} {P:Int→Option Pg} (hm:∀ f k,I64 (m f k)):(memT m P).size≤2400:=by
 have h:=allT_len (V:=loadV P m) (Z:=fun a k => accE P a k 1) (loadV_range hm) (fun a k => by have:=accE_small P a k 1; exact ⟨by omega,by omega⟩) 6
 unfold memT
 simpa [ByteArray.size] using h
section
variable {W w w':World} {a:KA} {k:KS} {C:Nat→Nat×Nat} {pid:Int} {i:Nat} {o:KO} {x:Spc} {y:Nat×PTab}
theorem memory_is (h:KIn W w a k C) (hok:KOk k) (hmi:Mine k pid i o x y) (hm:∀ f k',I64 (k.t.m f k')) (hT:Tab w) (hL:Laid w) :
  Calls Tryz.prog 127 #[.pointer (some ⟨a.kb,0,none⟩),.int .i64 pid] w fun e w' => e=.returned (.string (memT k.t.m x.P))∧Turn (fun _ => False) w w':=by
 have HT:=hid hT
 have HL:=hid hL
 unfold memT
 obtain ⟨V,hV⟩:∃ V:Int→Int→Int,loadV x.P k.t.m=V:=⟨_,rfl⟩
 obtain ⟨Z,hZ⟩:∃ Z:Int→Int→Int,(fun a k => accE x.P a k 1)=Z:=⟨_,rfl⟩
 have HV:Hid (∀ a k,I64 (V a k)):=hid (fun a' k' => by rw [← hV]; exact loadV_range hm a' k')
 have HZ:Hid (∀ a k,0≤Z a k∧Z a k < 15):=hid (fun a k => by rw [← hZ]; exact accE_small x.P a k 1)
 have HZ2:Hid (∀ a k,I64 (Z a k)):=hid (fun a k => by have:=HZ.out a k; exact ⟨by omega,by omega⟩)
 have HLd:Hid (∀ w',Turn (fun _ => False) w w'→∀ p q:Int,Calls Tryz.prog 31 #[.pointer (some ⟨a.kb,0,none⟩),.int .i64 pid,.int .i64 p,.int .i64 q] w' fun e w'' => e=.returned (.tuple #[.int .i64 (V p q),VmErr (Z p q)])∧Turn (fun _ => False) w' w''):=hid (fun w' tt p q => by
  rw [← hV,← hZ]
  exact kload_yes (h.still tt) hok hmi p q)
 rw [hV,hZ]
 have HB0:=hid (bldNew w.heap.size w (Nat.le_refl _))
 obtain ⟨c,hc⟩:∃ c,w.heap.size=c:=⟨_,rfl⟩
 have HC:=hid hc
 rw [hc] at HB0
 obtain ⟨kb,hkb⟩:∃ kb,a.kb=kb:=⟨_,rfl⟩
 rw [hkb] at HLd ⊢
 clear h hok hmi hm hT hL hV hZ hkb
 go_enter Tryz.func127,Tryz.ntmps127
 go_wp2_with fail
 clear hc
 go_loopg [6] 6 (fun gl i wr => ∃ a:Nat,a+gl=6∧i=.int .i64 a∧Hid (BIs c c (byteCells (allT V Z a)) wr)∧Hid (Turn (fun _ => False) w wr))
 case atStart => exact ⟨0,by omega,rfl,HB0,hid ((Turn.refl _ _).alloc _)⟩
 case round =>
  obtain ⟨a,ha,rfl,hB,hTw⟩:=hrel
  by_cases ha12:a < 6
  ·have ha':(a:Int) < 6:=by omega
   go_wp2_with fail
   go_loopg [7] 8 (fun gl i wx => ∃ k:Nat,k+gl=8∧i=.int .i64 k∧Hid (BIs c c (byteCells (allT V Z a ++ rowT V Z a k)) wx)∧Hid (Turn (fun _ => False) w wx))
   case atStart => exact ⟨0,by omega,rfl,hid (by show BIs c c (byteCells (allT V Z a ++ [])) _; rw [List.append_nil]; exact hB.out),hTw⟩
   case round =>
    clear hB hTw
    obtain ⟨k,hk,rfl,hB,hTw⟩:=hrel
    by_cases hk8:k < 8
    ·have hk8':(k:Int) < 8:=by omega
     have HLk:=hid (HLd.out _ hTw.out a k)
     have hz:=HZ.out a k
     have HVr:=hid (HV.out a k)
     have HZr:=hid (HZ2.out a k)
     have HRow:Hid (rowT V Z a (k+1)=rowT V Z a k ++ pieceL (V a k) (Z a k)):=hid rfl
     have HAl:=hid (allT_len HV.out HZ2.out a)
     have HRl:=hid (rowT_len HV.out HZ2.out a k)
     obtain ⟨v,hv⟩:∃ v,V a k=v:=⟨_,rfl⟩
     obtain ⟨z,hzz⟩:∃ z,Z a k=z:=⟨_,rfl⟩
     rw [hv,hzz] at HLk HRow
     rw [hv] at HVr
     rw [hzz] at HZr hz
     have HPs:=hid (pieceT_size HVr.out HZr.out)
     have hl1:=itoa_length_le v HVr.out.1 HVr.out.2
     have hl2:=itoa_length_le z HZr.out.1 HZr.out.2
     obtain ⟨sv,hsv⟩:∃ sv:ByteArray,⟨(itoa v).toArray⟩=sv:=⟨_,rfl⟩
     obtain ⟨sz,hsz⟩:∃ sz:ByteArray,⟨(itoa z).toArray⟩=sz:=⟨_,rfl⟩
     have hp1:sv.size≤21:=by rw [← hsv]; exact (by simpa [ByteArray.size] using hl1)
     have hp2:sz.size≤21:=by rw [← hsz]; exact (by simpa [ByteArray.size] using hl2)
     have HSv:=hid hsv
     have HSz:=hid hsz
     clear hv hzz hl1 hl2 hsv hsz
     go_wp2_with fail
     refine HLk.out.mono ?_
     rintro e w1 ⟨rfl,t1⟩
     have HT1:=hid (hTw.out.trans t1)
     have HB1:=hid (hB.out.turned t1)
     have HF:=hid (fmt_is v HVr.out.1 HVr.out.2 w1 (HT.out.turned HT1.out))
     rw [HSv.out] at HF
     clear t1 HLk hB hTw
     go_wp2_with fail
     refine HF.out.mono ?_
     rintro e w2 ⟨rfl,t2⟩
     have HT2:=hid (HT1.out.trans t2)
     have HB2:=hid (HB1.out.turned t2)
     clear t2 HF HB1 HT1
     have HTl:=hid (tell_vm z w2 (HL.out.turned0 HT2.out))
     go_wp2_with fail
     refine HTl.out.mono ?_
     rintro e w3 ⟨rfl,t3⟩
     have HT3:=hid (HT2.out.trans t3)
     have HB3:=hid (HB2.out.turned t3)
     have HI:=hid (itoa_is z HZr.out.1 HZr.out.2 w3 (HT.out.turned HT3.out))
     rw [HSz.out] at HI
     clear t3 HTl HB2 HT2
     go_wp2_with fail
     refine HI.out.mono ?_
     rintro e w4 ⟨rfl,t4⟩
     have HT4:=hid (HT3.out.trans t4)
     have HB4:=hid (HB3.out.turned t4)
     clear t4 HI HB3 HT3
     have HW:=hid (bldWrite_is HB4.out (sv ++ ⟨#[44]⟩ ++ sz ++ ⟨#[59]⟩) (by
      have h1:=HAl.out
      have h2:=HRl.out
      have h3:(sv ++ ⟨#[44]⟩ ++ sz ++ ⟨#[59]⟩:ByteArray)=pieceT v z:=by rw [← HSv.out,← HSz.out]; rfl
      rw [h3,byteCells_len,List.length_append]
      have:=HPs.out
      omega) (by have:=HT4.out.size; have:=HC.out; omega))
     go_wp2_with fail
     refine HW.out.mono ?_
     rintro e w5 ⟨rfl,h5,b5⟩
     have HT5:=hid (HT4.out.trans' (turn_above b5) (fun k hk h => by have:=HC.out; omega))
     have HB5:Hid (BIs c c (byteCells (allT V Z a ++ rowT V Z a (k+1))) w5):=hid (by
      have h3:(sv ++ ⟨#[44]⟩ ++ sz ++ ⟨#[59]⟩:ByteArray)=pieceT v z:=by rw [← HSv.out,← HSz.out]; rfl
      rw [h3,pieceT_eq,← byteCells_app] at h5
      rw [HRow.out,← List.append_assoc]
      exact h5)
     clear h5 b5 HW HB4 HT4
     go_wp2_with fail
     go_roundg (gk - 1)
     case measure => omega
     case rel => exact ⟨k+1,by omega,by go_num,HB5,HT5⟩
    ·have hk8':¬ (k:Int) < 8:=by omega
     obtain rfl:k=8:=by omega
     go_wp2_with fail
     go_roundg (6 - (a+1))
     case measure => omega
     case rel => exact ⟨a+1,by omega,by go_num,hB,hTw⟩
  ·have ha':¬ (a:Int) < 6:=by omega
   obtain rfl:a=6:=by omega
   have HSt:=hid (bldString_is hB.out (by have:=hTw.out.size; have:=HC.out; omega))
   clear ha
   go_wp2_with fail
   refine HSt.out.mono ?_
   rintro e w1 ⟨rfl,b1⟩
   have HT1:=hid (hTw.out.trans' (turn_above b1) (fun k hk h => by have:=HC.out; omega))
   clear b1 HSt
   go_wp2_with fail
   go_ret
   exact ⟨rfl,HT1.out⟩
end
end
section
open Go.RowKit Go.Lib
def piT (n:Int):ByteArray:=⟨(itoa n).toArray⟩
theorem piT_size {n:Int} (h:I64 n):(piT n).size≤21:=by
 have:=itoa_length_le n h.1 h.2
 unfold piT
 simpa [ByteArray.size] using this
def headT (l o n:Int):ByteArray:=piT l ++ ⟨#[32]⟩ ++ piT o ++ ⟨#[32]⟩ ++ piT n
def oneT (p s a b c z:Int):ByteArray:=⟨#[124]⟩ ++ piT p ++ ⟨#[32]⟩ ++ piT s ++ ⟨#[32]⟩ ++ piT a ++ ⟨#[32]⟩ ++ piT b ++ ⟨#[32]⟩ ++ piT c ++ ⟨#[32]⟩ ++ piT z
def stepT (k:KS) (p:Int) (s:ByteArray):ByteArray :=
 match mget k.ow p with
 | none => s ++ oneT p (stR k.pl k.pf p) 0 0 0 7
 | some i => match k.l[i]?,k.ts[i]? with
  | some x,some y => s ++ oneT p (stR k.pl k.pf p) (lenP x.P:Nat) (resP x.P:Nat) (usedL y.2:Nat) 0 ++ memT k.t.m x.P
  | _,_ => s
def allN (k:KS) (but:Int) (ps:List Int) (s:ByteArray):Nat→ByteArray
 | 0 => s
 | j+1 => match ps[j]? with
  | none => allN k but ps s j
  | some p => if p=but then allN k but ps s j else stepT k p (allN k but ps s j)
def headK (a:KA) (k:KS) (but:Int):ByteArray:=if 0 < but then ⟨#[]⟩ else headT ((a.n:Int) - kUsed a k) (k.S.es.length:Int) (k.S.T.length:Int)
def allK (a:KA) (k:KS) (but:Int):ByteArray:=allN k but (pidsOf k.pl) (headK a k but) (pidsOf k.pl).length
theorem allN_congr {k k':KS} {but:Int} {ps:List Int} {s:ByteArray} (h:∀ p∈ps,p≠but→∀ s,stepT k' p s=stepT k p s):∀ j,allN k' but ps s j=allN k but ps s j
 | 0 => rfl
 | j+1 => by
  unfold allN
  rw [allN_congr h j]
  cases hp:ps[j]? with
  | none => rfl
  | some p =>
   by_cases e:p=but
   ·simp only [if_pos e]
   ·simp only [if_neg e]
    exact h p (List.mem_of_getElem? hp) e _
theorem bsize_append (a b:ByteArray):(a ++ b).size=a.size+b.size:=ByteArray.size_append
theorem oneT_size {p s a b c z:Int} (hp:I64 p) (hs:I64 s) (ha:I64 a) (hb:I64 b) (hc:I64 c) (hz:I64 z):(oneT p s a b c z).size≤200:=by
 have h1:=piT_size hp
 have h2:=piT_size hs
 have h3:=piT_size ha
 have h4:=piT_size hb
 have h5:=piT_size hc
 have h6:=piT_size hz
 unfold oneT
 simp only [bsize_append]
 have e1:(⟨#[32]⟩:ByteArray).size=1:=rfl
 have e2:(⟨#[124]⟩:ByteArray).size=1:=rfl
 omega
section
variable {W w w':World} {a:KA} {k:KS} {C:Nat→Nat×Nat} {pid:Int} {i:Nat} {o:KO} {x:Spc} {y:Nat×PTab}
theorem KIn.used_le' (h:KIn W w a k C):kUsed a k≤a.n:=cntB_le _ _
theorem kst_small (hok:KOk k) (p:Int):0≤stR k.pl k.pf p∧stR k.pl k.pf p≤2:=by
 unfold stR
 cases hb:mget k.pl p with
 | none => exact ⟨Int.le_refl _,by show (0:Int)≤2; decide⟩
 | some b =>
  have:=hok.kin.st _ (mem_of_mget hb)
  simp only at this ⊢
  rcases this with e | e <;> (rw [show (Option.elim (some b) 0 fun b => (k.pf b).state)=(k.pf b).state from rfl] ; omega)
theorem stepT_none {p:Int} (hn:mget k.ow p=none) (s:ByteArray):stepT k p s=s ++ oneT p (stR k.pl k.pf p) 0 0 0 7:=by unfold stepT; rw [hn]
theorem stepT_some {p:Int} (hm:Mine k p i o x y) (s:ByteArray):stepT k p s=s ++ oneT p (stR k.pl k.pf p) (lenP x.P:Nat) (resP x.P:Nat) (usedL y.2:Nat) 0 ++ memT k.t.m x.P:=by
 unfold stepT
 rw [hm.own]
 simp only [hm.sp,hm.tab]
theorem I64.ofNat {n:Nat} (h:n≤1000000):I64 (n:Int):=⟨by omega,by omega⟩
def HasV (k:KS) (p:Int) (A B D z:Int):Prop:=I64 A∧I64 B∧I64 D∧I64 z∧((z=7∧∀ s,stepT k p s=s ++ oneT p (stR k.pl k.pf p) A B D z)∨(z=0∧∃ i o x y,Mine k p i o x y∧∀ s,stepT k p s=s ++ oneT p (stR k.pl k.pf p) A B D z ++ memT k.t.m x.P))
theorem has_vals {p:Int} {e:Ending} (h:HasIs k p e):∃ A B D z,e=.returned (.tuple #[.int .i64 A,.int .i64 B,.int .i64 D,TErr z])∧HasV k p A B D z:=by
 rcases h with ⟨hn,rfl⟩ | ⟨i,o,x,y,hm,rfl⟩
 ·exact ⟨0,0,0,7,rfl,⟨by decide,by decide⟩,⟨by decide,by decide⟩,⟨by decide,by decide⟩,⟨by decide,by decide⟩,.inl ⟨rfl,stepT_none hn⟩⟩
 ·have h1:=lenP_le x.P
  have h2:=resP_le x.P
  have h3:=usedL_le y.2
  exact ⟨_,_,_,0,rfl,.ofNat (by omega),.ofNat (by omega),.ofNat (by omega),⟨by decide,by decide⟩,.inr ⟨rfl,i,o,x,y,hm,stepT_some hm⟩⟩
theorem stepT_size (hok:KOk k) (hm:∀ f k',I64 (k.t.m f k')) {p:Int} (hp:I64 p) (s:ByteArray):(stepT k p s).size≤s.size+2600:=by
 have hst:=kst_small hok p
 have is:I64 (stR k.pl k.pf p):=⟨by omega,by omega⟩
 unfold stepT
 split
 ·have:=oneT_size (p:=p) (s:=stR k.pl k.pf p) (a:=0) (b:=0) (c:=0) (z:=7) hp is ⟨by decide,by decide⟩ ⟨by decide,by decide⟩ ⟨by decide,by decide⟩ ⟨by decide,by decide⟩
  rw [bsize_append]; omega
 ·split
  ·rename_i x y _ _
   have h1:=lenP_le x.P
   have h2:=resP_le x.P
   have h3:=usedL_le y.2
   have:=oneT_size (p:=p) (s:=stR k.pl k.pf p) (a:=(lenP x.P:Nat)) (b:=(resP x.P:Nat)) (c:=(usedL y.2:Nat)) (z:=0) hp is (.ofNat (by omega)) (.ofNat (by omega)) (.ofNat (by omega)) ⟨by decide,by decide⟩
   have:=memT_size (m:=k.t.m) (P:=x.P) hm
   rw [bsize_append,bsize_append]; omega
  ·omega
theorem allN_size (hok:KOk k) (hm:∀ f k',I64 (k.t.m f k')) {but:Int} {ps:List Int} {s:ByteArray} (hp:∀ p∈ps,I64 p):∀ j,(allN k but ps s j).size≤s.size+j * 2600
 | 0 => by show s.size≤_; omega
 | j+1 => by
  have ih:=allN_size hok hm (but:=but) (s:=s) hp j
  unfold allN
  split
  ·omega
  ·rename_i p hpj
   split
   ·omega
   ·have:=stepT_size hok hm (hp p (List.mem_of_getElem? hpj)) (allN k but ps s j)
    omega
theorem allN_skip {but:Int} {ps:List Int} {s:ByteArray} {j:Nat} (hp:ps[j]?=some but):allN k but ps s (j+1)=allN k but ps s j:=by
 rw [allN,hp]
 exact if_pos rfl
theorem allN_step {but p:Int} {ps:List Int} {s:ByteArray} {j:Nat} (hp:ps[j]?=some p) (hn:p≠but):allN k but ps s (j+1)=stepT k p (allN k but ps s j):=by
 rw [allN,hp]
 exact if_neg hn
theorem pid_i64 (hok:KOk k) {p:Int} (hp:p∈pidsOf k.pl):I64 p:=by
 obtain ⟨t,ht,rfl⟩:=List.mem_map.1 (mem_pidsOf.1 hp)
 have:=hok.kin.rng t ht
 exact ⟨by omega,by omega⟩
theorem all_is (h:KIn W w a k C) (hok:KOk k) (han:a.n≤1000) (hm:∀ f k',I64 (k.t.m f k')) (hT:Tab w) (hL:Laid w) (but:Int) :
  Calls Tryz.prog 43 #[.pointer (some ⟨a.kb,0,none⟩),.int .i64 but] w fun e w' => e=.returned (.string (allK a k but))∧Turn (fun _ => False) w w':=by
 have HIt:Hid (∀ (n:Int) (w':World),I64 n→Turn (fun _ => False) w w'→Calls Tryz.prog 126 #[.int .i64 n] w' fun e w'' => e=.returned (.string (piT n))∧Turn (fun _ => False) w' w'') :=
  hid (fun n w' hn tt => itoa_is n hn.1 hn.2 w' (hT.turned tt))
 have HL:=hid hL
 have HLe:=hid (kleft_is h)
 have H:=hid h
 have HOk:=hid hok
 have HM:=hid hm
 have HT:=hid hT
 have hu:kUsed a k≤a.n:=h.used_le'
 have hes:=hok.dok.size
 have htl:k.S.T.length≤60:=by
  obtain ⟨F,nm,B,D,_,hto,_⟩:=h.tree
  exact hto.size
 have hNl:=kin_len hok
 have HHd:Hid (headT ((a.n:Int) - kUsed a k) (k.S.es.length:Int) (k.S.T.length:Int)=piT ((a.n:Int) - kUsed a k) ++ ⟨#[32]⟩ ++ piT (k.S.es.length:Int) ++ ⟨#[32]⟩ ++ piT (k.S.T.length:Int)):=hid rfl
 have HOp:=hid (fun w' (tt:Turn (fun _ => False) w w') => kopen_is (h.still tt))
 have HNo:=hid (fun w' (tt:Turn (fun _ => False) w w') => knodes_is (h.still tt))
 have HPi:=hid (fun w' (tt:Turn (fun _ => False) w w') => kpids_row (h.still tt) hok)
 unfold allK headK
 obtain ⟨l,hl⟩:∃ l:Int,(a.n:Int) - kUsed a k=l:=⟨_,rfl⟩
 obtain ⟨oo,ho⟩:∃ oo:Int,(k.S.es.length:Int)=oo:=⟨_,rfl⟩
 obtain ⟨nn,hn⟩:∃ nn:Int,(k.S.T.length:Int)=nn:=⟨_,rfl⟩
 have il:I64 l:=⟨by omega,by omega⟩
 have io:I64 oo:=⟨by omega,by omega⟩
 have inn:I64 nn:=⟨by omega,by omega⟩
 have HIl:=hid (fun w' tt => HIt.out l w' il tt)
 have HIo:=hid (fun w' tt => HIt.out oo w' io tt)
 have HIn:=hid (fun w' tt => HIt.out nn w' inn tt)
 rw [hl,ho,hn] at HHd
 rw [hl] at HLe
 rw [ho] at HOp
 rw [hn] at HNo
 simp only [hl,ho,hn]
 have s1:=piT_size il
 have s2:=piT_size io
 have s3:=piT_size inn
 rw [HHd.out]
 obtain ⟨sl,hsl⟩:∃ s,piT l=s:=⟨_,rfl⟩
 obtain ⟨so,hso⟩:∃ s,piT oo=s:=⟨_,rfl⟩
 obtain ⟨sn,hsn⟩:∃ s,piT nn=s:=⟨_,rfl⟩
 rw [hsl,hso,hsn]
 rw [hsl] at s1 HIl
 rw [hso] at s2 HIo
 rw [hsn] at s3 HIn
 obtain ⟨S0,hS0⟩:∃ S0:ByteArray,(if 0 < but then (⟨#[]⟩:ByteArray) else sl ++ ⟨#[32]⟩ ++ so ++ ⟨#[32]⟩ ++ sn)=S0:=⟨_,rfl⟩
 rw [hS0]
 have s0:S0.size≤70:=by
  rw [← hS0]
  have e1:(⟨#[32]⟩:ByteArray).size=1:=rfl
  have e2:(⟨#[]⟩:ByteArray).size=0:=rfl
  split
  ·rw [e2]; omega
  ·simp only [bsize_append]; omega
 have HS0:=hid hS0
 have Hs0:=hid s0
 obtain ⟨N,hN⟩:∃ N,(pidsOf k.pl).length=N:=⟨_,rfl⟩
 have HNn:=hid hN
 rw [hN] at hNl HPi ⊢
 obtain ⟨kb,hkb⟩:∃ kb,a.kb=kb:=⟨_,rfl⟩
 have HKb:=hid hkb
 rw [hkb] at HLe HOp HNo HPi ⊢
 clear h hok hm hT hL hl ho hn hsl hso hsn HHd hN hS0 s0 hu hes htl il io inn hkb han
 go_enter Tryz.func43,Tryz.ntmps43
 go_wp2_with fail
 refine HLe.out.mono ?_
 rintro e w1 ⟨rfl,hw⟩; subst w1
 go_wp2_with fail
 refine (HIl.out _ (Turn.refl _ _)).mono ?_
 rintro e w1 ⟨rfl,t1⟩
 have HT1:=hid t1
 clear t1
 go_wp2_with fail
 refine (HOp.out _ HT1.out).mono ?_
 rintro e w2 ⟨rfl,hw⟩; subst w2
 go_wp2_with fail
 refine (HIo.out _ HT1.out).mono ?_
 rintro e w2 ⟨rfl,t2⟩
 have HT2:=hid (HT1.out.trans t2)
 clear t2
 go_wp2_with fail
 refine (HNo.out _ HT2.out).mono ?_
 rintro e w3 ⟨rfl,hw⟩; subst w3
 go_wp2_with fail
 refine (HIn.out _ HT2.out).mono ?_
 rintro e w3 ⟨rfl,t3⟩
 have HT3:=hid (HT2.out.trans t3)
 clear t3 HIl HIo HIn HT1 HT2 HLe HOp HNo
 go_upto_if 26 with fail
 go_cut [5] (fun v wx => v=.string S0∧Hid (Turn (fun _ => False) w wx))
 case first =>
  by_cases hb:0 < but
  ·have hb':(0:Int) < but:=hb
   have e:=HS0.out
   rw [if_pos hb] at e
   go_wp2_with fail
   go_meet
   first | exact ⟨rfl,HT3⟩ | exact ⟨by rw [e],HT3⟩
  ·have e:=HS0.out
   rw [if_neg hb] at e
   go_wp2_with fail
   go_meet
   first | exact ⟨rfl,HT3⟩ | exact ⟨by rw [e],HT3⟩
 case rest =>
  obtain ⟨rfl,HTx⟩:=hcut
  clear HT3 HS0
  go_wp2_with fail
  refine (HPi.out _ HTx.out).mono ?_
  rintro e w4 ⟨g,cap,rfl,hI,hg,t4⟩
  have HI:=hid hI
  have HT4:=hid (HTx.out.trans t4)
  have Hg:=hid (show g < w4.heap.size from by
   rcases hI.shape with ⟨h,_⟩ | ⟨g',c',h,_,_,hl⟩
   ·cases h
   ·have e:some g=some g':=congrArg Value.ownBlock h
    rw [Option.some.inj e]; exact hl)
  clear hI hg t4 HPi HTx
  go_wp2_with fail
  go_loopg [5,7] (N) (fun gl sv ix wr => ∃ m:Nat,m+gl=N∧ix=.int .i64 m∧sv=.string (allN k but (pidsOf k.pl) S0 m)∧Hid (Turn (fun _ => False) w4 wr))
  case atStart => exact ⟨0,by omega,rfl,rfl,hid (Turn.refl _ _)⟩
  case round =>
   obtain ⟨m,hm,rfl,rfl,hT5⟩:=hrel
   by_cases hml:m < N
   ·have hml':(m:Int) < N:=by omega
    have hm0:(0:Int)≤(m:Int):=by omega
    obtain ⟨p,hp⟩:∃ p,(pidsOf k.pl)[m]?=some p:=⟨_,List.getElem?_eq_getElem (by rw [HNn.out]; exact hml)⟩
    have hI5:=HI.out.turned hT5.out (fun _ _ => id)
    rw [← HNn.out] at hI5
    have cp:=hI5.cell m p hp
    have hI4:=HI.out
    rw [← HNn.out] at hI4
    have HCp4:=hid (hI4.cell m p hp)
    clear hI4
    have hIp:=pid_i64 HOk.out (List.mem_of_getElem? hp)
    have hsz:=allN_size HOk.out HM.out (but:=but) (s:=S0) (fun q hq => pid_i64 HOk.out hq) m
    have hNl2:m < 24:=by omega
    by_cases hpb:p=but
    ·have hb1:(p == but)=true:=by simpa using hpb
     have HA:=hid (allN_skip (k:=k) (s:=S0) (hpb ▸ hp))
     have HT5:=hid hT5.out
     clear hT5 hp hI5 hIp hpb
     obtain ⟨S,hS⟩:∃ S,allN k but (pidsOf k.pl) S0 m=S:=⟨_,rfl⟩
     rw [hS] at HA ⊢
     clear hsz hS
     go_wp2_with fail
     go_roundg (gk - 1)
     case measure => omega
     case rel => exact ⟨m+1,by omega,by go_num,by rw [HA.out],HT5⟩
    ·have hb1:(p == but)=false:=by simpa using hpb
     have HA:=hid (allN_step (k:=k) (s:=S0) hp hpb)
     obtain ⟨S,hS⟩:∃ S,allN k but (pidsOf k.pl) S0 m=S:=⟨_,rfl⟩
     rw [hS] at HA hsz ⊢
     have hsz2:S.size≤70000:=by have:=Hs0.out; omega
     have HHa:=hid (khas_is (H.out.still (HT4.out.trans hT5.out)) HOk.out p)
     rw [HKb.out] at HHa
     have HT5:=hid hT5.out
     have HCp:=hid cp
     have HIp:=hid (fun w' tt => HIt.out p w' hIp (HT4.out.trans tt))
     have hst:=kst_small HOk.out p
     have HIs:=hid (fun w' tt => HIt.out (stR k.pl k.pf p) w' ⟨by omega,by omega⟩ (HT4.out.trans tt))
     have HSt:=hid (fun w' (tt:Turn (fun _ => False) w4 w') => kstate_is (H.out.still (HT4.out.trans tt)) p)
     rw [HKb.out] at HSt
     have s1:=piT_size hIp
     have s2:=piT_size (n:=stR k.pl k.pf p) ⟨by omega,by omega⟩
     clear hT5 hp hI5 hpb hS hsz hst hIp
     go_wp2_with fail
     refine HHa.out.mono ?_
     rintro e w6 ⟨hh,t6⟩
     obtain ⟨A,B,D,z,rfl,iA,iB,iD,iz,hz⟩:=has_vals hh
     have HIA:=hid (fun w' tt => HIt.out A w' iA (HT4.out.trans tt))
     have HIB:=hid (fun w' tt => HIt.out B w' iB (HT4.out.trans tt))
     have HID:=hid (fun w' tt => HIt.out D w' iD (HT4.out.trans tt))
     have HIz:=hid (fun w' tt => HIt.out z w' iz (HT4.out.trans tt))
     have s3:=piT_size iA
     have s4:=piT_size iB
     have s5:=piT_size iD
     have s6:=piT_size iz
     have HZ:=hid hz
     have HOn:Hid (oneT p (stR k.pl k.pf p) A B D z=⟨#[124]⟩ ++ piT p ++ ⟨#[32]⟩ ++ piT (stR k.pl k.pf p) ++ ⟨#[32]⟩ ++ piT A ++ ⟨#[32]⟩ ++ piT B ++ ⟨#[32]⟩ ++ piT D ++ ⟨#[32]⟩ ++ piT z):=hid rfl
     have td:Turn (fun _ => False) w6 w6.drew:=(Turn.refl _ _).drew
     have hT6:=HT5.out.trans t6
     have HTd:=hid (hT6.trans td)
     have HT6:=hid hT6
     have cp6:=(t6.cell (lt_of_cell cp) id).trans cp
     have k6:=(td.cell (lt_of_cell cp6) id).trans cp6
     obtain ⟨st,hst⟩:∃ st,stR k.pl k.pf p=st:=⟨_,rfl⟩
     rw [hst] at HIs HSt s2 HOn HZ
     obtain ⟨x1,e1⟩:∃ s,piT p=s:=⟨_,rfl⟩
     obtain ⟨x2,e2⟩:∃ s,piT st=s:=⟨_,rfl⟩
     obtain ⟨x3,e3⟩:∃ s,piT A=s:=⟨_,rfl⟩
     obtain ⟨x4,e4⟩:∃ s,piT B=s:=⟨_,rfl⟩
     obtain ⟨x5,e5⟩:∃ s,piT D=s:=⟨_,rfl⟩
     obtain ⟨x6,e6⟩:∃ s,piT z=s:=⟨_,rfl⟩
     rw [e1,e2,e3,e4,e5,e6] at HOn
     rw [e1] at HIp s1
     rw [e2] at HIs s2
     rw [e3] at HIA s3
     rw [e4] at HIB s4
     rw [e5] at HID s5
     rw [e6] at HIz s6
     rw [HOn.out] at HZ
     have HTl:=hid (fun w' (tt:Turn (fun _ => False) w4 w') => tell_tree z w' (HL.out.turned0 (HT4.out.trans tt)))
     obtain ⟨tz,htz⟩:∃ v,TErr z=v:=⟨_,rfl⟩
     have HTz:=hid htz
     rw [htz] at HTl ⊢
     clear hh t6 td hT6 cp hst e1 e2 e3 e4 e5 e6 iA iB iD iz hz HHa HCp htz HOn
     have q0:¬ (9223372036854775807 < 1+x1.size):=by omega
     have q1:¬ (9223372036854775807≤1+x1.size):=by omega
     have q2:¬ (9223372036854775807 < 1+x1.size+1):=by omega
     have q3:¬ (9223372036854775807 < 1+x1.size+1+x2.size):=by omega
     have q4:¬ (9223372036854775807≤1+x1.size+1+x2.size):=by omega
     have q5:¬ (9223372036854775807 < 1+x1.size+1+x2.size+1):=by omega
     have q6:¬ (9223372036854775807 < 1+x1.size+1+x2.size+1+x3.size):=by omega
     have q7:¬ (9223372036854775807≤1+x1.size+1+x2.size+1+x3.size):=by omega
     have q8:¬ (9223372036854775807 < 1+x1.size+1+x2.size+1+x3.size+1):=by omega
     have q9:¬ (9223372036854775807 < 1+x1.size+1+x2.size+1+x3.size+1+x4.size):=by omega
     have q10:¬ (9223372036854775807≤1+x1.size+1+x2.size+1+x3.size+1+x4.size):=by omega
     have q11:¬ (9223372036854775807 < 1+x1.size+1+x2.size+1+x3.size+1+x4.size+1):=by omega
     have q12:¬ (9223372036854775807 < 1+x1.size+1+x2.size+1+x3.size+1+x4.size+1+x5.size):=by omega
     have q13:¬ (9223372036854775807≤1+x1.size+1+x2.size+1+x3.size+1+x4.size+1+x5.size):=by omega
     have q14:¬ (9223372036854775807 < 1+x1.size+1+x2.size+1+x3.size+1+x4.size+1+x5.size+1):=by omega
     have q15:¬ (9223372036854775807 < 1+x1.size+1+x2.size+1+x3.size+1+x4.size+1+x5.size+1+x6.size):=by omega
     have q16:¬ (9223372036854775807 < S.size+(1+x1.size+1+x2.size+1+x3.size+1+x4.size+1+x5.size+1+x6.size)):=by omega
     go_wp2_with fail
     go_region_held3 (fun w' => w'.cell? ⟨g,m,none⟩=some (.int .i64 p))
      (first | exact k6 | exact k7 | exact k9 | exact k10 | exact k11 | exact k12 | exact k13 | exact k14 | go_keep)
      (first
       | (go_at_call 126; refine (HIp.out _ HTd.out).mono ?_; rintro e w7 ⟨rfl,t7⟩; have HT7:=hid (HTd.out.trans t7); have k7:=(t7.cell (lt_of_cell k6) id).trans k6; clear t7)
       | (go_at_call 29; refine (HSt.out _ HT7.out).mono ?_; rintro e w8 ⟨rfl,hw⟩; subst w8)
       | (go_at_call 126; refine (HIs.out _ HT7.out).mono ?_; rintro e w9 ⟨rfl,t9⟩; have HT9:=hid (HT7.out.trans t9); have k9:=(t9.cell (lt_of_cell k7) id).trans k7; clear t9)
       | (go_at_call 126; refine (HIA.out _ HT9.out).mono ?_; rintro e w10 ⟨rfl,t10⟩; have HT10:=hid (HT9.out.trans t10); have k10:=(t10.cell (lt_of_cell k9) id).trans k9; clear t10)
       | (go_at_call 126; refine (HIB.out _ HT10.out).mono ?_; rintro e w11 ⟨rfl,t11⟩; have HT11:=hid (HT10.out.trans t11); have k11:=(t11.cell (lt_of_cell k10) id).trans k10; clear t11)
       | (go_at_call 126; refine (HID.out _ HT11.out).mono ?_; rintro e w12 ⟨rfl,t12⟩; have HT12:=hid (HT11.out.trans t12); have k12:=(t12.cell (lt_of_cell k11) id).trans k11; clear t12)
       | (go_at_call 17; refine (HTl.out _ HT12.out).mono ?_; rintro e w13 ⟨rfl,t13⟩; have HT13:=hid (HT12.out.trans t13); have k13:=(t13.cell (lt_of_cell k12) id).trans k12; clear t13)
       | (go_at_call 126; refine (HIz.out _ HT13.out).mono ?_; rintro e w14 ⟨rfl,t14⟩; have HT14:=hid (HT13.out.trans t14); have k14:=(t14.cell (lt_of_cell k13) id).trans k13; clear t14))
     obtain ⟨S2,hS2⟩:∃ S2:ByteArray,S ++ (⟨#[124]⟩ ++ x1 ++ ⟨#[32]⟩ ++ x2 ++ ⟨#[32]⟩ ++ x3 ++ ⟨#[32]⟩ ++ x4 ++ ⟨#[32]⟩ ++ x5 ++ ⟨#[32]⟩ ++ x6)=S2:=⟨_,rfl⟩
     have hs2:S2.size≤80000:=by
      rw [← hS2]
      have e1:(⟨#[32]⟩:ByteArray).size=1:=rfl
      have e2:(⟨#[124]⟩:ByteArray).size=1:=rfl
      simp only [bsize_append]
      omega
     rw [hS2]
     have HZ2:Hid ((z=7∧stepT k p S=S2)∨(z=0∧∃ i o x y,Mine k p i o x y∧stepT k p S=S2 ++ memT k.t.m x.P)):=hid (by
      rcases HZ.out with ⟨h1,h2⟩ | ⟨h1,i,o,x,y,h2,h3⟩
      ·exact .inl ⟨h1,by rw [h2,hS2]⟩
      ·exact .inr ⟨h1,i,o,x,y,h2,by rw [h3,hS2]⟩)
     have e7:=HTz.out
     clear hS2 HZ HIp HIs HIA HIB HID HIz HSt HTl HTz k6 k7 k9 k10 k11 k12 k13 k14 HTd HT7 HT9 HT10 HT11 HT12 HT13 s1 s2 s3 s4 s5 s6 q0 q1 q2 q3 q4 q5 q6 q7 q8 q9 q10 q11 q12 q13 q14 q15 q16
     rcases HZ2.out with ⟨rfl,hs⟩ | ⟨rfl,i,o,x,y,hmi,hs⟩
     ·rw [show TErr 7=.iface 36 (.int .i64 7) from rfl] at e7
      subst e7
      have HS:=hid hs
      clear hs HZ2
      go_wp2_with fail
      go_roundg (gk - 1)
      case measure => omega
      case rel => exact ⟨m+1,by omega,by go_num,by rw [HA.out,HS.out],HT14⟩
     ·rw [show TErr 0=.nilIface from rfl] at e7
      subst e7
      have hme:=memory_is (H.out.still (HT4.out.trans HT14.out)) HOk.out hmi HM.out (HT.out.turned (HT4.out.trans HT14.out)) (HL.out.turned0 (HT4.out.trans HT14.out))
      rw [HKb.out] at hme
      have s7:=memT_size (m:=k.t.m) (P:=x.P) HM.out
      obtain ⟨sm,hsm⟩:∃ s,memT k.t.m x.P=s:=⟨_,rfl⟩
      rw [hsm] at hme s7 hs
      have HMe:=hid hme
      have HS:=hid hs
      clear hs hme hsm hmi HZ2
      have cp2:=(HT14.out.cell (lt_of_cell (HCp4.out)) id).trans HCp4.out
      go_wp2_with fail
      refine HMe.out.mono ?_
      rintro e w15 ⟨rfl,t15⟩
      have HT15:=hid (HT14.out.trans t15)
      clear t15
      go_wp2_with fail
      go_roundg (gk - 1)
      case measure => omega
      case rel => exact ⟨m+1,by omega,by go_num,by rw [HA.out,HS.out],HT15⟩
   ·have hme:m=N:=by omega
    subst hme
    go_wp2_with fail
    go_returns
    exact ⟨rfl,HT4.out.trans hT5.out⟩
end
end
section
open Go.RowKit Go.Lib
section
variable {W w w' w1:World} {a:KA} {k k' k1 k2:KS} {C C':Nat→Nat×Nat} {pid z:Int} {i j:Nat} {o o':KO} {x:Spc} {y:Nat×PTab} {v:CallV} {S:PS} {L:PTab}
/-! ### words -/
def Words (m:Nat→Nat→Int):Prop:=∀ f j,I64 (m f j)
theorem went_m:∀ {go:List Int} {k k1:KS},Went a k go k1→k1.t.m=k.t.m
 | [],k,k1,h => by rw [show k1=k from h]
 | v :: go,k,k1,h => by
  obtain ⟨k2,hg,h2⟩:=h
  obtain ⟨_,_,_,_,i,o,x,y,b,t',_,_,ht,_,e⟩:=hg
  rw [went_m h2,e]
  exact ht
theorem Words.set {m:Nat→Nat→Int} (h:Words m) {c:Int} (hc:I64 c) (f g:Nat):Words (memSet m f g c):=fun p q => by
 unfold memSet
 split
 ·exact hc
 ·exact h p q
theorem Words.new {m:Nat→Nat→Int} (h:Words m) {c:Int} (hc:I64 c) (f g wd:Int):Words (newM m f g wd c):=by
 unfold newM
 refine Words.set ?_ hc _ _
 intro p q
 split
 ·unfold memZero
  split
  ·exact ⟨by decide,by decide⟩
  ·exact h p q
 ·unfold memCopy
  split
  ·exact h _ _
  ·exact h p q
theorem storeR_words (hW:Words k.t.m) (hc:I64 v.c) (h:StoreR a k v i o x y z k'):Words k'.t.m:=by
 obtain ⟨go,k1,hw,_,⟨_,hs,_⟩ | ⟨_,e,_⟩⟩:=h
 ·have h1:Words k1.t.m:=by rw [went_m hw]; exact hW
  rcases hs with ⟨_,_,e⟩ | ⟨_,_,_,g,_,⟨_,_,t',_,hm,e⟩ | ⟨_,_,_,e⟩ | ⟨_,_,f,t',_,_,_,hm,e⟩⟩
  ·rw [e]; exact h1
  ·rw [e]; show Words t'.m; rw [hm]; exact h1.set hc _ _
  ·rw [e]; exact h1
  ·rw [e]; show Words t'.m; rw [hm]; exact h1.new hc _ _ _
 ·rw [e,went_m hw]; exact hW
theorem KR.words {R:KS→Prop} (h:KR k z R k') (hW:Words k.t.m) (hR:R k'→k'.t.m=k.t.m):Words k'.t.m:=by
 rcases h.cases with ⟨_,h⟩ | ⟨_,t',ht,rfl⟩
 ·rw [hR h]; exact hW
 ·show Words t'.m; rw [ht]; exact hW
theorem CallR.words (h:CallR a k v z k') (hW:Words k.t.m) (hc:I64 v.c):Words k'.t.m:=by
 rcases h with ⟨_,_,e⟩ | ⟨_,_,e⟩ | ⟨n,i,o,x,y,hn,hm,h⟩
 ·subst e; exact hW
 ·subst e; exact hW
 ·have hfork:ForkR k v.p o x y z k'→Words k'.t.m:=fun h => by
   rcases h with ⟨_,_,e⟩ | ⟨_,_,b,f,_,_,_,e⟩
   ·subst e; exact hW
   ·subst e; exact hW
  match n,h with
  | 0,h => exact hfork h
  | 1,h => exact hfork h
  | 2,⟨_,h⟩ => exact h.words hW (by rintro ⟨t',b,h1,_,rfl⟩; exact h1)
  | 3,⟨_,t',h1,e⟩ => subst e; show Words t'.m; rw [h1]; exact hW
  | 4,h => rcases h with ⟨_,e⟩ | ⟨_,j,c,b,_,_,_,e⟩ <;> (subst e; exact hW)
  | 5,⟨_,h⟩ => exact h.words hW (by rintro rfl; rfl)
  | 6,⟨_,h⟩ => exact h.words hW (by rintro rfl; rfl)
  | 7,⟨_,h⟩ => exact h.words hW (by rintro ⟨t',h1,rfl⟩; exact h1)
  | 8,h => exact storeR_words hW hc h
  | 9,h => exact storeR_words hW hc h
  | 10,h => exact storeR_words hW hc h
  | 11,⟨_,h⟩ => exact h.words hW (by rintro rfl; rfl)
  | 12,⟨_,h⟩ => exact h.words hW (by rintro rfl; rfl)
  | 13,⟨_,h⟩ => exact h.words hW (by rintro rfl; rfl)
  | 14,⟨_,h⟩ => exact h.words hW (by rintro rfl; rfl)
  | 15,⟨_,h⟩ => exact h.words hW (by rintro rfl; rfl)
  | 16,⟨_,h⟩ => exact h.words hW (by rintro rfl; rfl)
  | 17,⟨_,pf',e,_,_⟩ => subst e; exact hW
  | 18,⟨_,h⟩ => exact h.words hW (by rintro rfl; rfl)
  | 19,⟨_,h⟩ => exact h.words hW (by rintro rfl; rfl)
  | 20,⟨_,pf',e,_⟩ => subst e; exact hW
  | 21,⟨_,h⟩ =>
   rcases h with ⟨_,r,pf',_,_,⟨_,e⟩ | ⟨_,t',b,h1,_,e⟩⟩ | ⟨_,b,Wt,_,e⟩
   ·subst e; exact hW
   ·subst e; show Words t'.m; rw [h1]; exact hW
   ·subst e; exact hW
  | 22,⟨_,h⟩ => exact h.words hW (by rintro rfl; rfl)
  | 23,⟨_,h⟩ => exact h.words hW (by rintro rfl; rfl)
  | 24,⟨_,h⟩ => exact h.words hW (by rintro rfl; rfl)
  | 25,⟨_,h⟩ => exact h.words hW (by rintro rfl; rfl)
  | 26,⟨_,h⟩ => exact h.words hW (by rintro rfl; rfl)
  | 27,⟨_,h⟩ => exact h.words hW (by rintro rfl; rfl)
end
end
section
open Go.RowKit Go.Lib
section
variable {W w w' w1:World} {a:KA} {k k' k1 k2:KS} {C C':Nat→Nat×Nat} {pid z:Int} {i j:Nat} {o o':KO} {x x2:Spc} {y:Nat×PTab} {v:CallV} {S:PS} {L:PTab}
structure Beside (k k':KS) (i:Nat):Prop where
 ow:k'.ow=k.ow
 pl:k'.pl=k.pl
 st:∀ q,stR k'.pl k'.pf q=stR k.pl k.pf q
 l:∀ j,j≠i→k'.l[j]?=k.l[j]?
 ts:∀ j,j≠i→k'.ts[j]?=k.ts[j]?
 mem:∀ j x,j≠i→k.l[j]?=some x→memT k'.t.m x.P=memT k.t.m x.P
theorem Beside.step (h:Beside k k' i) (hok:KOk k) (hi:mget k.ow pid=some i) {p:Int} (hne:p≠pid) (s:ByteArray):stepT k' p s=stepT k p s:=by
 unfold stepT
 rw [h.ow,h.st]
 cases hp:mget k.ow p with
 | none => rfl
 | some j =>
  have hj:j≠i:=fun e => hne (hok.inj p pid i (e ▸ hp) hi)
  simp only
  rw [h.l j hj,h.ts j hj]
  cases hl:k.l[j]? with
  | none => rfl
  | some x =>
   cases ht:k.ts[j]? with
   | none => rfl
   | some y =>
    simp only
    rw [h.mem j x hj hl]
theorem Beside.all (h:Beside k k' i) (hok:KOk k) (hi:mget k.ow pid=some i) (hp:0 < pid):allK a k' pid=allK a k pid:=by
 unfold allK headK
 rw [if_pos hp,if_pos hp,h.pl]
 exact allN_congr (fun p _ hne s => h.step hok hi hne s) _
theorem Beside.of (h1:k'.ow=k.ow) (h2:k'.pl=k.pl) (h3:∀ q,stR k'.pl k'.pf q=stR k.pl k.pf q) (h4:k'.l=k.l∨∃ y,k'.l=k.l.set i y) (h5:k'.ts=k.ts∨∃ y,k'.ts=k.ts.set i y) (h6:k'.t.m=k.t.m):Beside k k' i:=by
 refine ⟨h1,h2,h3,fun j hj => ?_,fun j hj => ?_,fun j x _ _ => by rw [h6]⟩
 ·rcases h4 with e | ⟨y,e⟩
  ·rw [e]
  ·rw [e,List.getElem?_set_ne (fun e => hj e.symm)]
 ·rcases h5 with e | ⟨y,e⟩
  ·rw [e]
  ·rw [e,List.getElem?_set_ne (fun e => hj e.symm)]
theorem Beside.err {R:KS→Prop} (h:KR k z R k') (hR:R k'→Beside k k' i):Beside k k' i:=by
 rcases h.cases with ⟨_,h⟩ | ⟨_,t',ht,rfl⟩
 ·exact hR h
 ·exact .of rfl rfl (fun _ => rfl) (.inl rfl) (.inl rfl) ht
theorem memT_keep {m m':Nat→Nat→Int} {P:Int→Option Pg} (h:∀ i q,P i=some q→0≤q.2→∀ n,m' q.2.toNat n=m q.2.toNat n):memT m' P=memT m P:=by
 unfold memT
 rw [allT_congr (V:=loadV P m') (V':=loadV P m) (Z:=fun a k => accE P a k 1) (Z':=fun a k => accE P a k 1)]
 intro a _ j _
 refine ⟨?_,rfl⟩
 unfold loadV
 by_cases hz:accE P a j 1=0
 ·rw [if_pos hz,if_pos hz]
  rcases accE_or P a j 1 with ⟨he,hn⟩ | he | he | ⟨he,h0,h8,q,hq,hq1⟩
  ·omega
  ·omega
  ·omega
  ·rw [hq]
   simp only [Option.getD_some]
   unfold wordV
   by_cases hf:q.2 < 0
   ·rw [if_pos hf,if_pos hf]
   ·rw [if_neg hf,if_neg hf]
    exact h _ q hq (by omega) _
 ·rw [if_neg hz,if_neg hz]
theorem frame_other (hk:KIn W w a k C) (hi:k.l[i]?=some x) (hj:k.l[j]?=some x2) (hne:j≠i) {p:Int} {q:Pg} (hq:x2.P p=some q) (h0:0≤q.2):1+cntF x.P q.2≤k.t.R q.2:=by
 have hd:=(hk.vm.sps j x2 hj).dom p q hq
 have h1:=cntF_ge (P:=x2.P) (i:=p) (f:=q.2) hd.1 hd.2
 rw [hq,hasF_some,if_pos rfl] at h1
 have h2:=sumC_erase hi q.2
 have h3:=sumC_set (y:=⟨0,0,fun _ => none⟩) hi q.2
 have h4:=sumC_pos (l:=k.l.set i ⟨0,0,fun _ => none⟩) (k:=j) (x:=x2) (by rw [List.getElem?_set_ne (fun e => hne e.symm)]; exact hj) q.2
 have h5:=hk.vm.refs q.2 h0
 have h6:cntF (⟨0,0,fun _ => none⟩:Spc).P q.2=0:=sumN_zero (fun _ _ => rfl)
 omega
theorem storeOn_beside (hk:KIn W w a k C) (hi:k.l[i]?=some x) {p q c:Int} (h:StoreOn a k i x p q c z k'):Beside k k' i:=by
 rcases h with ⟨_,_,e⟩ | ⟨_,_,_,g,hg,⟨⟨h0,h1⟩,_,t',_,hm,e⟩ | ⟨_,_,_,e⟩ | ⟨_,_,f,t',h0,_,hR,hm,e⟩⟩
 ·subst e; exact .of rfl rfl (fun _ => rfl) (.inl rfl) (.inl rfl) rfl
 ·subst e
  refine ⟨rfl,rfl,fun _ => rfl,fun _ _ => rfl,fun _ _ => rfl,fun j x2 hne hj => ?_⟩
  show memT t'.m x2.P=_
  rw [hm]
  refine memT_keep (fun r u hu hu0 n => ?_)
  unfold memSet
  rw [if_neg]
  rintro ⟨h2,_⟩
  have h3:=frame_other hk hi hj hne hu hu0
  have e2:u.2=g.2:=by omega
  have hd:=(hk.vm.sps i x hi).dom p g hg
  have h4:=cntF_ge (P:=x.P) (i:=p) (f:=g.2) hd.1 hd.2
  rw [hg,hasF_some,if_pos rfl] at h4
  rw [e2] at h3
  omega
 ·subst e; exact .of rfl rfl (fun _ => rfl) (.inl rfl) (.inl rfl) rfl
 ·subst e
  refine ⟨rfl,rfl,fun _ => rfl,fun j hj => List.getElem?_set_ne (fun e => hj e.symm),fun _ _ => rfl,fun j x2 hne hj => ?_⟩
  show memT t'.m x2.P=_
  rw [hm]
  refine memT_keep (fun r u hu hu0 n => ?_)
  have hn:u.2.toNat≠f.toNat:=fun h2 => by
   have h3:=frame_other hk hi hj hne hu hu0
   have e2:u.2=f:=by omega
   rw [e2] at h3
   omega
  unfold newM memSet
  rw [if_neg (fun h => hn h.1)]
  split
  ·unfold memZero; rw [if_neg hn]
  ·unfold memCopy; rw [if_neg hn]
/-! ### how many run -/
def cntR (k:KS) (ps:List Int):Nat:=(ps.filter fun p => decide (stR k.pl k.pf p=1)).length
def runsN (k:KS):Nat:=cntR k (pidsOf k.pl)
theorem cntR_le (h:∀ q,stR k'.pl k'.pf q=1→stR k.pl k.pf q=1):∀ ps,cntR k' ps≤cntR k ps
 | [] => Nat.le_refl _
 | p :: ps => by
  have ih:=cntR_le h ps
  unfold cntR at *
  rw [List.filter_cons,List.filter_cons]
  by_cases h1:stR k'.pl k'.pf p=1
  ·rw [if_pos (by simpa using h1),if_pos (by simpa using h p h1)]
   simp only [List.length_cons]; omega
  ·rw [if_neg (by simpa using h1)]
   split
   ·simp only [List.length_cons]; omega
   ·exact ih
theorem cntR_lt (h:∀ q,stR k'.pl k'.pf q=1→stR k.pl k.pf q=1) {u:Int} (h1:stR k.pl k.pf u=1) (h2:stR k'.pl k'.pf u≠1):∀ ps,u∈ps→cntR k' ps < cntR k ps
 | p :: ps,hm => by
  have hle:=cntR_le h ps
  by_cases e:p=u
  ·subst e
   unfold cntR at *
   rw [List.filter_cons,List.filter_cons,if_neg (by simpa using h2),if_pos (by simpa using h1)]
   simp only [List.length_cons]; omega
  ·have ih:=cntR_lt h h1 h2 ps (by
    rcases List.mem_cons.1 hm with h | h
    ·exact absurd h.symm e
    ·exact h)
   unfold cntR at *
   rw [List.filter_cons,List.filter_cons]
   by_cases h3:stR k'.pl k'.pf p=1
   ·rw [if_pos (by simpa using h3),if_pos (by simpa using h p h3)]
    simp only [List.length_cons]; omega
   ·rw [if_neg (by simpa using h3)]
    split
    ·simp only [List.length_cons]; omega
    ·exact ih
theorem gone_runs (hok:KOk k) {u:Int} (h:GoneK a k u k'):runsN k' < runsN k:=by
 obtain ⟨_,_,_,_,i,o,x,y,b,t',hm,_,_,hb,e⟩:=h
 have hst:∀ q,stR k'.pl k'.pf q=if q=u then 2 else stR k.pl k.pf q:=fun q => by
  rw [e]; exact stR_exit hok.kin.inj hb 108 q
 have hpl:k'.pl=k.pl:=by rw [e]; rfl
 have h1:stR k.pl k.pf u=1:=(hok.run u).2 (by rw [hm.own]; rfl)
 unfold runsN
 rw [hpl]
 refine cntR_lt (fun q hq => ?_) h1 (by rw [hst,if_pos rfl]; decide) _ (mem_pidsOf.2 (List.mem_map.2 ⟨_,mem_of_mget hb,rfl⟩))
 rw [hst] at hq
 split at hq
 ·cases hq
 ·exact hq
theorem went_runs:∀ {go:List Int} {k k1:KS},KOk k→Went a k go k1→runsN k1≤runsN k∧(go≠[]→runsN k1 < runsN k)
 | [],k,k1,_,h => by rw [show k1=k from h]; exact ⟨Nat.le_refl _,fun e => absurd rfl e⟩
 | u :: go,k,k1,hok,h => by
  obtain ⟨k2,hg,h2⟩:=h
  have h3:=gone_runs hok hg
  have h4:=(went_runs hg.2.2.2.1 h2).1
  exact ⟨by omega,fun _ => by omega⟩
theorem storeOn_runs {p q c:Int} (h:StoreOn a k i x p q c z k'):runsN k'=runsN k:=by
 rcases h with ⟨_,_,e⟩ | ⟨_,_,_,g,_,⟨_,_,t',_,_,e⟩ | ⟨_,_,_,e⟩ | ⟨_,_,f,t',_,_,_,_,e⟩⟩ <;> (subst e; rfl)
theorem storeR_beside (hk:KIn W w a k C) (hok:KOk k) (hm:Mine k v.p i o x y) (h:StoreR a k v i o x y z k') (hr:runsN k'=runsN k):Beside k k' i:=by
 obtain ⟨go,k1,hw,_,⟨_,hs,_⟩ | ⟨_,e,go1,hgo⟩⟩:=h
 ·have h1:=went_runs hok hw
  have h2:=storeOn_runs hs
  by_cases hg:go=[]
  ·subst hg
   have e:k1=k:=hw
   subst e
   exact storeOn_beside hk hm.sp hs
  ·have:=h1.2 hg
   omega
 ·have h1:=(went_runs hok hw).2 (by rw [hgo]; simp)
  rw [e] at hr
  omega
theorem apart (hk:KIn W w a k C) (hok:KOk k) (h:CallR a k v z k') (hw:¬ v.w < 3∧v.w≠4∧v.w≠20∧v.w≠21) (hr:runsN k'=runsN k) (hp:0 < v.p):allK a k' v.p=allK a k v.p:=by
 rcases h with ⟨_,_,e⟩ | ⟨_,_,e⟩ | ⟨n,i,o,x,y,hn,hm,h⟩
 ·rw [e]
 ·rw [e]
 ·have file:∀ S' L' u',Beside k (fileK k i o y S' L' u') i:=fun S' L' u' => .of rfl rfl (fun _ => rfl) (.inl rfl) (.inr ⟨_,rfl⟩) rfl
  refine Beside.all (i:=i) ?_ hok hm.own hp
  match n,hn,h with
  | 0,hn,_ => omega
  | 1,hn,_ => omega
  | 2,hn,_ => omega
  | 3,_,⟨_,t',h1,e⟩ => subst e; exact .of rfl rfl (fun _ => rfl) (.inr ⟨_,rfl⟩) (.inr ⟨_,rfl⟩) h1
  | 4,hn,_ => omega
  | 5,_,⟨_,h⟩ => exact .err h (by rintro rfl; exact .of rfl rfl (fun _ => rfl) (.inr ⟨_,rfl⟩) (.inl rfl) rfl)
  | 6,_,⟨_,h⟩ => exact .err h (by rintro rfl; exact .of rfl rfl (fun _ => rfl) (.inr ⟨_,rfl⟩) (.inl rfl) rfl)
  | 7,_,⟨_,h⟩ => exact .err h (by rintro ⟨t',h1,rfl⟩; exact .of rfl rfl (fun _ => rfl) (.inr ⟨_,rfl⟩) (.inl rfl) h1)
  | 8,_,h => exact storeR_beside hk hok hm h hr
  | 9,_,h => exact storeR_beside hk hok hm h hr
  | 10,_,h => exact storeR_beside hk hok hm h hr
  | 11,_,⟨_,h⟩ => exact .err h (by rintro rfl; exact file _ _ _)
  | 12,_,⟨_,h⟩ => exact .err h (by rintro rfl; exact file _ _ _)
  | 13,_,⟨_,h⟩ => exact .err h (by rintro rfl; exact file _ _ _)
  | 14,_,⟨_,h⟩ => exact .err h (by rintro rfl; exact file _ _ _)
  | 15,_,⟨_,h⟩ => exact .err h (by rintro rfl; exact file _ _ _)
  | 16,_,⟨_,h⟩ => exact .err h (by rintro rfl; exact file _ _ _)
  | 17,_,⟨hz,pf',e,hq,_⟩ => subst e; exact .of rfl rfl hq.st (.inl rfl) (.inr ⟨_,rfl⟩) rfl
  | 18,_,⟨_,h⟩ => exact .err h (by rintro rfl; exact file _ _ _)
  | 19,_,⟨_,h⟩ => exact .err h (by rintro rfl; exact .of rfl rfl (fun _ => rfl) (.inl rfl) (.inl rfl) rfl)
  | 20,hn,_ => omega
  | 21,hn,_ => omega
  | 22,_,⟨_,h⟩ => exact .err h (by rintro rfl; exact .of rfl rfl (fun _ => rfl) (.inl rfl) (.inl rfl) rfl)
  | 23,_,⟨_,h⟩ => exact .err h (by rintro rfl; exact .of rfl rfl (fun _ => rfl) (.inl rfl) (.inl rfl) rfl)
  | 24,_,⟨_,h⟩ => exact .err h (by rintro rfl; exact .of rfl rfl (fun _ => rfl) (.inl rfl) (.inl rfl) rfl)
  | 25,_,⟨_,h⟩ => exact .err h (by rintro rfl; exact .of rfl rfl (fun _ => rfl) (.inr ⟨_,rfl⟩) (.inl rfl) rfl)
  | 26,_,⟨_,h⟩ => exact .err h (by rintro rfl; exact file _ _ _)
  | 27,_,⟨_,h⟩ => exact .err h (by rintro rfl; exact .of rfl rfl (fun _ => rfl) (.inl rfl) (.inl rfl) rfl)
theorem runs_is (h:KIn W w a k C) (hok:KOk k):Calls Tryz.prog 44 #[.pointer (some ⟨a.kb,0,none⟩)] w fun e w' => e=.returned (.int .i64 (runsN k:Int))∧Turn (fun _ => False) w w':=by
 have HPi:=hid (kpids_row h hok)
 have H:=hid h
 obtain ⟨N,hN⟩:∃ N,(pidsOf k.pl).length=N:=⟨_,rfl⟩
 have HNn:=hid hN
 have hNl:=kin_len hok
 rw [hN] at HPi hNl
 clear h hok hN
 go_enter Tryz.func44,Tryz.ntmps44
 go_wp2_with fail
 refine HPi.out.mono ?_
 rintro e w4 ⟨g,cap,rfl,hI,hg,t4⟩
 have HI:=hid hI
 have HT4:=hid t4
 clear hI hg t4 HPi
 go_wp2_with fail
 go_loopg [3,9] (N) (fun gl sv ix wr => ∃ m:Nat,m+gl=N∧ix=.int .i64 m∧sv=.int .i64 (cntR k ((pidsOf k.pl).take m):Int)∧wr=w4)
 case atStart => exact ⟨0,by omega,rfl,rfl,rfl⟩
 case round =>
  obtain ⟨m,hm,rfl,rfl,hwr⟩:=hrel
  subst hwr
  by_cases hml:m < N
  ·have hml':(m:Int) < N:=by omega
   have hm0:(0:Int)≤(m:Int):=by omega
   obtain ⟨p,hp⟩:∃ p,(pidsOf k.pl)[m]?=some p:=⟨_,List.getElem?_eq_getElem (by rw [HNn.out]; exact hml)⟩
   have hI5:=HI.out
   rw [← HNn.out] at hI5
   have cp:=hI5.cell m p hp
   have hst:=kstate_is (H.out.still HT4.out) p
   have hle:cntR k ((pidsOf k.pl).take m)≤24:=by
    unfold cntR
    have h1:=List.length_filter_le (fun p => decide (stR k.pl k.pf p=1)) ((pidsOf k.pl).take m)
    have h2:((pidsOf k.pl).take m).length≤m:=by rw [List.length_take]; omega
    omega
   have hnx:cntR k ((pidsOf k.pl).take (m+1))=cntR k ((pidsOf k.pl).take m)+if stR k.pl k.pf p=1 then 1 else 0:=by
    unfold cntR
    rw [List.take_add_one,hp,List.filter_append,List.length_append]
    congr 1
    show (List.filter _ [p]).length=_
    rw [List.filter_cons]
    by_cases h:stR k.pl k.pf p=1
    ·rw [if_pos (by simpa using h),if_pos h]; rfl
    ·rw [if_neg (by simpa using h),if_neg h]; rfl
   have HNx:=hid hnx
   obtain ⟨c,hc⟩:∃ c,cntR k ((pidsOf k.pl).take m)=c:=⟨_,rfl⟩
   rw [hc] at hle HNx ⊢
   obtain ⟨st,hs⟩:∃ st,stR k.pl k.pf p=st:=⟨_,rfl⟩
   rw [hs] at hst HNx
   have HSt:=hid hst
   clear hst hs hc hnx hI5 hp
   by_cases h1:st=1
   ·subst h1
    go_wp2_with fail
    refine HSt.out.mono ?_
    rintro e w8 ⟨rfl,hw⟩; subst w8
    go_wp2_with fail
    go_roundg (gk - 1)
    case measure => omega
    case rel => exact ⟨m+1,by omega,by go_num,by rw [HNx.out]; simp,rfl⟩
   ·have hb:(st == 1)=false:=by simpa using h1
    go_wp2_with fail
    refine HSt.out.mono ?_
    rintro e w8 ⟨rfl,hw⟩; subst w8
    go_wp2_with fail
    go_roundg (gk - 1)
    case measure => omega
    case rel => exact ⟨m+1,by omega,by go_num,by rw [HNx.out,if_neg h1]; rfl,rfl⟩
  ·have hme:m=N:=by omega
   subst hme
   have hT:List.take m (pidsOf k.pl)=pidsOf k.pl:=by rw [← HNn.out,List.take_length]
   rw [hT]
   clear hT
   go_wp2_with fail
   go_returns
   exact ⟨rfl,HT4.out⟩
end
end
section
open Go.RowKit Go.Lib
section
variable {W w w' w1:World} {a:KA} {k k' k0 k1 k2:KS} {C C' C0:Nat→Nat×Nat} {pid z c:Int} {i j:Nat} {o o':KO} {x x2:Spc} {y:Nat×PTab} {v:CallV} {S S' S2:PS} {L:PTab} {ts:List (Nat×PTab)} {tab:Nat} {key:Int} {e:PE}
/-! ### files -/
structure Lss (S S':PS):Prop where
 T:S'.T=S.T
 f:∀ key e',mget S'.es key=some e'→e'.kind=1→∃ e,mget S.es key=some e∧e.kind=1
theorem Lss.refl (S:PS):Lss S S:=⟨rfl,fun _ e' h h1 => ⟨e',h,h1⟩⟩
theorem Lss.trans (h:Lss S S') (h2:Lss S' S2):Lss S S2:=⟨h2.T.trans h.T,fun key e' h3 h4 => by
 obtain ⟨e,h5,h6⟩:=h2.f key e' h3 h4
 exact h.f key e h5 h6⟩
theorem lss_put {e':PE} (he:mget S.es key=some e) (hk:e'.kind=e.kind):Lss S (putS S key e'):=⟨rfl,fun j f hf h1 => by
 have hf':mget (mput S.es key e') j=some f:=hf
 rw [mget_mput] at hf'
 by_cases h:j=key
 ·rw [if_pos h] at hf'
  cases hf'
  exact ⟨e,by rw [h]; exact he,by rw [← hk]; exact h1⟩
 ·rw [if_neg h] at hf'
  exact ⟨f,hf',h1⟩⟩
theorem lss_new {e':PE} (hk:e'.kind≠1):Lss S (putS S key e'):=⟨rfl,fun j f hf h1 => by
 have hf':mget (mput S.es key e') j=some f:=hf
 rw [mget_mput] at hf'
 by_cases h:j=key
 ·rw [if_pos h] at hf'
  cases hf'
  exact absurd h1 hk
 ·rw [if_neg h] at hf'
  exact ⟨f,hf',h1⟩⟩
theorem lss_del:Lss S (delS S key):=⟨rfl,fun j f hf h1 => by
 have hf':mget (mdel S.es key) j=some f:=hf
 rw [mget_mdel] at hf'
 by_cases h:j=key
 ·rw [if_pos h] at hf'; cases hf'
 ·rw [if_neg h] at hf'
  exact ⟨f,hf',h1⟩⟩
theorem lss_gone (hk:e.kind≠1):Lss S (goneS S e):=by
 unfold goneS
 rw [if_neg hk]
 cases S.ps[e.pid]? <;> exact ⟨rfl,fun _ e' h h1 => ⟨e',h,h1⟩⟩
def Also (S:PS) (L:PTab):Prop:=∀ key e,mget S.es key=some e→e.kind=1→0 < cntL L key→1 < e.refs
theorem lss_close (hA:Also S L) (n:Int):Lss S (closeS S L n):=by
 unfold closeS
 cases hx:entL S L n with
 | none => exact .refl S
 | some p =>
  obtain ⟨key,e⟩:=p
  obtain ⟨h1,h2,h3,_,h5⟩:=entL_slot hx
  simp only [Option.elim]
  split
  ·exact lss_put h5 rfl
  ·rename_i hr
   have hk:e.kind≠1:=fun hk => hr (hA key e h5 hk (cntL_pos (j:=n.toNat) (by omega) h3))
   exact lss_del.trans (lss_gone hk)
theorem also_bump (hA:Also S L) (n:Int):Also (bumpE S L n) L:=by
 unfold bumpE
 cases hx:entL S L n with
 | none => exact hA
 | some p =>
  obtain ⟨key,e⟩:=p
  obtain ⟨_,_,_,_,h5⟩:=entL_slot hx
  intro j f hf h1 h2
  have hf':mget (mput S.es key { e with refs:=e.refs+1 }) j=some f:=hf
  rw [mget_mput] at hf'
  by_cases h:j=key
  ·rw [if_pos h] at hf'
   cases hf'
   have:=hA key e h5 h1 (h ▸ h2)
   show 1 < e.refs+1
   omega
  ·rw [if_neg h] at hf'
   exact hA j f hf' h1 h2
theorem lss_bump (n:Int):Lss S (bumpE S L n):=by
 unfold bumpE
 cases hx:entL S L n with
 | none => exact .refl S
 | some p =>
  obtain ⟨key,e⟩:=p
  obtain ⟨_,_,_,_,h5⟩:=entL_slot hx
  exact lss_put h5 rfl
theorem lss_dup2 (hA:Also S L) (n t:Int):Lss S (dup2S S L n t):=by
 unfold dup2S
 split
 ·exact (lss_bump n).trans (lss_close (also_bump hA n) t)
 ·exact .refl S
theorem lss_dup (n:Int):Lss S (dupS S L n):=by
 unfold dupS
 split
 ·cases hx:entL S L n with
  | none => exact .refl S
  | some p =>
   obtain ⟨key,e⟩:=p
   obtain ⟨_,_,_,_,h5⟩:=entL_slot hx
   exact lss_put h5 rfl
 ·exact .refl S
theorem lss_piped:Lss S (pipedS S L):=by
 unfold pipedS
 split
 ·have h0:Lss S (moreS S newP):=⟨rfl,fun _ e' h h1 => ⟨e',h,h1⟩⟩
  have h1:Lss S (pipeS1 S):=h0.trans (lss_new (by show (2:Int)≠1; decide))
  exact h1.trans (lss_new (by show (3:Int)≠1; decide))
 ·exact .refl S
theorem lss_bumpS (key:Int):Lss S (bumpS S key):=by
 unfold bumpS
 cases he:mget S.es key with
 | none => exact .refl S
 | some e => exact lss_put he rfl
theorem lss_forkFrom (L:PTab):∀ (f i:Nat) (S:PS),Lss S (forkFrom L f i S)
 | 0,_,S => .refl S
 | f+1,i,S => by
  show Lss S (forkFrom L f (i+1) (if 0 < (L i).1 then bumpS S ((L i).1 - 1) else S))
  split
  ·exact (lss_bumpS _).trans (lss_forkFrom L f (i+1) _)
  ·exact lss_forkFrom L f (i+1) S
theorem lss_fork:Lss S (forkS S L):=lss_forkFrom L 8 0 S
def Others (S:PS) (ts:List (Nat×PTab)) (i:Nat):Prop:=∀ key e,mget S.es key=some e→e.kind=1→∃ (j:Nat) (t:Nat×PTab),j≠i∧ts[j]?=some t∧0 < cntL t.2 key
theorem Others.also (h:Others S ts i) (hJ:Joint S ts) (hS:DOk S) (hi:ts[i]?=some y):Also S y.2:=fun key e he h1 h2 => by
 obtain ⟨j,t,hj,ht,h3⟩:=h key e he h1
 have h4:=two_ge hi ht (fun e => hj e.symm) key
 rw [hJ.refs hS he]
 omega
theorem Others.step (h:Others S ts i) (hl:Lss S S') (y':Nat×PTab):Others S' (ts.set i y') i:=fun key e he h1 => by
 obtain ⟨e0,h2,h3⟩:=hl.f key e he h1
 obtain ⟨j,t,hj,ht,h4⟩:=h key e0 h2 h3
 exact ⟨j,t,hj,by rw [List.getElem?_set_ne (fun e => hj e.symm)]; exact ht,h4⟩
theorem lss_clearFrom {L0:PTab} {all:Bool}:∀ (f m:Nat) (S:PS) (L:PTab),DOk S→Joint S (ts.set i (tab,L))→(∃ z,ts[i]?=some z)→Others S (ts.set i (tab,L)) i→Lss S (clearFrom L0 all f m S L).1
 | 0,_,S,_,_,_,_,_ => .refl S
 | f+1,m,S,L,hS,hJ,hz,hO => by
  obtain ⟨z,hz⟩:=hz
  have hget:(ts.set i (tab,L))[i]?=some (tab,L):=set_at hz
  by_cases hc:0 < (L0 m).1∧(all=true∨(L0 m).2=true)
  ·rw [clear_go f m hc]
   have hJ2:=joint_close hJ hS hget (m:Int)
   have hl:=lss_close (hO.also hJ hS hget) (m:Int)
   have hO2:=hO.step hl (tab,closeL S L (m:Int))
   rw [List.set_set] at hJ2 hO2
   exact hl.trans (lss_clearFrom f (m+1) _ _ (hS.close L m) hJ2 ⟨z,hz⟩ hO2)
  ·rw [clear_no f m hc]
   exact lss_clearFrom f (m+1) S L hS hJ ⟨z,hz⟩ hO
theorem lss_clear (hS:DOk S) (hJ:Joint S ts) (hi:ts[i]?=some y) (hO:Others S ts i) (all:Bool):Lss S (clearS S y.2 all):=by
 have e:ts.set i (y.1,y.2)=ts:=set_same hi
 exact lss_clearFrom (ts:=ts) (i:=i) (tab:=y.1) 8 0 S y.2 hS (by rw [e]; exact hJ) ⟨_,hi⟩ (by rw [e]; exact hO)
/-! ### who is forked -/
structure Guest (k1 k:KS) (i:Nat):Prop where
 ow:k.ow=k1.ow
 pl:k.pl=k1.pl
 pf:k.pf=k1.pf
 l:∀ j,j≠i→k.l[j]?=k1.l[j]?
 ts:∀ j,j≠i→k.ts[j]?=k1.ts[j]?
 mem:∀ j x,j≠i→k1.l[j]?=some x→memT k.t.m x.P=memT k1.t.m x.P
 T:k.S.T=k1.S.T
 fs:Others k.S k.ts i
theorem Guest.of (h:Guest k1 k i) (hi:k.ts[i]?=some y) (e1:k'.ow=k.ow) (e2:k'.pl=k.pl) (e3:k'.pf=k.pf) (e4:k'.l=k.l∨∃ x',k'.l=k.l.set i x') (e5:∃ y',k'.ts=k.ts.set i y') (e6:k'.t.m=k.t.m) (e7:Lss k.S k'.S):Guest k1 k' i:=by
 obtain ⟨y',e5⟩:=e5
 refine ⟨e1.trans h.ow,e2.trans h.pl,e3.trans h.pf,fun j hj => ?_,fun j hj => ?_,fun j x hj hx => ?_,e7.T.trans h.T,?_⟩
 ·rw [← h.l j hj]
  rcases e4 with e | ⟨x',e⟩
  ·rw [e]
  ·rw [e,List.getElem?_set_ne (fun e => hj e.symm)]
 ·rw [← h.ts j hj,e5,List.getElem?_set_ne (fun e => hj e.symm)]
 ·rw [e6]; exact h.mem j x hj hx
 ·rw [e5]; exact h.fs.step e7 y'
theorem Guest.err {R:KS→Prop} (h:Guest k1 k i) (hi:k.ts[i]?=some y) (hk:KR k z R k') (hR:R k'→Guest k1 k' i):Guest k1 k' i:=by
 rcases hk.cases with ⟨_,hk⟩ | ⟨_,t',ht,rfl⟩
 ·exact hR hk
 ·exact h.of hi rfl rfl rfl (.inl rfl) ⟨y,(set_same hi).symm⟩ ht (.refl _)
theorem storeOn_same {p q c:Int} (h:StoreOn a k i x p q c z k'):k'.pf=k.pf∧k'.S=k.S∧k'.ts=k.ts:=by
 rcases h with ⟨_,_,e⟩ | ⟨_,_,_,g,_,⟨_,_,t',_,_,e⟩ | ⟨_,_,_,e⟩ | ⟨_,_,f,t',_,_,_,_,e⟩⟩ <;> (subst e; exact ⟨rfl,rfl,rfl⟩)
theorem Guest.beside (h:Guest k1 k i) (hb:Beside k k' i) (h1:k'.pf=k.pf) (h2:k'.S=k.S) (h3:k'.ts=k.ts):Guest k1 k' i :=
 ⟨hb.ow.trans h.ow,hb.pl.trans h.pl,h1.trans h.pf,fun j hj => (hb.l j hj).trans (h.l j hj),fun j hj => (hb.ts j hj).trans (h.ts j hj),fun j x hj hx => (hb.mem j x hj (by rw [h.l j hj]; exact hx)).trans (h.mem j x hj hx),by rw [h2]; exact h.T,by rw [h2,h3]; exact h.fs⟩
theorem Guest.store (h:Guest k1 k i) (hk:KIn W w a k C) (hok:KOk k) (hm:Mine k v.p i o x y) (hs:StoreR a k v i o x y z k') (hr:runsN k'=runsN k):Guest k1 k' i:=by
 have hb:=storeR_beside hk hok hm hs hr
 obtain ⟨go,k3,hw,_,⟨_,hs,_⟩ | ⟨_,e,go1,hgo⟩⟩:=hs
 ·have h1:=went_runs hok hw
  have h2:=storeOn_runs hs
  by_cases hg:go=[]
  ·subst hg
   have e:k3=k:=hw
   subst e
   obtain ⟨e1,e2,e3⟩:=storeOn_same hs
   exact h.beside hb e1 e2 e3
  ·have:=h1.2 hg
   omega
 ·have h1:=(went_runs hok hw).2 (by rw [hgo]; simp)
  rw [e] at hr
  omega
def RoundW (n:Int):Prop:=¬ n < 5∧n≠11∧n≠12∧¬ (16 < n∧n≠25∧n≠26)
theorem Guest.step (h:Guest k1 k i) (hk:KIn W w a k C) (hok:KOk k) (hc:CallR a k v z k') (hw:RoundW v.w) (hr:runsN k'=runsN k) (hi:mget k1.ow v.p=some i):Guest k1 k' i:=by
 obtain ⟨w5,w11,w12,w16⟩:=hw
 rcases hc with ⟨_,_,e⟩ | ⟨_,_,e⟩ | ⟨n,i',o,x,y,hn,hm,hc⟩
 ·rw [e]; exact h
 ·rw [e]; exact h
 ·have hii:i'=i:=by
   have h1:=hm.own
   rw [h.ow,hi] at h1
   exact (Option.some.inj h1).symm
  subst hii
  have hA:=h.fs.also hok.joint hok.dok hm.tab
  have file:∀ S' L' u',Lss k.S S'→Guest k1 (fileK k i' o y S' L' u') i':=fun S' L' u' hl => h.of hm.tab rfl rfl rfl (.inl rfl) ⟨_,rfl⟩ rfl hl
  have step:∀ P' u' (t':St),t'.m=k.t.m→Guest k1 (stepK k i' o x P' t' u') i':=fun P' u' t' ht => h.of hm.tab rfl rfl rfl (.inr ⟨_,rfl⟩) ⟨y,(set_same hm.tab).symm⟩ ht (.refl _)
  match n,hn,hc with
  | 0,hn,_ => omega
  | 1,hn,_ => omega
  | 2,hn,_ => omega
  | 3,hn,_ => omega
  | 4,hn,_ => omega
  | 5,_,⟨_,hc⟩ => exact h.err hm.tab hc (by rintro rfl; exact step _ _ _ rfl)
  | 6,_,⟨_,hc⟩ => exact h.err hm.tab hc (by rintro rfl; exact step _ _ _ rfl)
  | 7,_,⟨_,hc⟩ => exact h.err hm.tab hc (by rintro ⟨t',h1,rfl⟩; exact step _ _ _ h1)
  | 8,_,hc => exact h.store hk hok hm hc hr
  | 9,_,hc => exact h.store hk hok hm hc hr
  | 10,_,hc => exact h.store hk hok hm hc hr
  | 11,hn,_ => omega
  | 12,hn,_ => omega
  | 13,_,⟨_,hc⟩ => exact h.err hm.tab hc (by rintro rfl; exact file _ _ _ lss_piped)
  | 14,_,⟨_,hc⟩ => exact h.err hm.tab hc (by rintro rfl; exact file _ _ _ (lss_dup _))
  | 15,_,⟨_,hc⟩ => exact h.err hm.tab hc (by rintro rfl; exact file _ _ _ (lss_dup2 hA _ _))
  | 16,_,⟨_,hc⟩ => exact h.err hm.tab hc (by rintro rfl; exact file _ _ _ (lss_close hA _))
  | 17,hn,_ => omega
  | 18,hn,_ => omega
  | 19,hn,_ => omega
  | 20,hn,_ => omega
  | 21,hn,_ => omega
  | 22,hn,_ => omega
  | 23,hn,_ => omega
  | 24,hn,_ => omega
  | 25,_,⟨_,hc⟩ => exact h.err hm.tab hc (by rintro rfl; exact step _ _ _ rfl)
  | 26,_,⟨_,hc⟩ => exact h.err hm.tab hc (by rintro rfl; exact file _ _ _ (.refl _))
  | 27,hn,_ => omega
theorem guest_fork (hk0:KIn W w a k0 C0) (hok0:KOk k0) {b:Nat} {f:ForkNew}:Guest (forkK k0 pid o x y b f) (forkK k0 pid o x y b f) k0.os.length:=by
 refine ⟨rfl,rfl,rfl,fun _ _ => rfl,fun _ _ => rfl,fun _ _ _ _ => rfl,rfl,fun key e he h1 => ?_⟩
 obtain ⟨e0,h2,h3⟩:=(lss_fork (S:=k0.S) (L:=y.2)).f key e he h1
 have h4:=(hok0.dok.ent key e0 h2).1
 have h5:=hok0.joint.refs hok0.dok h2
 obtain ⟨j,t,ht,hc⟩:∃ (j:Nat) (t:Nat×PTab),k0.ts[j]?=some t∧0 < cntL t.2 key:=by
  have h6:0 < cntT key k0.ts:=by omega
  clear h4 h5
  revert h6
  generalize k0.ts=ts
  intro h6
  induction ts with
  | nil => exact absurd h6 (Nat.lt_irrefl _)
  | cons t ts ih =>
   by_cases hc:0 < cntL t.2 key
   ·exact ⟨0,t,rfl,hc⟩
   ·obtain ⟨j,u,h7,h8⟩:=ih (by have h9:0 < cntL t.2 key+cntT key ts:=h6; omega)
    exact ⟨j+1,u,h7,h8⟩
 have hjl:=(List.getElem?_eq_some_iff.1 ht).1
 have hl:=hok0.len.2.1
 exact ⟨j,t,by omega,by show (k0.ts ++ _)[j]?=_; rw [List.getElem?_append_left hjl]; exact ht,hc⟩
/-! ### all is as it was -/
theorem len_of_keys {β:Type} {l l':List (Int×β)} (h:MNodup l) (h':MNodup l') (hk:∀ q,(mget l q).isSome=(mget l' q).isSome):l.length=l'.length:=by
 have key:∀ {l:List (Int×β)} (q:Int),q∈l.map Prod.fst ↔ (mget l q).isSome=true:=fun {l} q => by
  cases e:mget l q with
  | none =>
   constructor
   ·intro hq
    obtain ⟨t,ht,rfl⟩:=List.mem_map.1 hq
    exact absurd rfl (mget_none_iff.1 e t ht)
   ·intro hq; cases hq
  | some b => exact ⟨fun _ => rfl,fun _ => List.mem_map.2 ⟨_,mem_of_mget e,rfl⟩⟩
 have h1:(l.map Prod.fst).length≤(l'.map Prod.fst).length:=List.Nodup.length_le_of_subset h (fun q hq => (key q).2 (by rw [← hk q]; exact (key q).1 hq))
 have h2:(l'.map Prod.fst).length≤(l.map Prod.fst).length:=List.Nodup.length_le_of_subset h' (fun q hq => (key q).2 (by rw [hk q]; exact (key q).1 hq))
 rw [List.length_map,List.length_map] at h1 h2
 omega
theorem entry_iff (hS:DOk S) (hJ:Joint S ts) {q:Int} (hq:0≤q):(mget S.es q).isSome=true ↔ 0 < cntT q ts:=by
 rw [hJ.cnt q hq]
 unfold refsOf
 cases e:mget S.es q with
 | none => simp [Option.elim]
 | some f =>
  have:=(hS.ent q f e).1
  simp only [Option.elim,Option.isSome_some,true_iff]
  omega
theorem entries_same {ts2:List (Nat×PTab)} (hS:DOk S) (hJ:Joint S ts) (hS2:DOk S2) (hJ2:Joint S2 ts2) (h:∀ q,0≤q→cntT q ts2=cntT q ts):S2.es.length=S.es.length:=by
 refine len_of_keys hS2.nd hS.nd (fun q => ?_)
 by_cases hq:0≤q
 ·have h1:=entry_iff hS hJ hq
  have h2:=entry_iff hS2 hJ2 hq
  rw [h q hq,← h1] at h2
  exact Bool.eq_iff_iff.2 h2
 ·have no:∀ {S:PS},DOk S→mget S.es q=none:=fun {S} hS => by
   cases e:mget S.es q with
   | none => rfl
   | some f => have:=(hS.keys q f e).1; omega
  rw [no hS,no hS2]
theorem list_of_set {α:Type} {l l0:List α} {u z:α} (hl:∀ j,j≠l0.length→l[j]?=(l0 ++ [u])[j]?) (hz:∃ u',l[l0.length]?=some u'):l.set l0.length z=l0 ++ [z]:=by
 obtain ⟨u',hz⟩:=hz
 apply List.ext_getElem?
 intro j
 by_cases e:j=l0.length
 ·subst e
  rw [set_at hz]; simp
 ·rw [List.getElem?_set_ne (fun h => e h.symm),hl j e]
  rcases Nat.lt_or_ge j l0.length with h | h
  ·rw [List.getElem?_append_left h,List.getElem?_append_left h]
  ·rw [List.getElem?_append_right h,List.getElem?_append_right h]
   cases h2:j - l0.length with
   | zero => omega
   | succ m => rfl
theorem mdel_snoc {l:List (Int×Nat)} {b:Nat} (h:mget l c=none):mdel (l ++ [(c,b)]) c=l:=by
 have h1:=mget_none_iff.1 h
 show List.filter _ _=_
 rw [List.filter_append,List.filter_eq_self.2 (fun t ht => by simpa using h1 t ht)]
 simp
theorem cntL_zero {q:Int} (hq:0≤q) (h:∀ m,m < 8→(L m).1=0):cntL L q=0:=by
 rcases Nat.eq_zero_or_pos (cntL L q) with h1 | h1
 ·exact h1
 ·obtain ⟨j,_,hj,h2⟩:=cntFrom_ex 8 0 h1
  have:=h j (by omega)
  omega
def backK (k:KS) (c:Int) (i:Nat) (x:Spc) (y:Nat×PTab) (b:Nat) (t':St):KS:={ exitK k c i x y b 7 t' with pl:=mdel k.pl c }
theorem guest_back (hk0:KIn W w a k0 C0) (hok0:KOk k0) {b b2:Nat} {f:ForkNew} {o0:KO} {x0:Spc} {y0:Nat×PTab} {t':St} (hm0:Mine k0 pid j o0 x0 y0) (hfc:ForkC k0 f.c) (hfb:∀ t∈k0.pl,t.2≠f.nb) (hg:Guest (forkK k0 pid o0 x0 y0 b f) k k0.os.length) (hok:KOk k) (hm:Mine k f.c k0.os.length o x y) (hb:mget k.pl f.c=some b2) (ht:t'.m=k.t.m) (hk2:KIn W w1 a (backK k f.c k0.os.length x y b2 t') C') (hok2:KOk (backK k f.c k0.os.length x y b2 t')) :
  allK a (backK k f.c k0.os.length x y b2 t') 0=allK a k0 0:=by
 obtain ⟨c1,c24,hn,_⟩:=hfc
 obtain ⟨l1,l2,l3⟩:=hok0.len
 have hno:=hok0.no_own hn
 have hbn:b2=f.nb:=by
  rw [hg.pl] at hb
  have hb':mget (k0.pl ++ [(f.c,f.nb)]) f.c=some b2:=hb
  rw [mget_snoc hn,if_pos rfl] at hb'
  exact (Option.some.inj hb').symm
 have epl:(backK k f.c k0.os.length x y b2 t').pl=k0.pl:=by
  show mdel k.pl f.c=_
  rw [hg.pl]
  exact mdel_snoc hn
 have eow:(backK k f.c k0.os.length x y b2 t').ow=k0.ow:=by
  show mdel k.ow f.c=_
  rw [hg.ow]
  exact mdel_snoc hno
 have est:∀ q,stR (backK k f.c k0.os.length x y b2 t').pl (backK k f.c k0.os.length x y b2 t').pf q=stR k0.pl k0.pf q:=fun q => by
  rw [epl]
  unfold stR
  cases hq:mget k0.pl q with
  | none => rfl
  | some d =>
   have hd:d≠f.nb:=hfb _ (mem_of_mget hq)
   show (exitF k.pf b2 f.c 7 d).state=(k0.pf d).state
   rw [hg.pf,hbn]
   show (reparent f.c (updPr (updPr k0.pf f.nb _) f.nb _ d)).state=_
   rw [updPr_other _ _ hd,updPr_other _ _ hd]
   unfold reparent
   split <;> rfl
 have el:(backK k f.c k0.os.length x y b2 t').l=k0.l ++ [⟨x.sp,x.pm,fun _ => none⟩]:=by
  show k.l.set k0.os.length _=_
  rw [← l1]
  refine list_of_set (u:=⟨f.sp,f.pm,x0.P⟩) (fun j hj => ?_) ⟨x,by rw [l1]; exact hm.sp⟩
  rw [hg.l j (by rw [← l1]; exact hj)]
  rfl
 have ets:(backK k f.c k0.os.length x y b2 t').ts=k0.ts ++ [(y.1,clearL k.S y.2 true)]:=by
  show k.ts.set k0.os.length _=_
  rw [← l2]
  refine list_of_set (u:=(f.ub,y0.2)) (fun j hj => ?_) ⟨y,by rw [l2]; exact hm.tab⟩
  rw [hg.ts j (by rw [← l2]; exact hj)]
  rfl
 have hes:(backK k f.c k0.os.length x y b2 t').S.es.length=k0.S.es.length:=by
  refine entries_same hok0.dok hok0.joint hok2.dok hok2.joint (fun q hq => ?_)
  rw [ets,cntT_append]
  have h1:=cntL_zero hq (cleared_zero hok.dok hok.joint (i:=k0.os.length) (tab:=y.1) (by rw [hm.tab]))
  show cntT q k0.ts+(cntL (clearL k.S y.2 true) q+0)=_
  rw [h1]; omega
 have hT:(backK k f.c k0.os.length x y b2 t').S.T=k0.S.T:=by
  show (clearS k.S y.2 true).T=_
  rw [(lss_clear hok.dok hok.joint hm.tab hg.fs true).T,hg.T]
  exact lss_fork.T
 have hu:kUsed a (backK k f.c k0.os.length x y b2 t')=kUsed a k0:=by
  unfold kUsed usedN
  refine cntB_congr (fun m _ => ?_)
  rw [hk0.vm.refs (m:Int) (by omega),hk2.vm.refs (m:Int) (by omega),el,sumC_append]
  have h0:cntF (⟨x.sp,x.pm,fun _ => none⟩:Spc).P (m:Int)=0:=sumN_zero (fun _ _ => rfl)
  rw [h0]
  rfl
 unfold allK headK
 rw [if_neg (by decide),if_neg (by decide),hu,hes,hT,epl]
 refine allN_congr (fun p _ _ s => ?_) _
 unfold stepT
 rw [eow,est]
 cases hp:mget k0.ow p with
 | none => rfl
 | some i =>
  have hi:=hok0.lt p i hp
  simp only
  rw [el,ets,List.getElem?_append_left (by omega),List.getElem?_append_left (by omega)]
  cases hl:k0.l[i]? with
  | none => rfl
  | some x3 =>
   cases hts:k0.ts[i]? with
   | none => rfl
   | some y3 =>
    simp only
    have h1:=hg.mem i x3 (by omega) (by show (k0.l ++ _)[i]?=_; rw [List.getElem?_append_left (by omega)]; exact hl)
    have h2:(backK k f.c k0.os.length x y b2 t').t.m=k.t.m:=ht
    rw [h2,h1]
    rfl
theorem guest_waited (hok0:KOk k0) {b b2:Nat} {f:ForkNew} {o0:KO} {x0:Spc} {y0:Nat×PTab} {t':St} (hm0:Mine k0 pid j o0 x0 y0) (hfc:ForkC k0 f.c) (hfb:∀ t∈k0.pl,t.2≠f.nb) (hg:Guest (forkK k0 pid o0 x0 y0 b f) k k0.os.length) (hb:mget k.pl f.c=some b2) (hdead:∀ c∈ownOf k0.pl k0.pf pid,stR k0.pl k0.pf c≠2) :
  let kx:=exitK k f.c k0.os.length x y b2 7 t'
  f.c∈ownOf kx.pl kx.pf pid∧stR kx.pl kx.pf f.c=2∧(∀ q∈ownOf kx.pl kx.pf pid,stR kx.pl kx.pf q=2→q=f.c)∧(kx.pf b2).code=7:=by
 obtain ⟨c1,c24,hn,_⟩:=hfc
 have hbn:b2=f.nb:=by
  rw [hg.pl] at hb
  have hb':mget (k0.pl ++ [(f.c,f.nb)]) f.c=some b2:=hb
  rw [mget_snoc hn,if_pos rfl] at hb'
  exact (Option.some.inj hb').symm
 subst hbn
 have hpr:RunsIn k0.pl k0.pf pid:=(hok0.run pid).2 (by rw [hm0.own]; rfl)
 obtain ⟨bp,hbp,_⟩:=hpr.at_
 have hne:pid≠f.c:=fun e => by rw [e,hn] at hbp; cases hbp
 intro kx
 have epl:kx.pl=k0.pl ++ [(f.c,f.nb)]:=by show k.pl=_; rw [hg.pl]; rfl
 have hpf:∀ d,kx.pf d=reparent f.c (updPr k.pf f.nb (deadP (k.pf f.nb) 7) d):=fun d => rfl
 have hk1:k.pf f.nb=⟨pid,1,0,0,(k0.pf b).ignores⟩:=by rw [hg.pf]; exact updPr_same _ _ _
 have hnew:kx.pf f.nb=⟨pid,2,7,0,(k0.pf b).ignores⟩:=by
  rw [hpf,updPr_same,hk1]
  unfold reparent deadP
  rw [if_neg hne]
 have hget:mget kx.pl f.c=some f.nb:=by rw [epl,mget_snoc hn,if_pos rfl]
 have hst:stR kx.pl kx.pf f.c=2:=by
  unfold stR
  rw [hget]
  show (kx.pf f.nb).state=2
  rw [hnew]
 refine ⟨?_,hst,fun q hq h2 => ?_,by rw [hnew]⟩
 ·unfold ownOf
  refine List.mem_filter.2 ⟨mem_pidsOf.2 (List.mem_map.2 ⟨_,mem_of_mget hget,rfl⟩),?_⟩
  unfold parR
  rw [hget]
  show (!((kx.pf f.nb).parent != pid))=true
  rw [hnew]
  simp
 ·by_cases e:q=f.c
  ·exact e
  ·exfalso
   unfold ownOf at hq
   obtain ⟨hq1,hq2⟩:=List.mem_filter.1 hq
   obtain ⟨d,hd⟩:=mget_of_key (mem_pidsOf.1 hq1)
   have hd0:mget k0.pl q=some d:=by rw [epl,mget_snoc hn,if_neg e] at hd; exact hd
   have hdn:d≠f.nb:=hfb _ (mem_of_mget hd0)
   have hpd:kx.pf d=reparent f.c (k0.pf d):=by
    rw [hpf,updPr_other _ _ hdn,hg.pf]
    show reparent f.c (updPr k0.pf f.nb _ d)=_
    rw [updPr_other _ _ hdn]
   have hpar:(k0.pf d).parent≠f.c:=by
    by_cases e1:q=1
    ·obtain ⟨b1,h1,_,h3⟩:=hok0.kin.one
     rw [e1,h1] at hd0
     cases hd0
     rw [h3]
     omega
    ·intro e2
     have h3:=hok0.kin.par _ (mem_of_mget hd0) e1
     simp only at h3
     rw [e2] at h3
     unfold stR at h3
     rw [hn] at h3
     cases h3
   have hpe:kx.pf d=k0.pf d:=by rw [hpd]; unfold reparent; rw [if_neg hpar]
   refine hdead q ?_ ?_
   ·unfold ownOf
    refine List.mem_filter.2 ⟨mem_pidsOf.2 (List.mem_map.2 ⟨_,mem_of_mget hd0,rfl⟩),?_⟩
    unfold parR at hq2 ⊢
    rw [hd] at hq2
    rw [hd0]
    simp only [Option.elim] at hq2 ⊢
    rw [hpe] at hq2
    exact hq2
   ·unfold stR at h2 ⊢
    rw [hd] at h2
    rw [hd0]
    simp only [Option.elim] at h2 ⊢
    rw [hpe] at h2
    exact h2
end
end
section
open Go.RowKit Go.Lib
section
variable {W w w' w1:World} {a:KA} {k k' k0:KS} {C C':Nat→Nat×Nat} {pid z c:Int} {i j:Nat} {o o':KO} {x:Spc} {y:Nat×PTab} {v:CallV}
theorem krun_new' (t:St) (sp pm tab ob lb b:Nat):KRun 0 (newKS t sp pm tab ob lb b):=⟨Nat.le_refl _,TBnd.root⟩
def NoDead (k:KS) (pid:Int):Prop:=mget k.ow pid=none∨∀ c∈ownOf k.pl k.pf pid,stR k.pl k.pf c≠2
theorem kwait_any (h:KIn W w a k C) (hok:KOk k) (pid:Int) :
    Calls Tryz.prog 32 #[.pointer (some ⟨a.kb,0,none⟩),.int .i64 pid] w (fun e w' => (∃ z:Int,e=.returned (.tuple #[.int .i64 0,.int .i64 0,.iface 36 (.int .i64 z)])∧KIs W w' a k∧NoDead k pid) ∨
      (∃ (c code:Int) (b:Nat),mget k.pl c=some b∧e=.returned (.tuple #[.int .i64 c,.int .i64 code,.nilIface])∧KIs W w' a { k with pl:=mdel k.pl c }∧KOk { k with pl:=mdel k.pl c })):=by
  cases hi:mget k.ow pid with
  | none =>
    refine (kwait_no h hok hi).mono ?_
    rintro e w' ⟨rfl,t⟩
    exact .inl ⟨7,rfl,⟨C,h.still t⟩,.inl hi⟩
  | some i =>
    refine (kwait_yes h hok (pid:=pid) (by rw [hi]; rfl)).mono ?_
    rintro e w' (⟨h0,rfl,hk⟩ | ⟨_,h0,rfl,hk⟩ | ⟨j,c,b,h1,_,h3,h4,rfl,hk,hok'⟩)
    · exact .inl ⟨8,rfl,hk,.inr (fun c hc => by rw [h0] at hc; cases hc)⟩
    · exact .inl ⟨6,rfl,hk,.inr h0⟩
    · exact .inr ⟨c,_,b,h3,rfl,hk,hok'⟩
theorem kfork_any (h:KIn W w a k C) (hok:KOk k) (hlen:k.os.length < 100) (pid:Int) :
    Calls Tryz.prog 14 #[.pointer (some ⟨a.kb,0,none⟩),.int .i64 pid] w (fun e w' => (∃ z:Int,e=.returned (.tuple #[.int .i64 0,.iface 36 (.int .i64 z)])∧KIs W w' a k) ∨
      (∃ (i:Nat) (o:KO) (x:Spc) (y:Nat×PTab) (b:Nat) (f:ForkNew),Mine k pid i o x y∧ForkC k f.c∧(∀ t∈k.pl,t.2≠f.nb)∧k.pl.length < 24∧mget k.pl pid=some b∧e=.returned (.tuple #[.int .i64 f.c,.nilIface])∧KIs W w' a (forkK k pid o x y b f)∧KOk (forkK k pid o x y b f))):=by
  cases hi:mget k.ow pid with
  | none =>
    refine (kfork_no h hok hi).mono ?_
    rintro e w' ⟨rfl,t⟩
    exact .inl ⟨7,rfl,⟨C,h.still t⟩⟩
  | some i =>
    obtain ⟨o,x,y,hm⟩:=h.mine hok hi
    refine (kfork_yes h hok hm hlen).mono ?_
    rintro e w' (⟨_,rfl,hk⟩ | ⟨hl,b,f,hb,hc,hn,rfl,hk,hok'⟩)
    · exact .inl ⟨12,rfl,hk⟩
    · exact .inr ⟨i,o,x,y,b,f,hm,hc,hn,hl,hb,rfl,hk,hok'⟩
theorem runsN_filter (k:KS):runsN k=((k.pl.map (·.1)).filter fun p => decide (stR k.pl k.pf p=1)).length:=by
  unfold runsN cntR pidsOf
  exact ((List.mergeSort_perm _ _).filter _).length_eq
theorem runs_fork (hok:KOk k) {o:KO} {x:Spc} {y:Nat×PTab} {b:Nat} {f:ForkNew} (hc:ForkC k f.c) (hn:∀ t∈k.pl,t.2≠f.nb):runsN (forkK k pid o x y b f)=runsN k+1:=by
  rw [runsN_filter,runsN_filter]
  have hst:=stR_fork (l:=k.pl) (f:=k.pf) (p:=⟨pid,1,0,0,(k.pf b).ignores⟩) hc.2.2.1 hn rfl
  show ((List.map (·.1) (k.pl ++ [(f.c,f.nb)])).filter fun p => decide (stR (k.pl ++ [(f.c,f.nb)]) (updPr k.pf f.nb ⟨pid,1,0,0,(k.pf b).ignores⟩) p=1)).length=_
  rw [List.map_append,List.filter_append,List.length_append]
  congr 1
  · congr 1
    refine List.filter_congr (fun p hp => ?_)
    rw [hst]
    obtain ⟨t,ht,rfl⟩:=List.mem_map.1 hp
    rw [if_neg (mget_none_iff.1 hc.2.2.1 t ht)]
  · simp only [List.map_cons,List.map_nil,List.filter_cons,List.filter_nil]
    rw [hst,if_pos rfl]
    rfl
theorem runs_le (hok:KOk k):runsN k≤24:=by
  have h1:=kin_len hok
  have h2:=List.length_filter_le (fun p => decide (stR k.pl k.pf p=1)) (pidsOf k.pl)
  show (List.filter _ _).length≤24
  omega
theorem kernelRounds_many (n0:Int) (al:Option Addr) (n cap:Nat) (p0:Int) (bl:Option Addr) (n2 cap2:Nat) (W:World) (h:40 < n) (hm:n≤9223372036854775807) :
    Calls Tryz.prog 10 #[.int .i64 n0,.slice al n cap,.int .i64 p0,.slice bl n2 cap2] W fun e w' => e=.returned (.bool true)∧Turn (fun _ => False) W w':=by
  have HC:=hid (calls_many al n cap W h hm)
  clear h hm
  go_enter Tryz.func10,Tryz.ntmps10
  go_wp2_with fail
  refine HC.out.mono ?_
  rintro e w1 ⟨rfl,rfl⟩
  go_wp2_with fail
  go_returns
  exact ⟨rfl,Turn.refl _ _⟩
theorem kernelRounds_many2 (n0:Int) (al:Option Addr) (xs:List CallV) (cap:Nat) (p0:Int) (bl:Option Addr) (n2 cap2:Nat) (W:World) (hl:xs.length≤40) (hc:CallsIn W al xs) (h:40 < n2) (hm:n2≤9223372036854775807) :
    Calls Tryz.prog 10 #[.int .i64 n0,.slice al xs.length cap,.int .i64 p0,.slice bl n2 cap2] W fun e w' => e=.returned (.bool true)∧Turn (fun _ => False) W w':=by
  have HCs:=hid (calls_is al xs cap W hl hc)
  have HC:=hid (fun w' => calls_many bl n2 cap2 w' h hm)
  obtain ⟨n,hn⟩:∃ n,xs.length=n:=⟨_,rfl⟩
  rw [hn] at hl HCs ⊢
  clear h hm hn hc
  go_enter Tryz.func10,Tryz.ntmps10
  go_wp2_with fail
  refine HCs.out.mono ?_
  rintro e w1 ⟨r,rfl,t1,hsh⟩
  have HT1:=hid t1
  clear t1 hsh
  cases r with
  | false =>
    go_wp2_with fail
    go_returns
    exact ⟨rfl,HT1.out⟩
  | true =>
    go_wp2_with fail
    refine (HC.out _).mono ?_
    rintro e w2 ⟨rfl,hw⟩; subst w2
    go_wp2_with fail
    go_returns
    exact ⟨rfl,HT1.out⟩
theorem kernelRounds_few (n0:Int) (al:Option Addr) (xs:List CallV) (cap:Nat) (p0:Int) (bl2:Option Addr) (ys:List CallV) (cap3:Nat) (W:World) (hL:Laid W) (hT:Tab W) (hl:xs.length≤40) (hc:CallsIn W al xs) (hi:∀ v∈xs,I64 v.c) (hl2:ys.length≤40) (hc2:CallsIn W bl2 ys) (hi2:∀ v∈ys,I64 v.c) :
    Calls Tryz.prog 10 #[.int .i64 n0,.slice al xs.length cap,.int .i64 p0,.slice bl2 ys.length cap3] W fun e w' => e=.returned (.bool true)∧Turn (fun _ => False) W w':=by
  have HCs:=hid (calls_is al xs cap W hl hc)
  have HCs2:=hid (fun w' (tt:Turn (fun _ => False) W w') => calls_is bl2 ys cap3 w' hl2 (hc2.turned tt))
  have HLd:=hid hL
  have HTb:=hid hT
  have HIv:=hid hi
  have HIv2:=hid hi2
  have HCi:=hid hc
  have HCi2:=hid hc2
  have HPk:=hid (fun (z n:Int) (w':World) (h1:1≤n) (h2:n≤1000000) => pick_any z n w' h1 h2)
  obtain ⟨n,hn⟩:∃ n,xs.length=n:=⟨_,rfl⟩
  obtain ⟨n2,hn2⟩:∃ n,ys.length=n:=⟨_,rfl⟩
  have HN:=hid hn
  have HN2:=hid hn2
  rw [hn] at hl HCs ⊢
  rw [hn2] at hl2 HCs2 ⊢
  clear hn hL hc hT hi hn2 hc2 hi2
  go_enter Tryz.func10,Tryz.ntmps10
  go_wp2_with fail
  refine HCs.out.mono ?_
  rintro e w0 ⟨r,rfl,t0,hsh0⟩
  have HT0:=hid t0
  cases r with
  | false =>
    clear t0 hsh0
    go_wp2_with fail
    go_returns
    exact ⟨rfl,HT0.out⟩
  | true =>
   have HSh:=hid (hsh0 rfl)
   clear t0 hsh0
   go_wp2_with fail
   refine (HCs2.out _ HT0.out).mono ?_
   rintro e w1 ⟨r,rfl,t1,hsh⟩
   have HT1:=hid (HT0.out.trans t1)
   cases r with
   | false =>
    clear t1 hsh
    go_wp2_with fail
    go_returns
    exact ⟨rfl,HT1.out⟩
   | true =>
    have HSh2:=hid (hsh rfl)
    have HKp:=hid (kept_is w1 (HLd.out.turned0 HT1.out))
    clear t1 hsh
    go_wp2_with fail
    refine HKp.out.mono ?_
    rintro e w2 ⟨rfl,t2⟩
    have HT2:=hid (HT1.out.trans t2)
    clear t2
    go_wp2_with fail
    refine (HPk.out n0 60 _ (by decide) (by decide)).mono ?_
    rintro e w4 ⟨rfl,hw⟩; subst w4
    have b0:=pk_nonneg n0 60 (by decide)
    have b1:=pk_lt n0 60 (by decide)
    obtain ⟨fr,hfr⟩:∃ fr:Nat,pk n0 60=fr:=⟨(pk n0 60).toNat,by omega⟩
    rw [hfr] at b0 b1 ⊢
    have hwr:IntKind.i64.wrap (8+(fr:Int))=((8+fr:Nat):Int):=by rw [IntWalk.i64_in _ (by omega)]; omega
    have hnw:=knew_is (8+fr) w2 (by omega) (by omega)
    unfold NewTo at hnw
    have HNw:=hid hnw
    clear b0 hfr hnw
    go_wp2_with fail
    (try rw [hwr])
    refine HNw.out.mono ?_
    rintro e w5 ⟨a,t,sp,pm,tab,ob,lb,b,rfl,ha,hR,hm0,⟨C5,hk5⟩,hok5⟩
    have HI:=hid (show KIn w2 w5 a (newKS t sp pm tab ob lb b) C5∧KOk (newKS t sp pm tab ob lb b)∧KRun 0 (newKS t sp pm tab ob lb b)∧Words (newKS t sp pm tab ob lb b).t.m from ⟨hk5,hok5,krun_new' t sp pm tab ob lb b,fun f g => by rw [show (newKS t sp pm tab ob lb b).t.m f g=0 from hm0 f g]; exact ⟨by decide,by decide⟩⟩)
    have HAn:=hid ha
    clear ha hR hm0 hk5 hok5 HNw
    go_wp2_with fail
    go_loopg [11] (n) (fun gl ix wr => ∃ j:Nat,j+gl=n∧ix=.int .i64 j∧Hid (∃ k C,KIn w2 wr a k C∧KOk k∧KRun j k∧Words k.t.m))
    case atStart => exact ⟨0,by omega,rfl,hid ⟨_,C5,HI.out⟩⟩
    case round =>
      clear HI
      obtain ⟨j,hj,rfl,hS⟩:=hrel
      obtain ⟨k,C,hk,hok,hrun,hwd⟩:=hS.out
      clear hS
      have hTW:Turn (fun _ => False) W wr:=HT2.out.trans hk.turn
      by_cases hlt:j < n
      · have hlt':(j:Int) < n:=by omega
        obtain ⟨v,hv⟩:∃ v,xs[j]?=some v:=⟨_,List.getElem?_eq_getElem (by rw [HN.out]; exact hlt)⟩
        obtain ⟨bl,off,rfl,hat,hbl⟩:=(HCi.out.turned hTW) (fun e => by rw [e] at hv; cases hv)
        obtain ⟨c0,c1,c2,c3,c4,c5,c6⟩:=hat j v hv
        have hsv:=HSh.out v (List.mem_of_getElem? hv)
        have q1:(0:Int)≤(j:Int):=by omega
        have hca:=call_is hk hok (HLd.out.turned0 HT2.out) (hrun.pre (by omega) hsv.1 hsv.2)
        unfold callA AskTo sh1 at hca
        have HCa:=hid hca
        have HX:=hid (show KRun j k∧Words k.t.m from ⟨hrun,hwd⟩)
        have HI64:=hid (HIv.out v (List.mem_of_getElem? hv))
        clear hk hok hrun hwd hTW hat hbl hv hsv hca
        go_wp2_with fail
        refine HCa.out.mono ?_
        rintro e w6 ⟨z,rfl,k',C',hk',hok',hcr⟩
        have HY:=hid (show KIn w2 w6 a k' C'∧KOk k'∧KRun (j+1) k'∧Words k'.t.m from ⟨hk',hok',HX.out.1.next hcr,hcr.words HX.out.2 HI64.out⟩)
        clear hk' hok' hcr HX HCa HI64 c0 c1 c2 c3 c4 c5 c6
        go_wp2_with fail
        go_roundg (gk - 1)
        case measure => omega
        case rel => exact ⟨j+1,by omega,by go_num,hid ⟨k',C',HY.out⟩⟩
      · have hje:j=n:=by omega
        subst hje
        have HK:=hid hk
        have HOk:=hid hok
        have HRun:=hid (show KRun j k∧Words k.t.m from ⟨hrun,hwd⟩)
        have HP:=hid (kpids_row hk hok)
        have HNl:=hid (kin_len hok)
        have HOne:=hid (show 1≤(pidsOf k.pl).length from by
          obtain ⟨b1',h1',_⟩:=hok.kin.one
          rw [len_pids]
          cases hpl:k.pl with
          | nil => rw [hpl] at h1'; cases h1'
          | cons _ _ => simp)
        clear hk hok hrun hwd hTW
        go_wp2_with fail
        refine HP.out.mono ?_
        rintro e w6 ⟨g,cap2,rfl,hI,hg,t6⟩
        have HI6:=hid hI
        have HK6:=hid (HK.out.still t6)
        clear hI hg t6 HK
        obtain ⟨N,hN⟩:∃ N,(pidsOf k.pl).length=N:=⟨_,rfl⟩
        have HNn:=hid hN
        have hN24:1≤N∧N≤24:=by
          have h24:=HNl.out
          have h1:=HOne.out
          rw [hN] at h24 h1
          exact ⟨h1,h24⟩
        rw [hN] at HI6 ⊢
        clear hN
        go_wp2_with fail
        refine (HPk.out p0 N _ (by omega) (by omega)).mono ?_
        rintro e w7 ⟨rfl,hw⟩; subst w7
        have d0:=pk_nonneg p0 N (by omega)
        have d1:=pk_lt p0 N (by omega)
        obtain ⟨pi,hpi⟩:∃ pi:Nat,pk p0 N=pi:=⟨(pk p0 N).toNat,by omega⟩
        rw [hpi] at d0 d1 ⊢
        obtain ⟨pid,hpid⟩:∃ pid,(pidsOf k.pl)[pi]?=some pid:=⟨_,List.getElem?_eq_getElem (by rw [HNn.out]; omega)⟩
        have hI6:=HI6.out
        rw [← HNn.out] at hI6
        have cp:=hI6.cell pi pid hpid
        have hpos:1≤pid:=by
          obtain ⟨t,ht,rfl⟩:=List.mem_map.1 (mem_pidsOf.1 (List.mem_of_getElem? hpid))
          exact (HOk.out.kin.rng t ht).1
        clear hI6 hpi hpid
        have HI7:=hid (show KIn w2 w6 a k C∧KOk k∧KRun j k∧Words k.t.m from ⟨HK6.out,HOk.out,HRun.out⟩)
        have HPos:=hid hpos
        clear HK6 HOk HRun HNn HI6 hpos
        obtain ⟨PL,hPL⟩:∃ PL,k.pl.length=PL:=⟨_,rfl⟩
        have hPLh:=hid hPL
        clear hPL
        go_wp2_with fail
        go_loopg [13,14,15] (PL) (fun gl v13 v14 v15 wr => ∃ g:Nat,g=gl∧Hid (∃ k C,k.pl.length=g∧KIn w2 wr a k C∧KOk k∧KRun j k∧Words k.t.m))
        case atStart => exact ⟨PL,rfl,hid ⟨k,C,hPLh.out,HI7.out⟩⟩
        case round =>
          clear HI7 hPLh
          obtain ⟨g9,hg9,hS⟩:=hrel
          obtain ⟨k,C,hkl,hk,hok,hrun,hwd⟩:=hS.out
          clear hS
          have HWt:=hid (kwait_any hk hok pid)
          have HX:=hid (show k.pl.length=g9∧KOk k∧KRun j k∧Words k.t.m from ⟨hkl,hok,hrun,hwd⟩)
          clear hkl hk hok hrun hwd
          go_wp2_with fail
          refine HWt.out.mono ?_
          rintro e w8 (⟨z,rfl,⟨C8,hk8⟩,hnd⟩ | ⟨c,code,b,hb,rfl,⟨C8,hk8⟩,hok8⟩)
          · have HY:=hid (show KIn w2 w8 a k C8∧KOk k∧KRun j k∧Words k.t.m∧NoDead k pid from ⟨hk8,HX.out.2.1,HX.out.2.2.1,HX.out.2.2.2,hnd⟩)
            have hT8:=HT2.out.trans hk8.turn
            have han:a.n≤1000:=by have:=HAn.out; omega
            have HAn2:=hid han
            have HA0:=hid (fun w' (tt:Turn (fun _ => False) w8 w') => all_is (hk8.still tt) HX.out.2.1 han HX.out.2.2.2 (HTb.out.turned (hT8.trans tt)) (HLd.out.turned0 (hT8.trans tt)) 0)
            obtain ⟨S0,hS0⟩:∃ S,allK a k 0=S:=⟨_,rfl⟩
            rw [hS0] at HA0
            have HS0:=hid hS0
            have HRu:=hid (fun w' (tt:Turn (fun _ => False) w8 w') => runs_is (hk8.still tt) HX.out.2.1)
            obtain ⟨R,hR⟩:∃ R,runsN k=R:=⟨_,rfl⟩
            have hR24:R≤24:=by rw [← hR]; exact runs_le HX.out.2.1
            rw [hR] at HRu
            have HR:=hid hR
            clear hk8 hnd hT8 hS0 hR HX HWt han
            go_wp2_with fail
            refine (HA0.out _ (Turn.refl _ _)).mono ?_
            rintro e w9 ⟨rfl,t9⟩
            have HT9:=hid t9
            clear t9
            go_wp2_with fail
            refine (HRu.out _ HT9.out).mono ?_
            rintro e w10 ⟨rfl,t10⟩
            have HT10:=hid (HT9.out.trans t10)
            clear t10 HT9
            have hkf:=kfork_any (HY.out.1.still HT10.out) HY.out.2.1 (by have:=HY.out.2.2.1.1; omega) pid
            have HKf:=hid hkf
            clear hkf
            go_wp2_with fail
            refine HKf.out.mono ?_
            rintro e w11 (⟨z,rfl,⟨C11,hk11⟩⟩ | ⟨i,o,x,y,b,f,hmi,hfc,hfn,hpl,hbp,rfl,⟨C11,hk11⟩,hok11⟩)
            · have hT11:=HT2.out.trans hk11.turn
              have HA1:=hid (all_is hk11 HY.out.2.1 HAn2.out HY.out.2.2.2.1 (HTb.out.turned hT11) (HLd.out.turned0 hT11) 0)
              have HT11:=hid hT11
              rw [HS0.out] at HA1
              clear hk11 hT11 HA0 HRu HKf
              go_wp2_with fail
              refine HA1.out.mono ?_
              rintro e w12 ⟨rfl,t12⟩
              have HT12:=hid (HT11.out.trans t12)
              clear t12
              go_wp2_with fail
              go_returns
              exact ⟨by simp,HT12.out⟩
            · have hcr:CallR a k ⟨0,pid,0,0,0,ByteArray.empty,ByteArray.empty⟩ 0 (forkK k pid o x y b f):=.inr (.inr ⟨0,i,o,x,y,rfl,hmi,.inr ⟨hpl,rfl,b,f,hbp,hfc,hfn,rfl⟩⟩)
              have HF:=hid (show Mine k pid i o x y∧ForkC k f.c∧(∀ t∈k.pl,t.2≠f.nb)∧runsN (forkK k pid o x y b f)=R+1 from ⟨hmi,hfc,hfn,by rw [runs_fork HY.out.2.1 hfc hfn,HR.out]⟩)
              have HIn:=hid (show KIn w2 w11 a (forkK k pid o x y b f) C11∧KOk (forkK k pid o x y b f)∧KRun (j+1+0) (forkK k pid o x y b f)∧Words (forkK k pid o x y b f).t.m∧Guest (forkK k pid o x y b f) (forkK k pid o x y b f) k.os.length from ⟨hk11,hok11,HY.out.2.2.1.next hcr,HY.out.2.2.2.1,guest_fork HY.out.1 HY.out.2.1⟩)
              clear hcr hmi hfc hfn hpl hbp hk11 hok11 HA0 HRu HKf
              go_wp2_with fail
              go_loopg [19] (n2) (fun gl ix wr => ∃ m:Nat,m+gl=n2∧ix=.int .i64 m∧Hid (∃ k1 C1,KIn w2 wr a k1 C1∧KOk k1∧KRun (j+1+m) k1∧Words k1.t.m∧Guest (forkK k pid o x y b f) k1 k.os.length))
              case atStart => exact ⟨0,by omega,rfl,hid ⟨_,C11,HIn.out⟩⟩
              case round =>
                clear HIn
                obtain ⟨m,hm,rfl,hS⟩:=hrel
                obtain ⟨k1,C1,hk,hok,hrun,hwd,hgs⟩:=hS.out
                clear hS
                by_cases hml:m < n2
                · have hml':(m:Int) < n2:=by omega
                  have hm0:(0:Int)≤(m:Int):=by omega
                  have hTW:Turn (fun _ => False) W wr:=HT2.out.trans hk.turn
                  obtain ⟨v,hv⟩:∃ v,ys[m]?=some v:=⟨_,List.getElem?_eq_getElem (by rw [HN2.out]; exact hml)⟩
                  obtain ⟨bl,off,rfl,hat,hbl⟩:=(HCi2.out.turned hTW) (fun e => by rw [e] at hv; cases hv)
                  obtain ⟨c0,c1,c2,c3,c4,c5,c6⟩:=hat m v hv
                  have hsv:=HSh2.out v (List.mem_of_getElem? hv)
                  have h64:=HIv2.out v (List.mem_of_getElem? hv)
                  obtain ⟨vw,vp,va,vb,vc,vs,vt⟩:=v
                  simp only at c0 c1 c2 c3 c4 c5 c6 hsv h64
                  have HV:=hid (show Short ⟨vw,f.c,va,vb,vc,vs,vt⟩∧I64 vc from ⟨hsv,h64⟩)
                  have HX:=hid (show KIn w2 wr a k1 C1∧KOk k1∧KRun (j+1+m) k1∧Words k1.t.m∧Guest (forkK k pid o x y b f) k1 k.os.length from ⟨hk,hok,hrun,hwd,hgs⟩)
                  clear hk hok hrun hwd hgs hTW hat hbl hv hsv h64
                  by_cases hw:RoundW vw
                  · have HW:=hid hw
                    clear hw
                    go_upto_region 24 with fail
                    go_cut [129] (fun v wx => v=.bool false∧wx=wr.alloc (.cells #[.int .i64 vw,.int .i64 vp,.int .i64 va,.int .i64 vb,.int .i64 vc,.string vs,.string vt] 47))
                    case first =>
                      as_aux_lemma =>
                        obtain ⟨g5,g11,g12,g16⟩:=HW.out
                        have e11:(vw == 11)=false:=by simpa using g11
                        have e12:(vw == 12)=false:=by simpa using g12
                        by_cases h16:16 < vw
                        · by_cases h25:vw=25
                          · subst h25
                            clear g5 g11 g12 g16 e11 e12 h16
                            go_wp2_with fail
                            go_meet
                            exact ⟨rfl,rfl⟩
                          · by_cases h26:vw=26
                            · subst h26
                              clear g5 g11 g12 g16 e11 e12 h16 h25
                              go_wp2_with fail
                              go_meet
                              exact ⟨rfl,rfl⟩
                            · exact absurd ⟨h16,h25,h26⟩ g16
                        · clear g16 g11 g12
                          go_wp2_with fail
                          go_meet
                          exact ⟨rfl,rfl⟩
                    case rest =>
                      obtain ⟨rfl,rfl⟩:=hcut
                      go_upto_region 26 with fail
                      have ta:Turn (fun _ => False) wr (wr.alloc (.cells #[.int .i64 vw,.int .i64 f.c,.int .i64 va,.int .i64 vb,.int .i64 vc,.string vs,.string vt] 47)):=(Turn.refl _ _).alloc _
                      have HD:Hid ((wr.alloc (.cells #[.int .i64 vw,.int .i64 f.c,.int .i64 va,.int .i64 vb,.int .i64 vc,.string vs,.string vt] 47)).cell? ⟨wr.heap.size,0,none⟩=some (.int .i64 vw) ∧
                        (wr.alloc (.cells #[.int .i64 vw,.int .i64 f.c,.int .i64 va,.int .i64 vb,.int .i64 vc,.string vs,.string vt] 47)).cell? ⟨wr.heap.size,1,none⟩=some (.int .i64 f.c) ∧
                        (wr.alloc (.cells #[.int .i64 vw,.int .i64 f.c,.int .i64 va,.int .i64 vb,.int .i64 vc,.string vs,.string vt] 47)).cell? ⟨wr.heap.size,2,none⟩=some (.int .i64 va) ∧
                        (wr.alloc (.cells #[.int .i64 vw,.int .i64 f.c,.int .i64 va,.int .i64 vb,.int .i64 vc,.string vs,.string vt] 47)).cell? ⟨wr.heap.size,3,none⟩=some (.int .i64 vb) ∧
                        (wr.alloc (.cells #[.int .i64 vw,.int .i64 f.c,.int .i64 va,.int .i64 vb,.int .i64 vc,.string vs,.string vt] 47)).cell? ⟨wr.heap.size,4,none⟩=some (.int .i64 vc) ∧
                        (wr.alloc (.cells #[.int .i64 vw,.int .i64 f.c,.int .i64 va,.int .i64 vb,.int .i64 vc,.string vs,.string vt] 47)).cell? ⟨wr.heap.size,5,none⟩=some (.string vs) ∧
                        (wr.alloc (.cells #[.int .i64 vw,.int .i64 f.c,.int .i64 va,.int .i64 vb,.int .i64 vc,.string vs,.string vt] 47)).cell? ⟨wr.heap.size,6,none⟩=some (.string vt)):=hid ⟨by simp,by simp,by simp,by simp,by simp,by simp,by simp⟩
                      obtain ⟨xb,hxb⟩:∃ xb,wr.heap.size=xb:=⟨_,rfl⟩
                      generalize hw8:wr.alloc (.cells #[.int .i64 vw,.int .i64 f.c,.int .i64 va,.int .i64 vb,.int .i64 vc,.string vs,.string vt] 47)=w12 at ta HD ⊢
                      rw [hxb] at HD ⊢
                      clear hw8 hxb
                      obtain ⟨f0,f1,f2,f3,f4,f5,f6⟩:=HD.out
                      have hk12:=HX.out.1.still ta
                      have hca:=call_is (v:=⟨vw,f.c,va,vb,vc,vs,vt⟩) hk12 HX.out.2.1 (HLd.out.turned0 HT2.out) (HX.out.2.2.1.pre (by omega) HV.out.1.1 HV.out.1.2)
                      unfold callA AskTo sh1 at hca
                      have HCa:=hid hca
                      have HK12:=hid hk12
                      clear hk12 hca ta c0 c1 c2 c3 c4 c5 c6
                      go_wp2_with fail
                      refine HCa.out.mono ?_
                      rintro e w13 ⟨z,rfl,k',C',hk',hok',hcr⟩
                      have hR1:runsN k1=R+1:=by
                        rw [← HF.out.2.2.2]
                        unfold runsN cntR
                        rw [HX.out.2.2.2.2.pl,HX.out.2.2.2.2.pf]
                      have how:mget (forkK k pid o x y b f).ow f.c=some k.os.length:=by
                        show mget (k.ow ++ [(f.c,k.os.length)]) f.c=_
                        rw [mget_snoc (HY.out.2.1.no_own HF.out.2.1.2.2.1),if_pos rfl]
                      have hst:=fun hr => HX.out.2.2.2.2.step HK12.out HX.out.2.1 hcr HW.out hr how
                      rw [hR1] at hst
                      have HY2:=hid (show KIn w2 w13 a k' C'∧KOk k'∧KRun (j+1+m+1) k'∧Words k'.t.m from ⟨hk',hok',HX.out.2.2.1.next hcr,hcr.words HX.out.2.2.2.1 HV.out.2⟩)
                      have HRu2:=hid (runs_is hk' hok')
                      have HTf:=hid (HT2.out.trans hk'.turn)
                      have HSt:=hid hst
                      obtain ⟨tz,htz⟩:∃ t,TErr z=t:=⟨_,rfl⟩
                      rw [htz]
                      clear htz hk' hok' hcr hst how hR1 f0 f1 f2 f3 f4 f5 f6 HCa HK12 HD HX
                      obtain ⟨R2,hR2⟩:∃ R,runsN k'=R:=⟨_,rfl⟩
                      rw [hR2] at HRu2 HSt
                      clear hR2
                      have hwr:IntKind.i64.wrap ((R:Int)+1)=(R:Int)+1:=IntWalk.i64_in _ (by omega)
                      by_cases hr:R2=R+1
                      · have hb:((R2:Int) != (R:Int)+1)=false:=by simp [hr]
                        have HG:=hid (HSt.out hr)
                        clear hr HSt
                        go_wp2_with fail
                        refine HRu2.out.mono ?_
                        rintro e w14 ⟨rfl,t14⟩
                        have HT14:=hid t14
                        clear t14
                        go_wp2_with fail
                        go_roundg (gk - 1)
                        case measure => omega
                        case rel => exact ⟨m+1,by omega,by go_num,hid ⟨k',C',HY2.out.1.still HT14.out,HY2.out.2.1,HY2.out.2.2.1,HY2.out.2.2.2,HG.out⟩⟩
                      · have hb:((R2:Int) != (R:Int)+1)=true:=by simp; omega
                        clear hr HSt
                        go_wp2_with fail
                        refine HRu2.out.mono ?_
                        rintro e w14 ⟨rfl,t14⟩
                        have HT14:=hid (HTf.out.trans t14)
                        clear t14
                        go_wp2_with fail
                        go_returns
                        exact ⟨rfl,HT14.out⟩
                  · have hskip:∀ wx,Turn (fun _ => False) wr wx→Hid (∃ k1 C1,KIn w2 wx a k1 C1∧KOk k1∧KRun (j+1+(m+1)) k1∧Words k1.t.m∧Guest (forkK k pid o x y b f) k1 k.os.length):=fun wx t => hid ⟨k1,C1,HX.out.1.still t,HX.out.2.1,HX.out.2.2.1.more (by omega),HX.out.2.2.2⟩
                    have HSk:=hid hskip
                    clear hskip HX
                    by_cases h5:vw < 5
                    · clear hw
                      go_wp2_with fail
                      go_roundg (gk - 1)
                      case measure => omega
                      case rel => exact ⟨m+1,by omega,by go_num,HSk.out _ ((Turn.refl _ _).alloc _)⟩
                    by_cases h11:vw=11
                    · subst h11
                      clear hw h5
                      go_wp2_with fail
                      go_roundg (gk - 1)
                      case measure => omega
                      case rel => exact ⟨m+1,by omega,by go_num,HSk.out _ ((Turn.refl _ _).alloc _)⟩
                    by_cases h12:vw=12
                    · subst h12
                      clear hw h5 h11
                      go_wp2_with fail
                      go_roundg (gk - 1)
                      case measure => omega
                      case rel => exact ⟨m+1,by omega,by go_num,HSk.out _ ((Turn.refl _ _).alloc _)⟩
                    have h16:16 < vw∧vw≠25∧vw≠26:=by
                      by_cases h:16 < vw∧vw≠25∧vw≠26
                      · exact h
                      · exact absurd ⟨h5,h11,h12,h⟩ hw
                    obtain ⟨h16,h25,h26⟩:=h16
                    have e11:(vw == 11)=false:=by simpa using h11
                    have e12:(vw == 12)=false:=by simpa using h12
                    have e25:(vw != 25)=true:=by simpa using h25
                    have e26:(vw != 26)=true:=by simpa using h26
                    clear hw h11 h12 h25 h26
                    go_wp2_with fail
                    go_roundg (gk - 1)
                    case measure => omega
                    case rel => exact ⟨m+1,by omega,by go_num,HSk.out _ ((Turn.refl _ _).alloc _)⟩
                · have how:mget k1.ow f.c=some k.os.length:=by
                    rw [hgs.ow]
                    show mget (k.ow ++ [(f.c,k.os.length)]) f.c=_
                    rw [mget_snoc (HY.out.2.1.no_own HF.out.2.1.2.2.1),if_pos rfl]
                  obtain ⟨o5,x5,y5,hm5⟩:=hk.mine hok how
                  have hpr:RunsIn k.pl k.pf pid:=(HY.out.2.1.run pid).2 (by rw [HF.out.1.own]; rfl)
                  have hne:pid≠f.c:=fun e => by
                    obtain ⟨bp,hbp,_⟩:=hpr.at_
                    rw [e,HF.out.2.1.2.2.1] at hbp; cases hbp
                  have hc1:f.c≠1:=fun e => by
                    obtain ⟨b1,h1,_⟩:=HY.out.2.1.kin.one
                    have h2:=HF.out.2.1.2.2.1
                    rw [e,h1] at h2; cases h2
                  have hex:=kexit_yes hk hok hm5 7
                  unfold ExitTo at hex
                  rw [show exE f.c=0 from if_neg hc1,show VmErr 0=.nilIface from rfl] at hex
                  have HEx:=hid hex
                  have HX:=hid (show KIn w2 wr a k1 C1∧KOk k1∧Words k1.t.m∧Guest (forkK k pid o x y b f) k1 k.os.length∧Mine k1 f.c k.os.length o5 x5 y5∧pid≠f.c from ⟨hk,hok,hwd,hgs,hm5,hne⟩)
                  clear hk hok hrun hwd hgs hm5 hpr hc1 hne how hex
                  go_wp2_with fail
                  refine HEx.out.mono ?_
                  rintro e w12 ⟨rfl,k2,⟨C12,hk12⟩,hok12,hd,_⟩
                  obtain ⟨t',b2,ht,hb2,rfl⟩:=hd rfl
                  have hnd:∀ c∈ownOf k.pl k.pf pid,stR k.pl k.pf c≠2:=by
                    rcases HY.out.2.2.2.2 with h | h
                    · rw [HF.out.1.own] at h; cases h
                    · exact h
                  obtain ⟨g1,g2,g3,g4⟩:=guest_waited (x:=x5) (y:=y5) (t':=t') HY.out.2.1 HF.out.1 HF.out.2.1 HF.out.2.2.1 HX.out.2.2.2.1 hb2 hnd
                  have hwt:=kwait_yes hk12 hok12 (pid:=pid) (by
                    show (mget (mdel k1.ow f.c) pid).isSome=true
                    rw [mdel_get,if_neg HX.out.2.2.2.2.2,HX.out.2.2.2.1.ow]
                    show (mget (k.ow ++ [(f.c,k.os.length)]) pid).isSome=true
                    rw [mget_snoc (HY.out.2.1.no_own HF.out.2.1.2.2.1),if_neg HX.out.2.2.2.2.2,HF.out.1.own]; rfl)
                  unfold WaitTo at hwt
                  have HWt:=hid hwt
                  have HGw:=hid (show _∧_∧_∧_ from ⟨g1,g2,g3,g4⟩)
                  have HB:=hid (show t'.m=k1.t.m∧mget k1.pl f.c=some b2 from ⟨ht,hb2⟩)
                  clear hk12 hok12 hd ht hb2 hnd g1 g2 g3 g4 hwt HEx
                  go_wp2_with fail
                  refine HWt.out.mono ?_
                  rintro e w13 (⟨h0,_⟩ | ⟨_,h0,_⟩ | ⟨jj,c2,b3,h1,_,h3,h4,rfl,⟨C13,hk13⟩,hok13⟩)
                  · have h9:=HGw.out.1
                    rw [h0] at h9; cases h9
                  · exact absurd HGw.out.2.1 (h0 _ HGw.out.1)
                  · have e2:c2=f.c:=HGw.out.2.2.1 c2 (List.mem_of_getElem? h1) (by unfold stR; rw [h3]; exact h4)
                    subst e2
                    have e3:b3=b2:=by
                      have h5:mget k1.pl f.c=some b3:=h3
                      rw [HB.out.2] at h5
                      exact (Option.some.inj h5).symm
                    subst e3
                    rw [HGw.out.2.2.2]
                    have hk14:KIn w2 w13 a (backK k1 f.c k.os.length x5 y5 b3 t') C13:=hk13
                    have hok14:KOk (backK k1 f.c k.os.length x5 y5 b3 t'):=hok13
                    have hall:=guest_back HY.out.1 HY.out.2.1 HF.out.1 HF.out.2.1 HF.out.2.2.1 HX.out.2.2.2.1 HX.out.2.1 HX.out.2.2.2.2.1 HB.out.2 HB.out.1 hk14 hok14
                    have hT13:=HT2.out.trans hk14.turn
                    have HA1:=hid (all_is hk14 hok14 HAn2.out (by rw [show (backK k1 f.c k.os.length x5 y5 b3 t').t.m=k1.t.m from HB.out.1]; exact HX.out.2.2.1) (HTb.out.turned hT13) (HLd.out.turned0 hT13) 0)
                    rw [hall,HS0.out] at HA1
                    have HT13:=hid hT13
                    clear h1 h3 h4 hk13 hok13 hk14 hok14 hall hT13 HWt HGw
                    go_wp2_with fail
                    refine HA1.out.mono ?_
                    rintro e w14 ⟨rfl,t14⟩
                    have HT14:=hid (HT13.out.trans t14)
                    clear t14
                    go_wp2_with fail
                    go_returns
                    exact ⟨by simp,HT14.out⟩
          · have hl:=mdel_length HX.out.2.1.kin.nd hb
            have hl2:=HX.out.1
            have hgg:1≤g9:=by omega
            have HY:=hid (show (mdel k.pl c).length=g9 - 1∧KIn w2 w8 a { k with pl:=mdel k.pl c } C8∧KOk { k with pl:=mdel k.pl c }∧KRun j { k with pl:=mdel k.pl c }∧Words k.t.m from ⟨by omega,hk8,hok8,HX.out.2.2.1,HX.out.2.2.2⟩)
            clear hb hk8 hok8 hl hl2 HX HWt
            go_wp2_with fail
            go_roundg (gk - 1)
            case measure => omega
            case rel => exact ⟨g9 - 1,by omega,hid ⟨{ k with pl:=mdel k.pl c },C8,HY.out⟩⟩
end
end
section
open Go.ChangeShapes Go.WideShapes Go.ChangeAt Go.RowKit
theorem i64_of_wf {z:Int} (h:(Lit.int .i64 z).wf=true):I64 z:=by
 have h3:IntKind.i64.min=-9223372036854775808:=by decide
 have h4:IntKind.i64.max=9223372036854775807:=by decide
 simp [Lit.wf,h3,h4] at h
 exact ⟨by omega,by omega⟩
theorem call_list64 {H:Type} {enc:TypeId×Value→H} {W:World} {fs:Array Field} {b off n:Nat} (h:StructsAt enc Tryz.prog W fs b off n) (hs:fs.size=7) (ht:∀ (j:Nat) (f:Field),fs[j]?=some f→if j < 5 then Tryz.prog.underlying f.type=some (.int .i64) else Tryz.prog.underlying f.type=some .string) :
  ∃ xs:List CallV,xs.length=n∧CallsAt W b off xs∧∀ v∈xs,I64 v.c:=by
 have geti:∀ i j,i < n→j < 5→∃ z:Int,W.cell? ⟨b,off+(i * fs.size+j),none⟩=some (.int .i64 z)∧I64 z:=by
  intro i j hi hj
  have hf:fs[j]?=some (fs[j]'(by omega)):=by simp
  obtain ⟨v,y,m,hc,hd⟩:=h i j _ hi hf
  have h1:=ht j _ hf
  rw [if_pos hj] at h1
  obtain ⟨z,hz,_,hw⟩:=DataW.trod_int h1 hd
  simp only [List.cons.injEq,and_true] at hz
  subst hz
  exact ⟨z,hc,i64_of_wf hw⟩
 have gets:∀ i j,i < n→5≤j∧j < 7→∃ s:ByteArray,W.cell? ⟨b,off+(i * fs.size+j),none⟩=some (.string s):=by
  intro i j hi hj
  have hf:fs[j]?=some (fs[j]'(by omega)):=by simp
  obtain ⟨v,y,m,hc,hd⟩:=h i j _ hi hf
  have h1:=ht j _ hf
  rw [if_neg (by omega)] at h1
  obtain ⟨s,hz,_,hw⟩:=DataW.trod_string h1 hd
  simp only [List.cons.injEq,and_true] at hz
  subst hz
  exact ⟨s,hc⟩
 obtain ⟨g0,h0⟩:=Go.Proofs.YtamleilijmgoeaaGreatDoor.kpick_lt (fun i hi => geti i 0 hi (by omega))
 obtain ⟨g1,h1⟩:=Go.Proofs.YtamleilijmgoeaaGreatDoor.kpick_lt (fun i hi => geti i 1 hi (by omega))
 obtain ⟨g2,h2⟩:=Go.Proofs.YtamleilijmgoeaaGreatDoor.kpick_lt (fun i hi => geti i 2 hi (by omega))
 obtain ⟨g3,h3⟩:=Go.Proofs.YtamleilijmgoeaaGreatDoor.kpick_lt (fun i hi => geti i 3 hi (by omega))
 obtain ⟨g4,h4⟩:=Go.Proofs.YtamleilijmgoeaaGreatDoor.kpick_lt (fun i hi => geti i 4 hi (by omega))
 obtain ⟨g5,h5⟩:=Go.Proofs.YtamleilijmgoeaaGreatDoor.kpick_lt (fun i hi => gets i 5 hi (by omega))
 obtain ⟨g6,h6⟩:=Go.Proofs.YtamleilijmgoeaaGreatDoor.kpick_lt (fun i hi => gets i 6 hi (by omega))
 refine ⟨(List.range n).map fun i => ⟨g0 i,g1 i,g2 i,g3 i,g4 i,g5 i,g6 i⟩,by simp,?_,fun v hv => ?_⟩
 rotate_left
 ·obtain ⟨i,hi,rfl⟩:=List.mem_map.1 hv
  exact (h4 i (List.mem_range.1 hi)).2
 intro j x hx
 have hj:j < n:=by
  have:=(List.getElem?_eq_some_iff.1 hx).1
  simpa using this
 simp only [List.getElem?_map,List.getElem?_range hj,Option.map_some,Option.some.injEq] at hx
 subst hx
 rw [hs] at h0 h1 h2 h3 h4 h5 h6
 exact ⟨(h0 j hj).1,(h1 j hj).1,(h2 j hj).1,(h3 j hj).1,(h4 j hj).1,h5 j hj,h6 j hj⟩
theorem call_open64 {H:Type} {enc:TypeId×Value→H} {W:World} (a:Option Addr) (n:Nat) (fs:Array Field) (hfs:Tryz.prog.underlying 47=some (.struct fs)) (hcase:n=0∨∃ b off,a=some ⟨b,off,none⟩∧b < W.heap.size∧StructsAt enc Tryz.prog W fs b off n):∃ xs:List CallV,xs.length=n∧CallsIn W a xs∧∀ v∈xs,I64 v.c:=by
 have e:=Option.some.inj (hfs.symm.trans Tryz.underlying47)
 injection e with e
 subst e
 rcases hcase with rfl | ⟨b,off,rfl,hb,hst⟩
 ·exact ⟨[],rfl,fun h => absurd rfl h,fun _ h => by cases h⟩
 ·obtain ⟨xs,rfl,hc,h64⟩:=call_list64 hst rfl (fun j f hf => by
   rcases j with _ | _ | _ | _ | _ | _ | _ | j
   ·cases hf; exact Tryz.underlying3
   ·cases hf; exact Tryz.underlying3
   ·cases hf; exact Tryz.underlying3
   ·cases hf; exact Tryz.underlying3
   ·cases hf; exact Tryz.underlying3
   ·cases hf; exact Tryz.underlying9
   ·cases hf; exact Tryz.underlying9
   ·simp at hf)
  exact ⟨xs,rfl,fun _ => ⟨b,off,rfl,hc,hb⟩,h64⟩
end
end Go.Proofs.YtamleilijmgoeaaGreatDoor
