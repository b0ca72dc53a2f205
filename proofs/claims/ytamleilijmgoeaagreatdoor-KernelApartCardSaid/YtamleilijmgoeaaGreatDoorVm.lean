/- Package vm: what a store and a space are in memory; right, there, New, NewStore, Left, Len. Conditions: each theorem's own premises. Package vm: there, Map, Protect. Conditions: each theorem's own premises. Package vm: one space and what others hold: counts of frames, and the store behind one change of it. No walk. Conditions: each theorem's own premises. Package vm: drop: a frame has a page less. Conditions: each theorem's own premises. Package vm: Unmap and Protect. Conditions: each theorem's own premises. Package vm: Protect. Conditions: each theorem's own premises. Package vm: access, Load, Len, Left. Conditions: each theorem's own premises. Package vm: New, NewStore. Conditions: each theorem's own premises. Package vm: Store. Conditions: each theorem's own premises. Package vm: Store, at a page that wants a new frame. Conditions: each theorem's own premises. Package vm: Store at any page; what a use does to a space, told as one. Conditions: each theorem's own premises. Package vm: maps.Clone at pages, Resident, Fork. Conditions: each theorem's own premises. Package vm: Fork. Conditions: each theorem's own premises. Package vm: a store and all its spaces. No walk. Conditions: each theorem's own premises. Package vm: Len. Conditions: each theorem's own premises. -/
import Derived.Test.YtamleilijmgoeaaGreatDoorBuddy
import Derived.Test.YtamleilijmgoeaaGreatDoorBase
import Derived.Deep.LoopGhost
import Derived.Outline
import Derived.Deep.QuietTactic
import Derived.BigQuiet
import Derived.Deep.RegionLaw
import Derived.Deep.RegionWith
import Derived.Handy
import Derived.Deep.DeepCutAuto
import Derived.Deep.CutBlock
import Derived.Shelf.SlMaps.Clone
namespace Go.Proofs.YtamleilijmgoeaaGreatDoor
open Go.RowKit
set_option linter.unusedVariables false
set_option maxHeartbeats 4000000
set_option maxRecDepth 100000
structure SB where
 sb:Nat
 mb:Nat
 wb:Nat
 p:Nat
 pmb:Nat
 rm:Nat
structure St where
 vs:Nat→Value
 fr:Fr
 tk:List Bk
 rl:List (Int×Nat)
 m:Nat→Nat→Int
def encRc (k:Nat):Value:=.int .i64 (k:Int)
structure StoreIs (w:World) (s:SB) (n:Nat) (t:St):Prop where
 c0:w.cell? ⟨s.sb,0,none⟩=some (.pointer (some ⟨s.mb,0,none⟩))
 c1:w.cell? ⟨s.sb,1,none⟩=some (.pointer (some ⟨s.p,0,none⟩))
 c2:w.cell? ⟨s.sb,2,none⟩=some (.map (some s.rm))
 mem:MemIs w s.mb s.wb n t.m
 pool:PoolAt w s.p s.pmb t.vs ⟨(n:Int),t.fr,t.tk⟩
 good:Good n t.fr t.tk
 refs:MapIs w s.rm (.int .i64) encI encRc t.rl
 same:∀ f,mget t.tk f=(mget t.rl f).map fun _ => 0
 pos:∀ f k,mget t.rl f=some k→1≤k∧k≤100000
 ap:∀ k,Foot s.p s.pmb t.vs k→k≠s.sb∧k≠s.rm∧k≠s.mb∧k≠s.wb
 ne:s.sb≠s.rm∧s.sb≠s.mb∧s.sb≠s.wb∧s.rm≠s.mb∧s.rm≠s.wb
def StFoot (s:SB) (vs:Nat→Value) (k:Nat):Prop:=k=s.sb∨k=s.rm∨k=s.mb∨k=s.wb∨Foot s.p s.pmb vs k
def St.R (t:St) (f:Int):Nat:=(mget t.rl f).getD 0
section
variable {w w':World} {s:SB} {n:Nat} {t t':St}
theorem StoreIs.turned {S:Nat→Prop} (h:StoreIs w s n t) (tt:Turn S w w') (hn:∀ k,StFoot s t.vs k→¬ S k):StoreIs w' s n t :=
  { h with
    c0:=(tt.cell (a:=⟨s.sb,0,none⟩) (lt_of_cell h.c0) (hn _ (.inl rfl))).trans h.c0
    c1:=(tt.cell (a:=⟨s.sb,1,none⟩) (lt_of_cell h.c1) (hn _ (.inl rfl))).trans h.c1
    c2:=(tt.cell (a:=⟨s.sb,2,none⟩) (lt_of_cell h.c2) (hn _ (.inl rfl))).trans h.c2
    mem:=h.mem.turned tt (hn _ (.inr (.inr (.inl rfl)))) (hn _ (.inr (.inr (.inr (.inl rfl)))))
    pool:=h.pool.turned tt (fun k hk => hn k (.inr (.inr (.inr (.inr hk)))))
    refs:=h.refs.turned tt (hn _ (.inr (.inl rfl))) }
theorem poolFoot_lt {p mb:Nat} {vs:Nat→Value} {q:Pl} (h:PoolAt w p mb vs q) (k:Nat) (hf:Foot p mb vs k):k < w.heap.size:=by
 rcases hf with rfl | rfl | ⟨j,hj,e⟩
 ·exact h.lt
 ·exact h.mp.lt
 ·rcases (h.fi j hj).shape with ⟨h1,_⟩ | ⟨g,cap,h1,_,_,hg⟩
  ·rw [h1] at e; cases e
  ·rw [h1] at e; cases e; exact hg
theorem StoreIs.foot_lt (h:StoreIs w s n t) (k:Nat) (hk:StFoot s t.vs k):k < w.heap.size:=by
 rcases hk with rfl | rfl | rfl | rfl | hk
 ·exact lt_of_cell h.c0
 ·exact h.refs.lt
 ·exact h.mem.lt_mb
 ·exact h.mem.lt_wb
 ·exact poolFoot_lt h.pool k hk
theorem StoreIs.hn (h:StoreIs w s n t):n≤256:=h.mem.most
theorem StoreIs.keyed (h:StoreIs w s n t) (f:Int):0 < t.R f ↔ mget t.tk f=some 0:=by
 unfold St.R
 rw [h.same f]
 cases hm:mget t.rl f with
 | none => simp
 | some k => simp; exact (h.pos f k hm).1
theorem StoreIs.frame (h:StoreIs w s n t) {f:Int} (hf:0 < t.R f):0≤f∧f < n:=by
 have h1:=h.good.okT (f,0) (mem_of_mget ((h.keyed f).1 hf))
 have h2:=h1.2.2.2
 have h3:sz 0=1:=rfl
 simp only at h2
 rw [h3] at h2
 exact ⟨h1.2.1,by omega⟩
def usedN (R:Int→Nat) (n:Nat):Nat:=cntB (fun f => decide (0 < R (f:Int))) n
theorem ones_sum:∀ {tk:List Bk},(∀ t∈tk,t.2=0)→sumSz tk=tk.length
 | [],_ => rfl
 | t :: tk,h => by
  have h1:=ones_sum (tk:=tk) (fun s hs => h s (List.mem_cons_of_mem _ hs))
  have h2:=h t (List.mem_cons_self ..)
  have e:sumSz (t :: tk)=sz t.2+sumSz tk:=by simp [sumSz]
  have h3:sz 0=1:=rfl
  rw [e,h2,h3,h1,List.length_cons]
  omega
theorem StoreIs.left (h:StoreIs w s n t):leftOf t.fr=(n:Int) - usedN t.R n:=by
 have hnd:(t.tk.map Prod.fst).Nodup:=h.pool.mp.nodup
 have hone:∀ x∈t.tk,x.2=0:=fun x hx => by
  have h2:mget t.tk x.1=some x.2:=mget_mem hnd hx
  rw [h.same] at h2
  cases hm:mget t.rl x.1 with
  | none => rw [hm] at h2; cases h2
  | some k => rw [hm] at h2; exact (Option.some.inj h2).symm
 have hp:(t.tk.map Prod.fst).Perm (((List.range n).filter fun f:Nat => decide (0 < t.R (f:Int))).map fun f:Nat => (f:Int)):=by
  refine (List.perm_ext_iff_of_nodup hnd ?_).2 fun f => ?_
  ·rw [List.Nodup,List.pairwise_map]
   exact ((List.nodup_range (n:=n)).filter _).imp (fun hne e => hne (by omega))
  ·constructor
   ·intro hf
    obtain ⟨x,hx,rfl⟩:=List.mem_map.1 hf
    have h2:mget t.tk x.1=some 0:=by rw [mget_mem hnd hx,hone x hx]
    have h3:=(h.keyed x.1).2 h2
    obtain ⟨h4,h5⟩:=h.frame h3
    refine List.mem_map.2 ⟨x.1.toNat,List.mem_filter.2 ⟨List.mem_range.2 (by omega),?_⟩,by omega⟩
    rw [show ((x.1.toNat:Nat):Int)=x.1 by omega]
    exact decide_eq_true h3
   ·intro hf
    obtain ⟨g,hg,rfl⟩:=List.mem_map.1 hf
    have h3:=of_decide_eq_true (List.mem_filter.1 hg).2
    exact List.mem_map.2 ⟨_,mem_of_mget ((h.keyed _).1 h3),rfl⟩
 have hl:=hp.length_eq
 rw [List.length_map,List.length_map] at hl
 have h1:=h.good.left (by omega)
 rw [h1,ones_sum hone,hl]
 rfl
abbrev Pg:=Int×Int
def encPg (p:Pg):Value:=.agg #[.int .i64 p.1,.int .i64 p.2]
structure SpIs (w:World) (sp pm sb:Nat) (P:Int→Option Pg):Prop where
 c0:w.cell? ⟨sp,0,none⟩=some (.pointer (some ⟨sb,0,none⟩))
 c1:w.cell? ⟨sp,1,none⟩=some (.map (some pm))
 pages:∃ pl:List (Int×Pg),MapIs w pm (.int .i64) encI encPg pl∧∀ i,mget pl i=P i
 ne:sp≠pm
 dom:∀ i p,P i=some p→0≤i∧i < 64
 ok:∀ i p,P i=some p→1≤p.1∧p.1≤3∧-1≤p.2∧p.2 < 256
variable {sp pm sb:Nat} {P P':Int→Option Pg}
theorem SpIs.turned {S:Nat→Prop} (h:SpIs w sp pm sb P) (tt:Turn S w w') (h1:¬ S sp) (h2:¬ S pm):SpIs w' sp pm sb P :=
  { h with
    c0:=(tt.cell (a:=⟨sp,0,none⟩) (lt_of_cell h.c0) h1).trans h.c0
    c1:=(tt.cell (a:=⟨sp,1,none⟩) (lt_of_cell h.c1) h1).trans h.c1
    pages:=let ⟨pl,hp,he⟩:=h.pages; ⟨pl,hp.turned tt h2,he⟩ }
theorem SpIs.lt (h:SpIs w sp pm sb P):sp < w.heap.size∧pm < w.heap.size:=by
 obtain ⟨pl,hp,_⟩:=h.pages
 exact ⟨lt_of_cell h.c0,hp.lt⟩
theorem SpIs.mapped (h:SpIs w sp pm sb P) (tt:Turn (fun k => k=pm) w w') {pl:List (Int×Pg)} (hp:MapIs w' pm (.int .i64) encI encPg pl) (he:∀ i,mget pl i=P' i)
  (hd:∀ i p,P' i=some p→0≤i∧i < 64) (ho:∀ i p,P' i=some p→1≤p.1∧p.1≤3∧-1≤p.2∧p.2 < 256):SpIs w' sp pm sb P' :=
 ⟨(tt.cell (a:=⟨sp,0,none⟩) (lt_of_cell h.c0) h.ne).trans h.c0,(tt.cell (a:=⟨sp,1,none⟩) (lt_of_cell h.c1) h.ne).trans h.c1,⟨pl,hp,he⟩,h.ne,hd,ho⟩
def noPg:Pg:=(0,0)
theorem zeroPg (w:World):(zeroValue 242).run Tryz.prog w=.ok (encPg noPg) w:=by kernel_rfl
theorem look_page (h:SpIs w sp pm sb P) (i:Int):(Instr.lookup 224 (.map (some pm)) (.int .i64 i) false).run Tryz.prog w=.ok (encPg ((P i).getD noPg)) w:=by
 obtain ⟨pl,hp,he⟩:=h.pages
 have h1:=hp.run_lookup keyI Tryz.underlying224 Tryz.underlying3 (zeroPg w) i false
 refine h1.trans ?_
 rw [he]
 cases P i <;> rfl
theorem lookok_page (h:SpIs w sp pm sb P) (i:Int):(Instr.lookup 224 (.map (some pm)) (.int .i64 i) true).run Tryz.prog w=.ok (.tuple #[encPg ((P i).getD noPg),.bool (P i).isSome]) w:=by
 obtain ⟨pl,hp,he⟩:=h.pages
 have h1:=hp.run_lookup keyI Tryz.underlying224 Tryz.underlying3 (zeroPg w) i true
 refine h1.trans ?_
 rw [he]
 cases P i <;> rfl
theorem ret_bool' {a b:Bool} (h:b=a):Ending.returned (.bool a)=.returned (.bool b):=by rw [h]
def RightP (at' k:Int):Prop:=0≤at'∧1≤k∧k≤64∧at'≤64 - k
instance (a k:Int):Decidable (RightP a k):=by unfold RightP; infer_instance
theorem vright_is (at' k:Int) (w:World):Calls Tryz.prog 215 #[.int .i64 at',.int .i64 k] w fun e w' => e=.returned (.bool (decide (RightP at' k)))∧w=w':=by
 by_cases h0:0≤at'
 ·by_cases h1:1≤k
  ·by_cases h2:k≤64
   ·have hw:IntKind.i64.wrap (64 - k)=64 - k:=IntWalk.i64_in _ (by omega)
    by_cases h3:at'≤64 - k
    ·go_enter Tryz.func215,Tryz.ntmps215
     go_wp2_with fail
     go_ret
     exact ⟨ret_bool' (decide_eq_true ⟨h0,h1,h2,h3⟩),rfl⟩
    ·go_enter Tryz.func215,Tryz.ntmps215
     go_wp2_with fail
     go_ret
     exact ⟨ret_bool' (decide_eq_false (by unfold RightP; omega)),rfl⟩
   ·go_enter Tryz.func215,Tryz.ntmps215
    go_wp2_with fail
    go_ret
    exact ⟨ret_bool' (decide_eq_false (by unfold RightP; omega)),rfl⟩
  ·go_enter Tryz.func215,Tryz.ntmps215
   go_wp2_with fail
   go_ret
   exact ⟨ret_bool' (decide_eq_false (by unfold RightP; omega)),rfl⟩
 ·go_enter Tryz.func215,Tryz.ntmps215
  go_wp2_with fail
  go_ret
  exact ⟨ret_bool' (decide_eq_false (by unfold RightP; omega)),rfl⟩
end
section
variable {w w':World} {sp pm sb:Nat} {P P':Int→Option Pg}
def thereN (P:Int→Option Pg) (a:Int) (k:Nat):Nat:=cntB (fun j => (P (a+(j:Int))).isSome) k
theorem there_is (h:SpIs w sp pm sb P) (a:Int) (k:Nat) (h0:0≤a) (hk:a+k≤64) :
  Calls Tryz.prog 216 #[.pointer (some ⟨sp,0,none⟩),.int .i64 a,.int .i64 k] w fun e w' => e=.returned (.int .i64 (thereN P a k))∧Turn (fun _ => False) w w':=by
 have H:=hid h
 have hw0:IntKind.i64.wrap (a+k)=a+k:=IntWalk.i64_in _ (by omega)
 clear h
 go_enter Tryz.func216,Tryz.ntmps216
 go_wp2_with fail
 go_loopg [7,8] k (fun gl c i wr => ∃ j:Nat,j+gl=k∧i=.int .i64 (a+j)∧c=.int .i64 (thereN P a j)∧Hid (Turn (fun _ => False) w wr))
 case atStart => exact ⟨0,by omega,by simp,rfl,hid (Turn.refl _ _)⟩
 case round =>
  obtain ⟨j,hj,rfl,rfl,hT⟩:=hrel
  by_cases hlt:j < k
  ·have hlt':a+j < a+k:=by omega
   have HC:=hid (H.out.turned hT.out id id)
   have c1:=HC.out.c1
   have lk:=lookok_page HC.out (a+j)
   have hs:thereN P a (j+1)=thereN P a j+if (P (a+j)).isSome then 1 else 0:=cntB_succ _ _
   have hle:thereN P a j≤j:=cntB_le _ _
   obtain ⟨N,hN⟩:∃ N,thereN P a j=N:=⟨_,rfl⟩
   obtain ⟨⟨q1,q2⟩,hq⟩:∃ q:Pg,(P (a+j)).getD noPg=q:=⟨_,rfl⟩
   obtain ⟨ok,hok⟩:∃ ok,(P (a+j)).isSome=ok:=⟨_,rfl⟩
   rw [hq,hok] at lk
   rw [hN,hok] at hs
   rw [hN] at hle
   unfold encPg at lk
   have hw1:IntKind.i64.wrap (a+j+1)=a+j+1:=IntWalk.i64_in _ (by omega)
   have hT2:Turn (fun _ => False) w (wr.alloc (.cells #[.int .i64 q1,.int .i64 q2] 242)):=hT.out.alloc _
   have HT2:=hid hT2
   have HS:=hid hs
   clear hq hok hs HC hT2
   rw [hN]
   clear hN
   cases ok with
   | true =>
    go_wp2_with fail
    go_roundg (gk - 1)
    case measure => omega
    case rel => exact ⟨j+1,by omega,by go_num,by rw [HS.out]; go_num,HT2⟩
   | false =>
    go_wp2_with fail
    go_roundg (gk - 1)
    case measure => omega
    case rel => exact ⟨j+1,by omega,by go_num,by rw [HS.out]; rfl,HT2⟩
  ·have hlt':¬ a+j < a+k:=by omega
   obtain rfl:j=k:=by omega
   go_wp2_with fail
   go_ret
   exact ⟨rfl,hT.out⟩
def mapE (P:Int→Option Pg) (a k prot:Int):Int:=if ¬ RightP a k then 2 else if prot < 1∨3 < prot then 1 else if 0 < thereN P a k.toNat then 9 else 0
def mapP (P:Int→Option Pg) (a k prot:Int):Int→Option Pg:=fun i => if a≤i∧i < a+k then some (prot,-1) else P i
theorem mapP_start (P:Int→Option Pg) (a prot:Int):mapP P a 0 prot=P:=by
 funext i
 unfold mapP
 rw [if_neg (by omega)]
theorem mapP_more (P:Int→Option Pg) (a prot:Int) (j:Nat):mapP P a ((j+1:Nat):Int) prot=fun i => if i=a+j then some (prot,-1) else mapP P a j prot i:=by
 funext i
 unfold mapP
 by_cases h:i=a+j
 ·rw [if_pos h,if_pos (by omega)]
 ·rw [if_neg h]
  by_cases h2:a≤i∧i < a+j
  ·rw [if_pos h2,if_pos (by omega)]
  ·rw [if_neg h2,if_neg (by omega)]
def VmErr (z:Int):Value:=if z=0 then .nilIface else .iface 36 (.int .i64 z)
theorem SpIs.put (h:SpIs w sp pm sb P) (tt:Turn (fun k => k=pm) w w') {pl:List (Int×Pg)} {i:Int} {q:Pg} (he:∀ i,mget pl i=P i) (hp:MapIs w' pm (.int .i64) encI encPg (mput pl i q)) (hi:0≤i∧i < 64) (hq:1≤q.1∧q.1≤3∧-1≤q.2∧q.2 < 256):SpIs w' sp pm sb (fun j => if j=i then some q else P j):=by
 refine h.mapped tt hp (fun j => ?_) (fun j p hj => ?_) (fun j p hj => ?_)
 ·rw [mget_mput,he]
 ·by_cases e:j=i
  ·rw [e]; exact hi
  ·rw [if_neg e] at hj; exact h.dom j p hj
 ·by_cases e:j=i
  ·rw [if_pos e] at hj; cases hj; exact hq
  ·rw [if_neg e] at hj; exact h.ok j p hj
theorem vmMap_any (h:SpIs w sp pm sb P) (a k prot:Int) :
  Calls Tryz.prog 128 #[.pointer (some ⟨sp,0,none⟩),.int .i64 a,.int .i64 k,.int .i64 prot] w fun e w' => e=.returned (VmErr (mapE P a k prot))∧SpIs w' sp pm sb (if mapE P a k prot=0 then mapP P a k prot else P)∧Turn (fun j => j=pm) w w':=by
 have H:=hid h
 have HR:=hid (vright_is a k w)
 by_cases hr:RightP a k
 ·rw [decide_eq_true hr] at HR
  obtain ⟨r0,r1,r2,r3⟩:=hr
  obtain ⟨k,rfl⟩:∃ n:Nat,k=n:=⟨k.toNat,by omega⟩
  have e1:mapE P a k prot=if prot < 1∨3 < prot then 1 else if 0 < thereN P a k then 9 else 0:=by
   unfold mapE
   rw [if_neg (fun h => h ⟨r0,r1,r2,r3⟩),Int.toNat_natCast]
  by_cases hp:prot < 1∨3 < prot
  ·rw [if_pos hp] at e1
   rw [e1]
   by_cases hp1:prot < 1
   ·clear h hp e1
    go_enter Tryz.func128,Tryz.ntmps128
    go_wp2_with fail
    refine HR.out.mono ?_
    rintro e w1 ⟨rfl,rfl⟩
    go_wp2_with fail
    go_ret
    exact ⟨rfl,H.out,Turn.refl _ _⟩
   ·have hp2:3 < prot:=hp.resolve_left hp1
    clear h hp e1
    go_enter Tryz.func128,Tryz.ntmps128
    go_wp2_with fail
    refine HR.out.mono ?_
    rintro e w1 ⟨rfl,rfl⟩
    go_wp2_with fail
    go_ret
    exact ⟨rfl,H.out,Turn.refl _ _⟩
  ·rw [if_neg hp] at e1
   have hp1:¬ prot < 1:=fun h => hp (.inl h)
   have hp2:¬ 3 < prot:=fun h => hp (.inr h)
   have HTh:=hid (there_is h a k r0 (by omega))
   obtain ⟨T,hT⟩:∃ T,thereN P a k=T:=⟨_,rfl⟩
   rw [hT] at HTh e1
   by_cases ht:0 < T
   ·rw [if_pos ht] at e1
    rw [e1]
    have ht':(0:Int) < T:=by omega
    clear h hp e1 hT
    go_enter Tryz.func128,Tryz.ntmps128
    go_wp2_with fail
    refine HR.out.mono ?_
    rintro e w1 ⟨rfl,rfl⟩
    go_wp2_with fail
    refine HTh.out.mono ?_
    rintro e w1 ⟨rfl,t1⟩
    have HT1:=hid t1
    clear t1
    go_wp2_with fail
    go_ret
    exact ⟨rfl,H.out.turned HT1.out id id,HT1.out.mono fun _ _ h => h.elim⟩
   ·rw [if_neg ht] at e1
    rw [e1]
    have ht':¬ (0:Int) < T:=by omega
    clear h hp e1 hT
    go_enter Tryz.func128,Tryz.ntmps128
    go_wp2_with fail
    refine HR.out.mono ?_
    rintro e w1 ⟨rfl,rfl⟩
    go_wp2_with fail
    refine HTh.out.mono ?_
    rintro e w1 ⟨rfl,t1⟩
    have HT1:=hid t1
    clear t1
    go_wp2_with fail
    go_loopg [32] k (fun gl i wr => ∃ j:Nat,j+gl=k∧i=.int .i64 j∧Hid (SpIs wr sp pm sb (mapP P a j prot))∧Hid (Turn (fun q => q=pm) w wr))
    case atStart => exact ⟨0,by omega,rfl,hid (by rw [Int.natCast_zero,mapP_start]; exact H.out.turned HT1.out id id),hid (HT1.out.mono fun _ _ h => h.elim)⟩
    case round =>
     obtain ⟨j,hj,rfl,hS,hT⟩:=hrel
     by_cases hlt:j < k
     ·have hlt':(j:Int) < k:=by omega
      have c1:=hS.out.c1
      obtain ⟨pl,hpl,he⟩:=hS.out.pages
      have HPl:=hid hpl
      have HE:=hid he
      have hw1:IntKind.i64.wrap (a+j)=a+j:=IntWalk.i64_in _ (by omega)
      clear hpl he
      go_wp2_with (at_mapUpdate; refine wpList_mapput rfl _ _ _ 224 3 242 rfl Tryz.underlying224 Tryz.underlying3 keyI pm rfl HPl.out (a+j) rfl (prot,-1) rfl ?_; intro w4 hm4 t4; have HM4:=hid hm4; have HT4:=hid t4; clear hm4 t4)
      go_roundg (gk - 1)
      case measure => omega
      case rel =>
       refine ⟨j+1,by omega,by go_num,hid ?_,hid (hT.out.trans HT4.out)⟩
       rw [mapP_more]
       exact hS.out.put HT4.out HE.out HM4.out ⟨by omega,by omega⟩ ⟨by simp only; omega,by simp only; omega,by simp only; omega,by simp only; omega⟩
     ·have hlt':¬ (j:Int) < k:=by omega
      obtain rfl:j=k:=by omega
      go_wp2_with fail
      go_ret
      exact ⟨rfl,hS.out,hT.out⟩
 ·rw [decide_eq_false hr] at HR
  have e1:mapE P a k prot=2:=by unfold mapE; rw [if_pos hr]
  rw [e1]
  clear h e1
  go_enter Tryz.func128,Tryz.ntmps128
  go_wp2_with fail
  refine HR.out.mono ?_
  rintro e w1 ⟨rfl,rfl⟩
  go_wp2_with fail
  go_ret
  exact ⟨rfl,H.out,Turn.refl _ _⟩
end
def sumN (c:Nat→Nat):Nat→Nat
 | 0 => 0
 | k+1 => sumN c k+c k
theorem sumN_congr {c d:Nat→Nat}:∀ {k:Nat},(∀ i,i < k→c i=d i)→sumN c k=sumN d k
 | 0,_ => rfl
 | k+1,h => by
  show sumN c k+c k=sumN d k+d k
  rw [sumN_congr (fun i hi => h i (by omega)),h k (by omega)]
theorem sumN_upd (c:Nat→Nat) (i x:Nat):∀ k,i < k→sumN (fun j => if j=i then x else c j) k+c i=sumN c k+x
 | 0,h => by omega
 | k+1,h => by
  show sumN (fun j => if j=i then x else c j) k+(if k=i then x else c k)+c i=sumN c k+c k+x
  by_cases e:k=i
  ·subst e
   rw [if_pos rfl,sumN_congr (d:=c) (fun j hj => if_neg (by omega))]
   omega
  ·have h1:=sumN_upd c i x k (by omega)
   rw [if_neg e]
   omega
theorem sumN_le {c d:Nat→Nat}:∀ {k:Nat},(∀ i,i < k→c i≤d i)→sumN c k≤sumN d k
 | 0,_ => Nat.le_refl _
 | k+1,h => Nat.add_le_add (sumN_le fun i hi => h i (by omega)) (h k (by omega))
theorem sumN_add (c d:Nat→Nat):∀ k,sumN (fun i => c i+d i) k=sumN c k+sumN d k
 | 0 => rfl
 | k+1 => by
  show sumN (fun i => c i+d i) k+(c k+d k)=sumN c k+c k+(sumN d k+d k)
  rw [sumN_add c d k]
  omega
theorem sumN_zero:∀ {c:Nat→Nat} {k:Nat},(∀ i,i < k→c i=0)→sumN c k=0
 | _,0,_ => rfl
 | c,k+1,h => by
  show sumN c k+c k=0
  rw [sumN_zero (fun i hi => h i (by omega)),h k (by omega)]
theorem sumN_pos {c:Nat→Nat}:∀ {k i:Nat},i < k→c i≤sumN c k
 | 0,i,h => by omega
 | k+1,i,h => by
  show c i≤sumN c k+c k
  by_cases e:i=k
  ·rw [e]; omega
  ·have:=sumN_pos (c:=c) (k:=k) (i:=i) (by omega); omega
theorem sumN_max {c:Nat→Nat} {m:Nat}:∀ {k:Nat},(∀ i,i < k→c i≤m)→sumN c k≤k * m
 | 0,_ => by simp [sumN]
 | k+1,h => by
  have h1:=sumN_max (c:=c) (m:=m) (k:=k) (fun i hi => h i (by omega))
  have h2:=h k (by omega)
  show sumN c k+c k≤(k+1) * m
  rw [Nat.succ_mul]
  omega
def hasF (o:Option Pg) (f:Int):Nat:=o.elim 0 fun p => if p.2=f then 1 else 0
theorem hasF_le (o:Option Pg) (f:Int):hasF o f≤1:=by
 cases o with
 | none => exact Nat.zero_le _
 | some p => show (if p.2=f then 1 else 0)≤1; split <;> omega
theorem hasF_some {p:Pg} {f:Int}:hasF (some p) f=if p.2=f then 1 else 0:=rfl
def cntF (P:Int→Option Pg) (f:Int):Nat:=sumN (fun i => hasF (P (i:Int)) f) 64
def setP (P:Int→Option Pg) (i:Int) (o:Option Pg):Int→Option Pg:=fun j => if j=i then o else P j
theorem cntF_set (P:Int→Option Pg) (i:Int) (o:Option Pg) (f:Int) (h0:0≤i) (h:i < 64):cntF (setP P i o) f+hasF (P i) f=cntF P f+hasF o f:=by
 have h1:=sumN_upd (fun j => hasF (P (j:Int)) f) i.toNat (hasF o f) 64 (by omega)
 have e:sumN (fun j => hasF (setP P i o (j:Int)) f) 64=sumN (fun j => if j=i.toNat then hasF o f else hasF (P (j:Int)) f) 64:=sumN_congr fun j hj => by
  unfold setP
  by_cases e:(j:Int)=i
  ·rw [if_pos e,if_pos (by omega)]
  ·rw [if_neg e,if_neg (by omega)]
 unfold cntF
 rw [e]
 rw [show ((i.toNat:Nat):Int)=i by omega] at h1
 exact h1
theorem cntF_ge {P:Int→Option Pg} {i:Int} {f:Int} (h0:0≤i) (h:i < 64):hasF (P i) f≤cntF P f:=by
 have:=sumN_pos (c:=fun j => hasF (P (j:Int)) f) (k:=64) (i:=i.toNat) (by omega)
 rw [show ((i.toNat:Nat):Int)=i by omega] at this
 exact this
structure VmOne (w:World) (s:SB) (n:Nat) (t:St) (sp pm:Nat) (P:Int→Option Pg) (O:Int→Nat):Prop where
 store:StoreIs w s n t
 space:SpIs w sp pm s.sb P
 off:¬ StFoot s t.vs sp∧¬ StFoot s t.vs pm
 refs:∀ f,0≤f→t.R f=O f+cntF P f
 one:∀ f,0≤f→cntF P f≤1
def StAfter (s:SB) (n:Nat) (t:St) (w w':World) (t':St):Prop :=
 StoreIs w' s n t'∧Turn (StFoot s t.vs) w w'∧∀ k,StFoot s t'.vs k→StFoot s t.vs k∨w.heap.size≤k
theorem StAfter.trans {s:SB} {n:Nat} {t t1 t2:St} {w w1 w2:World} (h1:StAfter s n t w w1 t1) (h2:StAfter s n t1 w1 w2 t2):StAfter s n t w w2 t2:=by
 obtain ⟨a1,b1,c1⟩:=h1
 obtain ⟨a2,b2,c2⟩:=h2
 refine ⟨a2,b1.trans' b2 (fun k hk hf => ?_),fun k hk => ?_⟩
 ·rcases c1 k hf with h | h
  ·exact h
  ·omega
 ·rcases c2 k hk with h | h
  ·exact c1 k h
  ·exact .inr (Nat.le_trans b1.size h)
theorem StAfter.refl {s:SB} {n:Nat} {t:St} {w:World} (h:StoreIs w s n t):StAfter s n t w w t:=⟨h,Turn.refl _ _,fun _ h => .inl h⟩
section
variable {w w' w1 w2 w3:World} {s:SB} {n:Nat} {t t':St}
theorem StoreIs.recount (h:StoreIs w s n t) {f:Int} {k:Nat} (hm:(mget t.rl f).isSome) (hk:1≤k∧k≤100000) (tt:Turn (fun b => b=s.rm) w w') (hp:MapIs w' s.rm (.int .i64) encI encRc (mput t.rl f k)) :
  StAfter s n t w w' { t with rl:=mput t.rl f k }:=by
 refine ⟨{ h with
  c0:=(tt.cell (a:=⟨s.sb,0,none⟩) (lt_of_cell h.c0) (by exact h.ne.1)).trans h.c0
  c1:=(tt.cell (a:=⟨s.sb,1,none⟩) (lt_of_cell h.c1) (by exact h.ne.1)).trans h.c1
  c2:=(tt.cell (a:=⟨s.sb,2,none⟩) (lt_of_cell h.c2) (by exact h.ne.1)).trans h.c2
  mem:=h.mem.turned tt (fun e => h.ne.2.2.2.1 e.symm) (fun e => h.ne.2.2.2.2 e.symm)
  pool:=h.pool.turned tt (fun k hk e => (h.ap k hk).2.1 e)
  refs:=hp
  same:=fun g => ?_
  pos:=fun g c hg => ?_ },tt.mono (fun j _ e => .inr (.inl e)),fun j hj => .inl hj⟩
 ·rw [h.same g,mget_mput]
  by_cases e:g=f
  ·rw [if_pos e,e]
   obtain ⟨c,hc⟩:=Option.isSome_iff_exists.1 hm
   rw [hc]; rfl
  ·rw [if_neg e]
 ·rw [mget_mput] at hg
  by_cases e:g=f
  ·rw [if_pos e] at hg; cases hg; exact hk
  ·rw [if_neg e] at hg; exact h.pos g c hg
theorem R_put (t:St) (f:Int) (k:Nat):({ t with rl:=mput t.rl f k }:St).R=fun g => if g=f then k else t.R g:=by
 funext g
 unfold St.R
 rw [mget_mput]
 by_cases e:g=f
 ·rw [if_pos e,if_pos e]; rfl
 ·rw [if_neg e,if_neg e]
theorem R_del (t:St) (f:Int) (vs:Nat→Value) (fr:Fr) (tk:List Bk) (k:Nat):(⟨vs,fr,tk,mdel (mput t.rl f k) f,t.m⟩:St).R=fun g => if g=f then 0 else t.R g:=by
 funext g
 unfold St.R
 simp only
 rw [mget_mdel,mget_mput]
 by_cases e:g=f
 ·rw [if_pos e,if_pos e]; rfl
 ·rw [if_neg e,if_neg e,if_neg e]
theorem R_new (t:St) (f:Int) (vs:Nat→Value) (fr:Fr) (tk:List Bk) (m:Nat→Nat→Int):(⟨vs,fr,tk,mput t.rl f 1,m⟩:St).R=fun g => if g=f then 1 else t.R g:=by
 funext g
 unfold St.R
 simp only
 rw [mget_mput]
 by_cases e:g=f
 ·rw [if_pos e,if_pos e]; rfl
 ·rw [if_neg e,if_neg e]
theorem StoreIs.foot_new (h:StoreIs w s n t) {vs2:Nat→Value} (t2:Turn (Foot s.p s.pmb t.vs) w w2) (g2:∀ j,Foot s.p s.pmb vs2 j→Foot s.p s.pmb t.vs j∨w.heap.size≤j) :
  (∀ k,Foot s.p s.pmb vs2 k→k≠s.sb∧k≠s.rm∧k≠s.mb∧k≠s.wb)∧(∀ k,StFoot s vs2 k→StFoot s t.vs k∨w.heap.size≤k):=by
 have l1:=lt_of_cell h.c0
 have l2:=h.refs.lt
 have l3:=h.mem.lt_mb
 have l4:=h.mem.lt_wb
 simp only at l1
 refine ⟨fun k hk => ?_,fun k hk => ?_⟩
 ·rcases g2 k hk with h1 | h1
  ·exact h.ap k h1
  ·exact ⟨by omega,by omega,by omega,by omega⟩
 ·rcases hk with h1 | h1 | h1 | h1 | h1
  ·exact .inl (.inl h1)
  ·exact .inl (.inr (.inl h1))
  ·exact .inl (.inr (.inr (.inl h1)))
  ·exact .inl (.inr (.inr (.inr (.inl h1))))
  ·exact (g2 k h1).imp (fun h => .inr (.inr (.inr (.inr h)))) id
theorem StoreIs.gone (h:StoreIs w s n t) {f:Int} {k0:Nat} {vs2:Nat→Value} {fr':Fr} (tt:Turn (fun b => b=s.rm) w w1) (hp:MapIs w1 s.rm (.int .i64) encI encRc (mdel (mput t.rl f k0) f))
  (hpool:PoolAt w2 s.p s.pmb vs2 ⟨(n:Int),fr',mdel t.tk f⟩) (hg:Good n fr' (mdel t.tk f)) (t2:Turn (Foot s.p s.pmb t.vs) w1 w2) (g2:∀ j,Foot s.p s.pmb vs2 j→Foot s.p s.pmb t.vs j∨w1.heap.size≤j) :
  StAfter s n t w w2 ⟨vs2,fr',mdel t.tk f,mdel (mput t.rl f k0) f,t.m⟩:=by
 have c0:=(tt.cell (a:=⟨s.sb,0,none⟩) (lt_of_cell h.c0) (by exact h.ne.1)).trans h.c0
 have c1:=(tt.cell (a:=⟨s.sb,1,none⟩) (lt_of_cell h.c1) (by exact h.ne.1)).trans h.c1
 have c2:=(tt.cell (a:=⟨s.sb,2,none⟩) (lt_of_cell h.c2) (by exact h.ne.1)).trans h.c2
 have hm1:=h.mem.turned tt (fun e => h.ne.2.2.2.1 e.symm) (fun e => h.ne.2.2.2.2 e.symm)
 have hz:=tt.size
 obtain ⟨f1,f2⟩:=h.foot_new (vs2:=vs2) (w2:=w) (Turn.refl _ _) (fun j hj => (g2 j hj).imp id (fun h => by omega))
 have nsb:¬ Foot s.p s.pmb t.vs s.sb:=fun hf => (h.ap _ hf).1 rfl
 have nrm:¬ Foot s.p s.pmb t.vs s.rm:=fun hf => (h.ap _ hf).2.1 rfl
 have nmb:¬ Foot s.p s.pmb t.vs s.mb:=fun hf => (h.ap _ hf).2.2.1 rfl
 have nwb:¬ Foot s.p s.pmb t.vs s.wb:=fun hf => (h.ap _ hf).2.2.2 rfl
 refine ⟨⟨(t2.cell (a:=⟨s.sb,0,none⟩) (lt_of_cell c0) nsb).trans c0,(t2.cell (a:=⟨s.sb,1,none⟩) (lt_of_cell c1) nsb).trans c1,(t2.cell (a:=⟨s.sb,2,none⟩) (lt_of_cell c2) nsb).trans c2,hm1.turned t2 nmb nwb,hpool,hg,hp.turned t2 nrm,fun g => ?_,fun g c hc => ?_,f1,h.ne⟩,
  Turn.trans' (tt.mono (fun j _ e => .inr (.inl e))) t2 (fun k _ hk => .inr (.inr (.inr (.inr hk)))),fun k hk => ?_⟩
 ·simp only
  rw [mget_mdel,mget_mdel,mget_mput,h.same g]
  by_cases e:g=f
  ·rw [if_pos e,if_pos e]; rfl
  ·rw [if_neg e,if_neg e,if_neg e]
 ·simp only at hc
  rw [mget_mdel,mget_mput] at hc
  by_cases e:g=f
  ·rw [if_pos e] at hc; cases hc
  ·rw [if_neg e,if_neg e] at hc; exact h.pos g c hc
 ·exact f2 k hk
theorem StoreIs.taken (h:StoreIs w s n t) {f:Int} {vs2:Nat→Value} {fr':Fr} (hm:mget t.tk f=none)
  (hpool:PoolAt w1 s.p s.pmb vs2 ⟨(n:Int),fr',mput t.tk f 0⟩) (hg:Good n fr' (mput t.tk f 0)) (t2:Turn (Foot s.p s.pmb t.vs) w w1) (g2:∀ j,Foot s.p s.pmb vs2 j→Foot s.p s.pmb t.vs j∨w.heap.size≤j)
  (tt:Turn (fun b => b=s.rm) w1 w2) (hp:MapIs w2 s.rm (.int .i64) encI encRc (mput t.rl f 1)) :
  StAfter s n t w w2 ⟨vs2,fr',mput t.tk f 0,mput t.rl f 1,t.m⟩:=by
 obtain ⟨f1,f2⟩:=h.foot_new (vs2:=vs2) t2 g2
 have nsb:¬ Foot s.p s.pmb t.vs s.sb:=fun hf => (h.ap _ hf).1 rfl
 have nrm:¬ Foot s.p s.pmb t.vs s.rm:=fun hf => (h.ap _ hf).2.1 rfl
 have nmb:¬ Foot s.p s.pmb t.vs s.mb:=fun hf => (h.ap _ hf).2.2.1 rfl
 have nwb:¬ Foot s.p s.pmb t.vs s.wb:=fun hf => (h.ap _ hf).2.2.2 rfl
 have c0:=(t2.cell (a:=⟨s.sb,0,none⟩) (lt_of_cell h.c0) nsb).trans h.c0
 have c1:=(t2.cell (a:=⟨s.sb,1,none⟩) (lt_of_cell h.c1) nsb).trans h.c1
 have c2:=(t2.cell (a:=⟨s.sb,2,none⟩) (lt_of_cell h.c2) nsb).trans h.c2
 have hm1:=h.mem.turned t2 nmb nwb
 refine ⟨⟨(tt.cell (a:=⟨s.sb,0,none⟩) (lt_of_cell c0) (by exact h.ne.1)).trans c0,(tt.cell (a:=⟨s.sb,1,none⟩) (lt_of_cell c1) (by exact h.ne.1)).trans c1,(tt.cell (a:=⟨s.sb,2,none⟩) (lt_of_cell c2) (by exact h.ne.1)).trans c2,hm1.turned tt (fun e => h.ne.2.2.2.1 e.symm) (fun e => h.ne.2.2.2.2 e.symm),hpool.turned tt (fun k hk e => (f1 k hk).2.1 e),hg,hp,fun g => ?_,fun g c hc => ?_,f1,h.ne⟩,
  Turn.trans' (t2.mono (fun k _ hk => .inr (.inr (.inr (.inr hk))))) tt (fun j _ e => .inr (.inl e)),f2⟩
 ·simp only
  rw [mget_mput,mget_mput,h.same g]
  by_cases e:g=f
  ·rw [if_pos e,if_pos e]; rfl
  ·rw [if_neg e,if_neg e]
 ·simp only at hc
  rw [mget_mput] at hc
  by_cases e:g=f
  ·rw [if_pos e] at hc; cases hc; omega
  ·rw [if_neg e] at hc; exact h.pos g c hc
theorem StoreIs.words (h:StoreIs w s n t) {m':Nat→Nat→Int} (tt:Turn (fun b => b=s.wb) w w') (hm:MemIs w' s.mb s.wb n m'):StAfter s n t w w' { t with m:=m' } :=
 ⟨{ h with
  c0:=(tt.cell (a:=⟨s.sb,0,none⟩) (lt_of_cell h.c0) (by exact h.ne.2.2.1)).trans h.c0
  c1:=(tt.cell (a:=⟨s.sb,1,none⟩) (lt_of_cell h.c1) (by exact h.ne.2.2.1)).trans h.c1
  c2:=(tt.cell (a:=⟨s.sb,2,none⟩) (lt_of_cell h.c2) (by exact h.ne.2.2.1)).trans h.c2
  mem:=hm
  pool:=h.pool.turned tt (fun k hk e => (h.ap k hk).2.2.2 e)
  refs:=h.refs.turned tt (fun e => h.ne.2.2.2.2 e) },tt.mono (fun j _ e => .inr (.inr (.inr (.inl e)))),fun j hj => .inl hj⟩
end
section
variable {w w':World} {s:SB} {n:Nat} {t t':St}
theorem zeroRc (w:World):(zeroValue 3).run Tryz.prog w=.ok (.int .i64 0) w:=by kernel_rfl
theorem look_rc {rm:Nat} {rl:List (Int×Nat)} (h:MapIs w rm (.int .i64) encI encRc rl) (f:Int):(Instr.lookup 53 (.map (some rm)) (.int .i64 f) false).run Tryz.prog w=.ok (.int .i64 (((mget rl f).getD 0:Nat):Int)) w:=by
 have h1:=h.run_lookup keyI Tryz.underlying53 Tryz.underlying3 (zeroRc w) f false
 refine h1.trans ?_
 cases mget rl f <;> rfl
def Dropped (s:SB) (n:Nat) (t:St) (f:Int) (w:World) (e:Ending) (w':World):Prop :=
 e=.returned (.tuple #[])∧∃ t',StAfter s n t w w' t'∧t'.m=t.m∧t'.R=fun g => if g=f then t.R f - 1 else t.R g
theorem vdrop_is (h:StoreIs w s n t) (f:Int) (hf:0 < t.R f):Calls Tryz.prog 168 #[.pointer (some ⟨s.sb,0,none⟩),.int .i64 f] w (Dropped s n t f w):=by
 obtain ⟨j,hj⟩:∃ j,mget t.rl f=some (j+1):=by
  unfold St.R at hf
  cases hm:mget t.rl f with
  | none => rw [hm] at hf; exact absurd hf (Nat.lt_irrefl _)
  | some k => rw [hm] at hf; exact ⟨k - 1,by rw [show k - 1+1=k by have:0 < k:=hf; omega]⟩
 have hR:t.R f=j+1:=by unfold St.R; rw [hj]; rfl
 have hjb:=(h.pos f _ hj).2
 have c1:=h.c1
 have c2:=h.c2
 have lk:=look_rc h.refs f
 rw [hj] at lk
 simp only [Option.getD_some] at lk
 have H:=hid h
 have HJ:=hid hj
 have HR:=hid hR
 have HRf:=hid h.refs
 have n1:=h.ne.1
 have hw1:IntKind.i64.wrap (((j+1:Nat):Int) - 1)=(j:Int):=by rw [IntWalk.i64_in _ (by omega)]; omega
 have hw2:((j+1:Nat):Int) - 1=(j:Int):=by omega
 clear h hj hR hf
 have HM0:Hid (mget t.tk f=some 0):=hid (by rw [H.out.same f,HJ.out]; rfl)
 by_cases h0:j=0
 ·subst h0
  go_enter Tryz.func168,Tryz.ntmps168
  go_wp2_with (first | (at_mapUpdate; refine wpList_mapput rfl _ _ _ 53 3 3 rfl Tryz.underlying53 Tryz.underlying3 keyI s.rm rfl HRf.out f rfl 0 (by first | rfl | go_num) ?_; intro w4 hm4 t4; have HM4:=hid hm4; have HT4:=hid t4; have c22:=(t4.cell (a:=⟨s.sb,2,none⟩) (lt_of_cell c2) n1).trans c2; have c12:=(t4.cell (a:=⟨s.sb,1,none⟩) (lt_of_cell c1) n1).trans c1; have lk2:=look_rc hm4 f; rw [mget_mput,if_pos rfl] at lk2; simp only [Option.getD_some] at lk2; clear hm4 t4 c1 c2 lk) | (at_delete; refine wpList_mapdel rfl _ _ 53 3 3 rfl Tryz.underlying53 Tryz.underlying3 keyI s.rm rfl HM4.out f rfl ?_; intro w5 hm5 t5; have HM5:=hid hm5; have HT5:=hid (HT4.out.trans t5); have c13:=(t5.cell (a:=⟨s.sb,1,none⟩) (lt_of_cell c12) n1).trans c12; clear hm5 t5 c12 c22 lk2))
  have HP5:=H.out.pool.turned HT5.out (fun k hk e => (H.out.ap k hk).2.1 e)
  have HGv:=hid (give_ok HP5 f 0 HM0.out H.out.good (by have:=H.out.hn; simp only; omega))
  clear HP5
  refine HGv.out.mono ?_
  rintro e w6 ⟨rfl,fr2,hg2,vs2,hp2,t2,g2⟩
  have HG2:=hid hg2
  have HP2:=hid hp2
  have HT2:=hid t2
  have Hg2:=hid g2
  clear hg2 hp2 t2 g2 c13 HGv
  go_wp2_with fail
  go_end0
  exact ⟨rfl,_,H.out.gone HT5.out HM5.out HP2.out HG2.out HT2.out Hg2.out,rfl,by rw [R_del,HR.out]⟩
 ·have hb0:((j:Int) == 0)=false:=by simp; omega
  go_enter Tryz.func168,Tryz.ntmps168
  go_wp2_with (at_mapUpdate; refine wpList_mapput rfl _ _ _ 53 3 3 rfl Tryz.underlying53 Tryz.underlying3 keyI s.rm rfl HRf.out f rfl j (by first | rfl | go_num) ?_; intro w4 hm4 t4; have HM4:=hid hm4; have HT4:=hid t4; have c22:=(t4.cell (a:=⟨s.sb,2,none⟩) (lt_of_cell c2) n1).trans c2; have lk2:=look_rc hm4 f; rw [mget_mput,if_pos rfl] at lk2; simp only [Option.getD_some] at lk2; clear hm4 t4 c1 c2 lk)
  go_end0
  exact ⟨rfl,_,H.out.recount (by rw [HJ.out]; rfl) ⟨by omega,by omega⟩ HT4.out HM4.out,rfl,by rw [R_put,HR.out]; rfl⟩
end
def VmAfter (s:SB) (n:Nat) (t:St) (sp pm:Nat) (O:Int→Nat) (w w':World) (P':Int→Option Pg) (t':St):Prop :=
 VmOne w' s n t' sp pm P' O∧Turn (fun j => j=pm∨StFoot s t.vs j) w w'∧∀ k,StFoot s t'.vs k→StFoot s t.vs k∨w.heap.size≤k
section
variable {w w' w1 w2 w3:World} {s:SB} {n:Nat} {t t' t1 t2:St} {sp pm:Nat} {P P' P1 P2:Int→Option Pg} {O:Int→Nat}
theorem VmAfter.trans (h1:VmAfter s n t sp pm O w w1 P1 t1) (h2:VmAfter s n t1 sp pm O w1 w2 P2 t2):VmAfter s n t sp pm O w w2 P2 t2:=by
 obtain ⟨a1,b1,c1⟩:=h1
 obtain ⟨a2,b2,c2⟩:=h2
 refine ⟨a2,b1.trans' b2 (fun k hk hf => ?_),fun k hk => ?_⟩
 ·rcases hf with h | h
  ·exact .inl h
  ·rcases c1 k h with h | h
   ·exact .inr h
   ·omega
 ·rcases c2 k hk with h | h
  ·exact c1 k h
  ·exact .inr (Nat.le_trans b1.size h)
theorem VmOne.turned {S:Nat→Prop} (h:VmOne w s n t sp pm P O) (tt:Turn S w w') (h1:¬ S sp) (h2:¬ S pm) (h3:∀ k,StFoot s t.vs k→¬ S k):VmOne w' s n t sp pm P O :=
 ⟨h.store.turned tt h3,h.space.turned tt h1 h2,h.off,h.refs,h.one⟩
theorem VmOne.same (h:VmOne w s n t sp pm P O) (tt:Turn (fun _ => False) w w'):VmAfter s n t sp pm O w w' P t :=
 ⟨h.turned tt id id (fun _ _ => id),tt.mono (fun _ _ h => h.elim),fun _ h => .inl h⟩
theorem VmOne.ofSp (h:VmOne w s n t sp pm P O) (tt:Turn (fun j => j=pm) w w') (hs:SpIs w' sp pm s.sb P') (hc:∀ f,0≤f→cntF P' f=cntF P f):VmAfter s n t sp pm O w w' P' t :=
 ⟨⟨h.store.turned tt (fun k hk e => h.off.2 (e ▸ hk)),hs,h.off,fun f hf => by rw [hc f hf]; exact h.refs f hf,fun f hf => by rw [hc f hf]; exact h.one f hf⟩,tt.mono (fun _ _ h => .inl h),fun _ h => .inl h⟩
theorem VmOne.step (h:VmOne w s n t sp pm P O) (hA:StAfter s n t w w2 t2) (tt:Turn (fun j => j=pm) w2 w3) {pl:List (Int×Pg)} (hp:MapIs w3 pm (.int .i64) encI encPg pl) (he:∀ i,mget pl i=P' i)
  (hd:∀ i p,P' i=some p→0≤i∧i < 64) (ho:∀ i p,P' i=some p→1≤p.1∧p.1≤3∧-1≤p.2∧p.2 < 256) (hR:∀ f,0≤f→t2.R f=O f+cntF P' f) (h1:∀ f,0≤f→cntF P' f≤1) :
  VmAfter s n t sp pm O w w3 P' t2:=by
 obtain ⟨a1,b1,c1⟩:=hA
 have l1:=h.space.lt
 have hs2:=h.space.turned b1 h.off.1 h.off.2
 have off2:¬ StFoot s t2.vs sp∧¬ StFoot s t2.vs pm:=⟨fun hf => by
  rcases c1 _ hf with h2 | h2
  ·exact h.off.1 h2
  ·omega,fun hf => by
  rcases c1 _ hf with h2 | h2
  ·exact h.off.2 h2
  ·omega⟩
 refine ⟨⟨a1.turned tt (fun k hk e => off2.2 (e ▸ hk)),hs2.mapped tt hp he hd ho,off2,hR,h1⟩,Turn.trans' (b1.mono (fun _ _ h => .inr h)) tt (fun _ _ h => .inl h),c1⟩
theorem setP_dom (h:SpIs w sp pm s.sb P) {i:Int} {o:Option Pg} (hi:0≤i∧i < 64):∀ j p,setP P i o j=some p→0≤j∧j < 64:=fun j p hj => by
 unfold setP at hj
 by_cases e:j=i
 ·rw [e]; exact hi
 ·rw [if_neg e] at hj; exact h.dom j p hj
theorem setP_ok (h:SpIs w sp pm s.sb P) {i:Int} {o:Option Pg} (hq:∀ q,o=some q→1≤q.1∧q.1≤3∧-1≤q.2∧q.2 < 256):∀ j p,setP P i o j=some p→1≤p.1∧p.1≤3∧-1≤p.2∧p.2 < 256:=fun j p hj => by
 unfold setP at hj
 by_cases e:j=i
 ·rw [if_pos e] at hj; exact hq p hj
 ·rw [if_neg e] at hj; exact h.ok j p hj
theorem VmOne.lost (h:VmOne w s n t sp pm P O) {i:Int} {q:Pg} (hi:P i=some q) (hA:StAfter s n t w w2 t2) (hR:t2.R=if 0≤q.2 then (fun g => if g=q.2 then t.R q.2 - 1 else t.R g) else t.R)
  (tt:Turn (fun j => j=pm) w2 w3) {pl:List (Int×Pg)} (hp:MapIs w3 pm (.int .i64) encI encPg (mdel pl i)) (he:∀ i,mget pl i=P i):VmAfter s n t sp pm O w w3 (setP P i none) t2:=by
 have hdom:=h.space.dom i q hi
 have hc:=fun f => cntF_set P i none f hdom.1 hdom.2
 rw [hi] at hc
 refine h.step hA tt hp (fun j => ?_) (setP_dom h.space hdom) (setP_ok h.space (fun q hq => by cases hq)) (fun f hf => ?_) (fun f hf => ?_)
 ·rw [mget_mdel,he]; rfl
 ·have h1:=h.refs f hf
  have h2:=hc f
  rw [hasF_some] at h2
  have h3:hasF none f=0:=rfl
  rw [hR]
  by_cases e:q.2=f
  ·rw [if_pos e] at h2
   subst e
   rw [if_pos hf]
   show (if q.2=q.2 then t.R q.2 - 1 else t.R q.2)=_
   rw [if_pos rfl]
   omega
  ·rw [if_neg e] at h2
   by_cases e2:0≤q.2
   ·rw [if_pos e2]
    show (if f=q.2 then t.R q.2 - 1 else t.R f)=_
    rw [if_neg (fun e3 => e e3.symm)]
    omega
   ·rw [if_neg e2]; omega
 ·have h1:=h.one f hf
  have h2:=hc f
  have h3:hasF none f=0:=rfl
  omega
def unmapE (P:Int→Option Pg) (a k:Int):Int:=if ¬ RightP a k then 2 else if (thereN P a k.toNat:Int) < k then 7 else 0
def unmapP (P:Int→Option Pg) (a k:Int):Int→Option Pg:=fun i => if a≤i∧i < a+k then none else P i
theorem unmapP_start (P:Int→Option Pg) (a:Int):unmapP P a 0=P:=by
 funext i
 unfold unmapP
 rw [if_neg (by omega)]
theorem unmapP_more (P:Int→Option Pg) (a:Int) (j:Nat):unmapP P a ((j+1:Nat):Int)=setP (unmapP P a j) (a+j) none:=by
 funext i
 show (if a≤i∧i < a+((j+1:Nat):Int) then none else P i)=if i=a+j then none else if a≤i∧i < a+j then none else P i
 by_cases h:i=a+j
 ·rw [if_pos h,if_pos (by omega)]
 ·rw [if_neg h]
  by_cases h2:a≤i∧i < a+j
  ·rw [if_pos h2,if_pos (by omega)]
  ·rw [if_neg h2,if_neg (by omega)]
theorem unmapP_at (P:Int→Option Pg) (a:Int) (j:Nat):unmapP P a j (a+j)=P (a+j):=if_neg (by omega)
theorem fldPg (a b:Value) (w:World):(Instr.field 242 (.agg #[a,b]) 1).run Tryz.prog w=.ok b w:=by kernel_rfl
theorem there_all {P:Int→Option Pg} {a:Int} {k:Nat} (h:¬ thereN P a k < k) (j:Nat) (hj:j < k):∃ p,P (a+j)=some p:=by
 have h1:thereN P a k≤k:=cntB_le _ _
 exact Option.isSome_iff_exists.1 (cntB_all (g:=fun j => (P (a+(j:Int))).isSome) (k:=k) (by show thereN P a k=k; omega) j hj)
def Unmapped (s:SB) (n:Nat) (t:St) (sp pm:Nat) (P:Int→Option Pg) (O:Int→Nat) (a k:Int) (w:World) (e:Ending) (w':World):Prop :=
 e=.returned (VmErr (unmapE P a k))∧∃ t',t'.m=t.m∧VmAfter s n t sp pm O w w' (if unmapE P a k=0 then unmapP P a k else P) t'
theorem vmUnmap_any (h:VmOne w s n t sp pm P O) (a k:Int) :
  Calls Tryz.prog 129 #[.pointer (some ⟨sp,0,none⟩),.int .i64 a,.int .i64 k] w (Unmapped s n t sp pm P O a k w):=by
 have H:=hid h
 have HR:=hid (vright_is a k w)
 by_cases hr:RightP a k
 ·rw [decide_eq_true hr] at HR
  obtain ⟨r0,r1,r2,r3⟩:=hr
  obtain ⟨k,rfl⟩:∃ n:Nat,k=n:=⟨k.toNat,by omega⟩
  have e1:unmapE P a k=if (thereN P a k:Int) < k then 7 else 0:=by
   unfold unmapE
   rw [if_neg (fun h => h ⟨r0,r1,r2,r3⟩),Int.toNat_natCast]
  have HTh:=hid (there_is h.space a k r0 (by omega))
  have HAll:=hid (there_all (P:=P) (a:=a) (k:=k))
  obtain ⟨T,hT⟩:∃ T,thereN P a k=T:=⟨_,rfl⟩
  rw [hT] at HTh HAll e1
  unfold Unmapped
  by_cases ht:T < k
  ·have ht':(T:Int) < k:=by omega
   rw [if_pos ht'] at e1
   rw [e1]
   clear h e1 hT
   go_enter Tryz.func129,Tryz.ntmps129
   go_wp2_with fail
   refine HR.out.mono ?_
   rintro e w1 ⟨rfl,rfl⟩
   go_wp2_with fail
   refine HTh.out.mono ?_
   rintro e w1 ⟨rfl,t1⟩
   have HT1:=hid t1
   clear t1
   go_wp2_with fail
   go_ret
   exact ⟨rfl,t,rfl,H.out.same HT1.out⟩
  ·have ht':¬ (T:Int) < k:=by omega
   rw [if_neg ht'] at e1
   rw [e1]
   clear h e1 hT
   go_enter Tryz.func129,Tryz.ntmps129
   go_wp2_with fail
   refine HR.out.mono ?_
   rintro e w1 ⟨rfl,rfl⟩
   go_wp2_with fail
   refine HTh.out.mono ?_
   rintro e w1 ⟨rfl,tt1⟩
   have HT1:=hid tt1
   clear tt1
   go_wp2_with fail
   go_loopg [24] k (fun gl i wr => ∃ (j:Nat) (tj:St),j+gl=k∧i=.int .i64 j∧Hid (tj.m=t.m)∧Hid (VmAfter s n t sp pm O w wr (unmapP P a j) tj))
   case atStart => exact ⟨0,t,by omega,rfl,hid rfl,hid (by rw [Int.natCast_zero,unmapP_start]; exact H.out.same HT1.out)⟩
   case round =>
    obtain ⟨j,tj,hj,rfl,hm,hS⟩:=hrel
    by_cases hlt:j < k
    ·have hlt':(j:Int) < k:=by omega
     obtain ⟨⟨q1,f⟩,hq⟩:=HAll.out ht j hlt
     have hqj:unmapP P a j (a+j)=some (q1,f):=(unmapP_at P a j).trans hq
     have HQ:=hid hqj
     have c0:=hS.out.1.space.c0
     have c1:=hS.out.1.space.c1
     have lk:=look_page hS.out.1.space (a+j)
     rw [hqj] at lk
     simp only [Option.getD_some,encPg] at lk
     obtain ⟨pl,hpl,he⟩:=hS.out.1.space.pages
     have HPl:=hid hpl
     have HE:=hid he
     have hfd:=@fldPg
     have hw1:IntKind.i64.wrap (a+j)=a+j:=IntWalk.i64_in _ (by omega)
     have HMore:=hid (unmapP_more P a j)
     clear hpl he hq hqj
     by_cases hf:0≤f
     ·have hpos:0 < tj.R f:=by
       have h1:=hS.out.1.refs f hf
       have hdm:=hS.out.1.space.dom _ _ HQ.out
       have h2:=cntF_ge (P:=unmapP P a j) (i:=a+j) (f:=f) hdm.1 hdm.2
       rw [HQ.out,hasF_some,if_pos rfl] at h2
       omega
      have HD:=hid (vdrop_is hS.out.1.store f hpos)
      clear hpos
      go_wp2_with fail
      refine HD.out.mono ?_
      rintro e w2 ⟨rfl,t2,hA,hm2,hR2⟩
      have HA:=hid hA
      have HM2:=hid hm2
      have HR2:=hid hR2
      have HPl2:=hid (HPl.out.turned hA.2.1 hS.out.1.off.2)
      have c12:=(hA.2.1.cell (a:=⟨sp,1,none⟩) (lt_of_cell c1) hS.out.1.off.1).trans c1
      clear hA hm2 hR2 c1 lk HD
      go_wp2_with (at_delete; refine wpList_mapdel rfl _ _ 224 3 242 rfl Tryz.underlying224 Tryz.underlying3 keyI pm rfl HPl2.out (a+j) rfl ?_; intro w4 hm4 t4; have HM4:=hid hm4; have HT4:=hid t4; clear hm4 t4)
      go_roundg (gk - 1)
      case measure => omega
      case rel =>
       refine ⟨j+1,t2,by omega,by go_num,hid (HM2.out.trans hm.out),hid ?_⟩
       rw [HMore.out]
       exact hS.out.trans (hS.out.1.lost HQ.out HA.out (by rw [HR2.out,if_pos hf]) HT4.out HM4.out HE.out)
     ·go_wp2_with (at_delete; refine wpList_mapdel rfl _ _ 224 3 242 rfl Tryz.underlying224 Tryz.underlying3 keyI pm rfl HPl.out (a+j) rfl ?_; intro w4 hm4 t4; have HM4:=hid hm4; have HT4:=hid t4; clear hm4 t4)
      go_roundg (gk - 1)
      case measure => omega
      case rel =>
       refine ⟨j+1,tj,by omega,by go_num,hm,hid ?_⟩
       rw [HMore.out]
       exact hS.out.trans (hS.out.1.lost HQ.out (StAfter.refl hS.out.1.store) (by rw [if_neg (by simp only; omega)]) HT4.out HM4.out HE.out)
    ·have hlt':¬ (j:Int) < k:=by omega
     obtain rfl:j=k:=by omega
     go_wp2_with fail
     go_ret
     exact ⟨rfl,tj,hm.out,hS.out⟩
 ·rw [decide_eq_false hr] at HR
  have e1:unmapE P a k=2:=by unfold unmapE; rw [if_pos hr]
  unfold Unmapped
  rw [e1]
  clear h e1
  go_enter Tryz.func129,Tryz.ntmps129
  go_wp2_with fail
  refine HR.out.mono ?_
  rintro e w1 ⟨rfl,rfl⟩
  go_wp2_with fail
  go_ret
  exact ⟨rfl,t,rfl,H.out.same (Turn.refl _ _)⟩
end
section
variable {w w':World} {s:SB} {n:Nat} {t:St} {sp pm:Nat} {P P':Int→Option Pg} {O:Int→Nat}
def protE (P:Int→Option Pg) (a k prot:Int):Int:=if ¬ RightP a k then 2 else if prot < 1∨3 < prot then 1 else if (thereN P a k.toNat:Int) < k then 7 else 0
def protP (P:Int→Option Pg) (a k prot:Int):Int→Option Pg:=fun i => if a≤i∧i < a+k then (P i).map (fun q => (prot,q.2)) else P i
theorem protP_start (P:Int→Option Pg) (a prot:Int):protP P a 0 prot=P:=by
 funext i
 unfold protP
 rw [if_neg (by omega)]
theorem protP_at (P:Int→Option Pg) (a prot:Int) (j:Nat):protP P a j prot (a+j)=P (a+j):=if_neg (by omega)
theorem protP_more (P:Int→Option Pg) (a prot:Int) (j:Nat) {q:Pg} (h:P (a+j)=some q):protP P a ((j+1:Nat):Int) prot=setP (protP P a j prot) (a+j) (some (prot,q.2)):=by
 funext i
 show (if a≤i∧i < a+((j+1:Nat):Int) then (P i).map (fun q => (prot,q.2)) else P i)=if i=a+j then some (prot,q.2) else if a≤i∧i < a+j then (P i).map (fun q => (prot,q.2)) else P i
 by_cases h2:i=a+j
 ·rw [if_pos h2,if_pos (by omega),h2,h]; rfl
 ·rw [if_neg h2]
  by_cases h3:a≤i∧i < a+j
  ·rw [if_pos h3,if_pos (by omega)]
  ·rw [if_neg h3,if_neg (by omega)]
theorem hasF_map (o:Option Pg) (prot f:Int):hasF (o.map fun q => (prot,q.2)) f=hasF o f:=by cases o <;> rfl
theorem cntF_prot (P:Int→Option Pg) (a k prot f:Int):cntF (protP P a k prot) f=cntF P f:=sumN_congr fun i hi => by
 unfold protP
 split
 ·exact hasF_map _ _ _
 ·rfl
def Protected (s:SB) (n:Nat) (t:St) (sp pm:Nat) (P:Int→Option Pg) (O:Int→Nat) (a k prot:Int) (w:World) (e:Ending) (w':World):Prop :=
 e=.returned (VmErr (protE P a k prot))∧VmAfter s n t sp pm O w w' (if protE P a k prot=0 then protP P a k prot else P) t
theorem vmProt_any (h:VmOne w s n t sp pm P O) (a k prot:Int) :
  Calls Tryz.prog 205 #[.pointer (some ⟨sp,0,none⟩),.int .i64 a,.int .i64 k,.int .i64 prot] w (Protected s n t sp pm P O a k prot w):=by
 have H:=hid h
 have HR:=hid (vright_is a k w)
 unfold Protected
 by_cases hr:RightP a k
 ·rw [decide_eq_true hr] at HR
  obtain ⟨r0,r1,r2,r3⟩:=hr
  obtain ⟨k,rfl⟩:∃ n:Nat,k=n:=⟨k.toNat,by omega⟩
  have e1:protE P a k prot=if prot < 1∨3 < prot then 1 else if (thereN P a k:Int) < k then 7 else 0:=by
   unfold protE
   rw [if_neg (fun h => h ⟨r0,r1,r2,r3⟩),Int.toNat_natCast]
  by_cases hp:prot < 1∨3 < prot
  ·rw [if_pos hp] at e1
   rw [e1]
   by_cases hp1:prot < 1
   ·clear h hp e1
    go_enter Tryz.func205,Tryz.ntmps205
    go_wp2_with fail
    refine HR.out.mono ?_
    rintro e w1 ⟨rfl,rfl⟩
    go_wp2_with fail
    go_ret
    exact ⟨rfl,H.out.same (Turn.refl _ _)⟩
   ·have hp2:3 < prot:=hp.resolve_left hp1
    clear h hp e1
    go_enter Tryz.func205,Tryz.ntmps205
    go_wp2_with fail
    refine HR.out.mono ?_
    rintro e w1 ⟨rfl,rfl⟩
    go_wp2_with fail
    go_ret
    exact ⟨rfl,H.out.same (Turn.refl _ _)⟩
  ·rw [if_neg hp] at e1
   have hp1:¬ prot < 1:=fun h => hp (.inl h)
   have hp2:¬ 3 < prot:=fun h => hp (.inr h)
   have HTh:=hid (there_is h.space a k r0 (by omega))
   have HAll:=hid (there_all (P:=P) (a:=a) (k:=k))
   obtain ⟨T,hT⟩:∃ T,thereN P a k=T:=⟨_,rfl⟩
   rw [hT] at HTh e1 HAll
   by_cases ht:T < k
   ·have ht':(T:Int) < k:=by omega
    rw [if_pos ht'] at e1
    rw [e1]
    clear h hp e1 hT
    go_enter Tryz.func205,Tryz.ntmps205
    go_wp2_with fail
    refine HR.out.mono ?_
    rintro e w1 ⟨rfl,rfl⟩
    go_wp2_with fail
    refine HTh.out.mono ?_
    rintro e w1 ⟨rfl,t1⟩
    have HT1:=hid t1
    clear t1
    go_wp2_with fail
    go_ret
    exact ⟨rfl,H.out.same HT1.out⟩
   ·have ht':¬ (T:Int) < k:=by omega
    rw [if_neg ht'] at e1
    rw [e1]
    clear h hp e1 hT
    go_enter Tryz.func205,Tryz.ntmps205
    go_wp2_with fail
    refine HR.out.mono ?_
    rintro e w1 ⟨rfl,rfl⟩
    go_wp2_with fail
    refine HTh.out.mono ?_
    rintro e w1 ⟨rfl,t1⟩
    have HT1:=hid t1
    clear t1
    go_wp2_with fail
    go_loopg [33] k (fun gl i wr => ∃ j:Nat,j+gl=k∧i=.int .i64 j∧Hid (SpIs wr sp pm s.sb (protP P a j prot))∧Hid (Turn (fun q => q=pm) w wr))
    case atStart => exact ⟨0,by omega,rfl,hid (by rw [Int.natCast_zero,protP_start]; exact H.out.space.turned HT1.out id id),hid (HT1.out.mono fun _ _ h => h.elim)⟩
    case round =>
     obtain ⟨j,hj,rfl,hS,hT⟩:=hrel
     by_cases hlt:j < k
     ·have hlt':(j:Int) < k:=by omega
      obtain ⟨⟨q1,f⟩,hq⟩:=HAll.out ht j hlt
      have hqj:protP P a j prot (a+j)=some (q1,f):=(protP_at P a prot j).trans hq
      have HMore:=hid (protP_more P a prot j hq)
      have HQ:=hid hqj
      have c1:=hS.out.c1
      have lk:=look_page (hS.out.turned (S:=fun _ => False) ((Turn.refl _ _).drew) id id) (a+j)
      rw [hqj] at lk
      simp only [Option.getD_some,encPg] at lk
      obtain ⟨pl,hpl,he⟩:=hS.out.pages
      have HE:=hid he
      have hfd:=@fldPg
      have hw1:IntKind.i64.wrap (a+j)=a+j:=IntWalk.i64_in _ (by omega)
      have hpd:MapIs wr.drew pm (.int .i64) encI encPg pl:=hpl.of_heap rfl
      obtain ⟨w3,hrun,hm3,t3⟩:=hpd.run_update (P:=Tryz.prog) keyI Tryz.underlying224 Tryz.underlying3 (a+j) (prot,f)
      have HM3:=hid hm3
      have HT3:Hid (Turn (fun q => q=pm) wr w3):=hid (Turn.trans' ((Turn.refl _ _).drew) t3 (fun _ _ h => h))
      simp only [encI,encPg] at hrun
      clear hpl he hq hqj hpd hm3 t3
      go_wp2_with fail
      go_region
      go_wp2_with fail
      go_roundg (gk - 1)
      case measure => omega
      case rel =>
       refine ⟨j+1,by omega,by go_num,hid ?_,hid (hT.out.trans HT3.out)⟩
       rw [HMore.out]
       exact hS.out.put HT3.out HE.out HM3.out (hS.out.dom _ _ HQ.out) (by have:=hS.out.ok _ _ HQ.out; exact ⟨by simp only; omega,by simp only; omega,this.2.2⟩)
     ·have hlt':¬ (j:Int) < k:=by omega
      obtain rfl:j=k:=by omega
      go_wp2_with fail
      go_ret
      exact ⟨rfl,H.out.ofSp hT.out hS.out (fun f _ => cntF_prot _ _ _ _ _)⟩
 ·rw [decide_eq_false hr] at HR
  have e1:protE P a k prot=2:=by unfold protE; rw [if_pos hr]
  rw [e1]
  clear h e1
  go_enter Tryz.func205,Tryz.ntmps205
  go_wp2_with fail
  refine HR.out.mono ?_
  rintro e w1 ⟨rfl,rfl⟩
  go_wp2_with fail
  go_ret
  exact ⟨rfl,H.out.same (Turn.refl _ _)⟩
end
section
variable {w w':World} {s:SB} {n:Nat} {t:St} {sp pm sb:Nat} {P P':Int→Option Pg} {O:Int→Nat}
def accE (P:Int→Option Pg) (a wd pr:Int):Int:=(P a).elim 7 fun q => if wd < 0∨7 < wd then 2 else if q.1=3 - pr then 13 else 0
theorem and_prot {p pr:Int} (h:1≤p∧p≤3) (h2:1≤pr∧pr≤2):(bits BinOp.and IntKind.i64 p pr == 0)=decide (p=3 - pr):=by
 obtain ⟨h,h'⟩:=h
 obtain ⟨h2,h2'⟩:=h2
 have e1:p=1∨p=2∨p=3:=by omega
 have e2:pr=1∨pr=2:=by omega
 rcases e1 with rfl | rfl | rfl <;> rcases e2 with rfl | rfl <;> decide +kernel
def Accessed (P:Int→Option Pg) (a wd pr:Int) (w:World) (e:Ending) (w':World):Prop :=
 e=.returned (.tuple #[encPg ((P a).getD noPg),VmErr (accE P a wd pr)])∧Turn (fun _ => False) w w'
theorem access_is (h:SpIs w sp pm sb P) (a wd pr:Int) (hpr:1≤pr∧pr≤2) :
  Calls Tryz.prog 164 #[.pointer (some ⟨sp,0,none⟩),.int .i64 a,.int .i64 wd,.int .i64 pr] w (Accessed P a wd pr w):=by
 have hsd:SpIs (w.alloc (.cells #[.int .i64 0,.int .i64 0] 242)) sp pm sb P:=h.turned ((Turn.refl (fun _ => False) w).alloc _) id id
 have lk:=lookok_page hsd a
 have c1:=hsd.c1
 have hok:=h.ok a
 unfold Accessed accE
 have hlt:=h.lt
 clear h hsd
 cases hP:P a with
 | none =>
  rw [hP] at lk
  simp only [Option.getD_none,Option.isSome_none,encPg,noPg] at lk ⊢
  clear hP hok
  go_enter Tryz.func164,Tryz.ntmps164
  go_wp2_with fail
  all_goals
   go_returns
   exact ⟨by simp [VmErr],((Turn.refl _ _).alloc _).alloc _⟩
 | some q =>
  obtain ⟨q1,f⟩:=q
  rw [hP] at lk
  have hq:=hok _ hP
  simp only at hq
  have hb:=and_prot (p:=q1) (pr:=pr) ⟨hq.1,hq.2.1⟩ hpr
  simp only [Option.getD_some,Option.isSome_some,encPg,Option.elim] at lk ⊢
  clear hP hok
  by_cases h1:wd < 0
  ·rw [if_pos (.inl h1)]
   clear hb
   go_enter Tryz.func164,Tryz.ntmps164
   go_wp2_with fail
   go_returns
   refine ⟨by simp [VmErr],?_⟩
   repeat' (first | exact Turn.refl _ _ | refine Turn.alloc ?_ _ | refine Turn.setCell ?_ _ _ (fun h => by simp at h))
  ·by_cases h2:7 < wd
   ·rw [if_pos (.inr h2)]
    clear hb
    have h2':8≤wd:=h2
    go_enter Tryz.func164,Tryz.ntmps164
    go_wp2_with fail
    go_returns
    refine ⟨by simp [VmErr],?_⟩
    repeat' (first | exact Turn.refl _ _ | refine Turn.alloc ?_ _ | refine Turn.setCell ?_ _ _ (fun h => by simp at h))
   ·rw [if_neg (fun h => h.elim h1 h2)]
    have h2':¬ 8≤wd:=h2
    by_cases h3:q1=3 - pr
    ·rw [if_pos h3]
     rw [decide_eq_true h3] at hb
     clear h3
     go_enter Tryz.func164,Tryz.ntmps164
     go_wp2_with fail
     go_returns
     refine ⟨by simp [VmErr],?_⟩
     repeat' (first | exact Turn.refl _ _ | refine Turn.alloc ?_ _ | refine Turn.setCell ?_ _ _ (fun h => by simp at h))
    ·rw [if_neg h3]
     rw [decide_eq_false h3] at hb
     clear h3
     go_enter Tryz.func164,Tryz.ntmps164
     go_wp2_with fail
     go_returns
     refine ⟨by simp [VmErr],?_⟩
     repeat' (first | exact Turn.refl _ _ | refine Turn.alloc ?_ _ | refine Turn.setCell ?_ _ _ (fun h => by simp at h))
def wordV (m:Nat→Nat→Int) (q:Pg) (wd:Int):Int:=if q.2 < 0 then 0 else m q.2.toNat wd.toNat
def loadV (P:Int→Option Pg) (m:Nat→Nat→Int) (a wd:Int):Int:=if accE P a wd 1=0 then wordV m ((P a).getD noPg) wd else 0
def LoadIs (P:Int→Option Pg) (m:Nat→Nat→Int) (a wd:Int) (w:World) (e:Ending) (w':World):Prop :=
 e=.returned (.tuple #[.int .i64 (loadV P m a wd),VmErr (accE P a wd 1)])∧Turn (fun _ => False) w w'
theorem accE_or (P:Int→Option Pg) (a wd pr:Int):accE P a wd pr=7∧P a=none∨accE P a wd pr=2∨accE P a wd pr=13∨accE P a wd pr=0∧0≤wd∧wd < 8∧∃ q,P a=some q∧q.1≠3 - pr:=by
 unfold accE
 cases hP:P a with
 | none => exact .inl ⟨rfl,rfl⟩
 | some q =>
  simp only [Option.elim]
  by_cases h1:wd < 0∨7 < wd
  ·rw [if_pos h1]; exact .inr (.inl rfl)
  ·rw [if_neg h1]
   by_cases h2:q.1=3 - pr
   ·rw [if_pos h2]; exact .inr (.inr (.inl rfl))
   ·rw [if_neg h2]; exact .inr (.inr (.inr ⟨rfl,by omega,by omega,q,rfl,h2⟩))
theorem vmLoad_err {a wd z q1 f:Int} (HA:Hid (Calls Tryz.prog 164 #[.pointer (some ⟨sp,0,none⟩),.int .i64 a,.int .i64 wd,.int .i64 1] w fun e w' => e=.returned (.tuple #[.agg #[.int .i64 q1,.int .i64 f],.iface 36 (.int .i64 z)])∧Turn (fun _ => False) w w')) :
  Calls Tryz.prog 84 #[.pointer (some ⟨sp,0,none⟩),.int .i64 a,.int .i64 wd] w fun e w' => e=.returned (.tuple #[.int .i64 0,.iface 36 (.int .i64 z)])∧Turn (fun _ => False) w w':=by
 go_enter Tryz.func84,Tryz.ntmps84
 go_wp2_with fail
 refine HA.out.mono ?_
 rintro e w1 ⟨rfl,t1⟩
 have HT1:=hid t1
 clear t1
 go_wp2_with fail
 go_ret2
 exact ⟨rfl,HT1.out.alloc _⟩
theorem vmErr_of {z:Int} (h:z≠0):VmErr z=.iface 36 (.int .i64 z):=if_neg h
theorem vmLoad_is (hs:StoreIs w s n t) (h:SpIs w sp pm s.sb P) (hR:∀ i q,P i=some q→0≤q.2→0 < t.R q.2) (a wd:Int) :
  Calls Tryz.prog 84 #[.pointer (some ⟨sp,0,none⟩),.int .i64 a,.int .i64 wd] w (LoadIs P t.m a wd w):=by
 have HA:=hid (access_is h a wd 1 (by omega))
 unfold Accessed at HA
 unfold LoadIs loadV
 by_cases hz:accE P a wd 1=0
 ·rcases accE_or P a wd 1 with ⟨he,hn⟩ | he | he | ⟨he,h0,h8,⟨q1,f⟩,hq,hq1⟩
  ·omega
  ·omega
  ·omega
  ·rw [he,hq] at HA ⊢
   have HA':Hid (Calls Tryz.prog 164 #[.pointer (some ⟨sp,0,none⟩),.int .i64 a,.int .i64 wd,.int .i64 1] w fun e w' => e=.returned (.tuple #[.agg #[.int .i64 q1,.int .i64 f],.nilIface])∧Turn (fun _ => False) w w'):=HA
   rw [if_pos rfl]
   simp only [Option.getD_some]
   unfold wordV
   simp only
   have HRf:=hid (hR a (q1,f) hq)
   have H:=hid h
   have HS:=hid hs
   clear he hz HA h hs hR hq hq1
   by_cases hf:f < 0
   ·rw [if_pos hf]
    clear H HS HRf
    go_enter Tryz.func84,Tryz.ntmps84
    go_wp2_with fail
    refine HA'.out.mono ?_
    rintro e w1 ⟨rfl,t1⟩
    have HT1:=hid t1
    clear t1
    go_wp2_with fail
    go_ret2
    exact ⟨rfl,HT1.out.alloc _⟩
   ·rw [if_neg hf]
    have hfr:=HS.out.frame (HRf.out (by simp only; omega))
    simp only at hfr
    go_enter Tryz.func84,Tryz.ntmps84
    go_wp2_with fail
    refine HA'.out.mono ?_
    rintro e w1 ⟨rfl,t1⟩
    have T2:=t1.alloc (.cells #[.int .i64 q1,.int .i64 f] 242)
    have hS2:=HS.out.turned T2 (fun _ _ => id)
    have c0:=(H.out.turned T2 id id).c0
    have d0:=hS2.c0
    have HT2:=hid T2
    have HG:=hid (fun k => (get_yes (hS2.mem.turned ((Turn.refl (fun _ => False) _).drewN k) id id) f wd hfr.1 hfr.2 h0 h8).mono fun _ _ ⟨he,hw⟩ => (⟨he,hw.symm⟩:_∧_=(w1.alloc (.cells #[.int .i64 q1,.int .i64 f] 242)).drewN k))
    have e0:(w1.alloc (.cells #[.int .i64 q1,.int .i64 f] 242)).cell? ⟨w1.heap.size,1,none⟩=some (.int .i64 f):=by simp
    clear t1 T2 hS2
    go_wp2_with fail
    go_quiet ((go_at_call 175; with_reducible exact Calls.quiet_of_same (HG.out _)))
    all_goals go_wp2_with fail
    all_goals go_ret2
    all_goals exact ⟨rfl,HT2.out.drewN _⟩
 ·rw [if_neg hz,vmErr_of hz]
  rw [vmErr_of hz] at HA
  generalize (P a).getD noPg=q at HA
  generalize accE P a wd 1=z at HA ⊢
  exact vmLoad_err HA
theorem sum_pages {β:Type} (c:Option β→Nat) (hc:c none=0):∀ (pl:List (Int×β)),MNodup pl→(∀ p∈pl,0≤p.1∧p.1 < 64)→(pl.map fun p => c (some p.2)).sum=sumN (fun i => c (mget pl (i:Int))) 64
 | [],_,_ => by
  rw [sumN_zero (fun i _ => by show c (mget [] _)=0; exact hc)]
  rfl
 | (k,v) :: pl,hn,hd => by
  have hk:=hd (k,v) (List.mem_cons_self ..)
  simp only at hk
  have hn':MNodup pl:=(List.nodup_cons.1 hn).2
  have hnk:mget pl k=none:=mget_none (fun p hp e => (List.nodup_cons.1 hn).1 (List.mem_map.2 ⟨p,hp,e⟩))
  have ih:=sum_pages c hc pl hn' (fun p hp => hd p (List.mem_cons_of_mem _ hp))
  have h1:=sumN_upd (fun i => c (mget pl (i:Int))) k.toNat (c (some v)) 64 (by omega)
  have e:sumN (fun i => c (mget ((k,v) :: pl) (i:Int))) 64=sumN (fun j => if j=k.toNat then c (some v) else c (mget pl (j:Int))) 64:=sumN_congr fun j hj => by
   have h2:mget ((k,v) :: pl) (j:Int)=if k=(j:Int) then some v else mget pl (j:Int):=by
    unfold mget
    rw [List.find?_cons]
    by_cases e:k=(j:Int)
    ·simp [e]
    ·simp [e]
   rw [h2]
   by_cases e:k=(j:Int)
   ·rw [if_pos e,if_pos (by omega)]
   ·rw [if_neg e,if_neg (by omega)]
  rw [e,List.map_cons,List.sum_cons,ih]
  rw [show ((k.toNat:Nat):Int)=k by omega,hnk,hc] at h1
  show c (some v)+_=_
  omega
def lenP (P:Int→Option Pg):Nat:=sumN (fun i => if (P (i:Int)).isSome then 1 else 0) 64
theorem len_pages {pl:List (Int×Pg)} (hn:MNodup pl) (h:SpIs w sp pm sb P) (he:∀ i,mget pl i=P i):pl.length=lenP P:=by
 have h1:=sum_pages (fun o:Option Pg => if o.isSome then 1 else 0) rfl pl hn (fun p hp => h.dom p.1 p.2 (by rw [← he]; exact mget_mem hn hp))
 have h2:(pl.map fun p => if (some p.2).isSome then 1 else 0).sum=pl.length:=by
  clear h1 he hn
  induction pl with
  | nil => rfl
  | cons p pl ih => rw [List.map_cons,List.sum_cons,ih,List.length_cons]; simp; omega
 rw [← h2,h1]
 exact sumN_congr fun i _ => by rw [he]
theorem lenP_le (P:Int→Option Pg):lenP P≤64:=by
 have:=sumN_max (c:=fun i => if (P (i:Int)).isSome then 1 else 0) (m:=1) (k:=64) (fun i _ => by split <;> omega)
 exact this
theorem vmLeft_is (h:StoreIs w s n t):Calls Tryz.prog 79 #[.pointer (some ⟨s.sb,0,none⟩)] w fun e w' => e=.returned (.int .i64 ((n:Int) - usedN t.R n))∧w=w':=by
 have HL:=hid (left_is h.pool (fun k hk => by have:=h.good.len (by have:=h.hn; omega) k hk; show (t.fr k).length≤1000; omega))
 have c1:=h.c1
 have HE:=hid h.left
 clear h
 go_enter Tryz.func79,Tryz.ntmps79
 go_wp2_with fail
 refine HL.out.mono ?_
 rintro e w1 ⟨rfl,rfl⟩
 go_wp2_with fail
 go_ret
 exact ⟨ret_int HE.out,rfl⟩
end
section
variable {w w':World}
def NewStoreIs (n:Nat) (w:World) (e:Ending) (w':World):Prop :=
 ∃ (s:SB) (t:St),e=.returned (.tuple #[.pointer (some ⟨s.sb,0,none⟩),.nilIface])∧StoreIs w' s n t∧(∀ f,t.R f=0)∧(∀ f k,t.m f k=0)∧Turn (fun _ => False) w w'∧∀ k,StFoot s t.vs k→w.heap.size≤k
theorem vmNewStore_is (n:Nat) (w:World) (h1:1≤n) (h2:n≤256):Calls Tryz.prog 46 #[.int .i64 n] w (NewStoreIs n w):=by
 have HN:=hid (new_yes_nat n w h1 h2)
 go_enter Tryz.func46,Tryz.ntmps46
 go_wp2_with fail
 refine HN.out.mono ?_
 rintro e w1 ⟨mb,wb,rfl,hm,g1,g2,t1⟩
 have HM:=hid hm
 have HT1:=hid t1
 have hz1:=t1.size
 clear hm t1 HN
 go_wp2_with fail
 refine (new_any (n:Int) _ (by omega) (by omega)).mono ?_
 rintro e w2 ⟨p,pmb,vs,fr,rfl,hp,hg,t2,hf⟩
 have HP:=hid hp
 have HG:=hid hg
 have HT2:=hid t2
 have HF:=hid hf
 have hz2:=t2.size
 clear hp hg t2 hf
 have hmm:=@run_makeMap Tryz.prog
 go_wp2_with fail
 go_ret2
 have hz:(w2.alloc (.map #[] 0)).heap.size=w2.heap.size+1:=World.size_alloc _ _
 have TT:Turn (fun _ => False) w2 ((w2.alloc (.map #[] 0)).alloc (.cells #[.pointer (some ⟨mb,0,none⟩),.pointer (some ⟨p,0,none⟩),.map (some w2.heap.size)] 213)):=((Turn.refl _ _).alloc _).alloc _
 have hlt:=poolFoot_lt HP.out
 have hmlt:=HM.out.lt_mb
 have hwlt:=HM.out.lt_wb
 refine ⟨⟨w2.heap.size+1,mb,wb,p,pmb,w2.heap.size⟩,⟨vs,fr,[],[],fun _ _ => 0⟩,rfl,⟨?_,?_,?_,(HM.out.turned HT2.out id id).turned TT id id,HP.out.turned TT (fun _ _ => id),HG.out,(MapIs.made w2).turned ((Turn.refl (fun _ => False) _).alloc _) id,fun _ => rfl,fun f k h => (by cases h),fun k hk => ?_,?_⟩,fun _ => rfl,fun _ _ => rfl,(HT1.out.trans HT2.out).trans TT,fun k hk => ?_⟩
 ·rw [← hz]; exact World.cell?_alloc_new _ _ _ _
 ·rw [← hz]; exact World.cell?_alloc_new _ _ _ _
 ·rw [← hz]; exact World.cell?_alloc_new _ _ _ _
 ·have h3:=hlt k hk
  have h4:=HF.out k hk
  exact ⟨by simp only; omega,by simp only; omega,by simp only; omega,by simp only; omega⟩
 ·exact ⟨by simp only; omega,by simp only; omega,by simp only; omega,by simp only; omega,by simp only; omega⟩
 ·rcases hk with hk | hk | hk | hk | hk
  ·rw [hk]; simp only; omega
  ·rw [hk]; simp only; omega
  ·rw [hk]; exact g1
  ·rw [hk]; exact g2
  ·exact Nat.le_trans hz1 (HF.out k hk)
def noP:Int→Option Pg:=fun _ => none
def NewSpaceIs (sb:Nat) (w:World) (e:Ending) (w':World):Prop :=
 ∃ sp pm,e=.returned (.tuple #[.pointer (some ⟨sp,0,none⟩),.nilIface])∧SpIs w' sp pm sb noP∧Turn (fun _ => False) w w'∧w.heap.size≤sp∧w.heap.size≤pm
theorem vmNew_is (sb:Nat) (w:World):Calls Tryz.prog 49 #[.pointer (some ⟨sb,0,none⟩)] w (NewSpaceIs sb w):=by
 have hmm:=@run_makeMap Tryz.prog
 go_enter Tryz.func49,Tryz.ntmps49
 go_wp2_with fail
 go_ret2
 have T1:Turn (fun _ => False) (w.alloc (.map #[] 0)) ((w.alloc (.map #[] 0)).alloc (.cells #[.pointer (some ⟨sb,0,none⟩),.map (some w.heap.size)] 226)):=(Turn.refl _ _).alloc _
 refine ⟨w.heap.size+1,w.heap.size,by simp,⟨by simp,by simp,⟨[],(MapIs.made w).turned T1 id,fun i => rfl⟩,by omega,fun i p h => (by cases h),fun i p h => (by cases h)⟩,((Turn.refl _ _).alloc _).alloc _,by omega,by omega⟩
end
section
variable {w w' w1 w2 w3:World} {s:SB} {n:Nat} {t t1 t2:St} {sp pm sb:Nat} {P P':Int→Option Pg} {O:Int→Nat}
theorem VmOne.stored (h:VmOne w s n t sp pm P O) {m':Nat→Nat→Int} (tt:Turn (fun b => b=s.wb) w w') (hm:MemIs w' s.mb s.wb n m'):VmAfter s n t sp pm O w w' P { t with m:=m' }:=by
 obtain ⟨a1,b1,c1⟩:=h.store.words tt hm
 exact ⟨⟨a1,h.space.turned b1 h.off.1 h.off.2,h.off,h.refs,h.one⟩,b1.mono (fun _ _ h => .inr h),c1⟩
theorem StAfter.also {S:Nat→Prop} (h:StAfter s n t w w1 t1) (tt:Turn S w1 w2) (h1:∀ k,S k→¬ StFoot s t1.vs k) (h2:∀ k,S k→¬ k < w.heap.size):StAfter s n t w w2 t1 :=
 ⟨h.1.turned tt (fun k hk hs => h1 k hs hk),h.2.1.trans' tt (fun k hk hs => absurd hk (h2 k hs)),h.2.2⟩
theorem StAfter.before (h:StAfter s n t w1 w2 t2) (tt:Turn (fun _ => False) w w1):StAfter s n t w w2 t2 :=
 ⟨h.1,(tt.mono (S':=StFoot s t.vs) (fun _ _ h => h.elim)).trans h.2.1,fun k hk => (h.2.2 k hk).imp id (fun h => Nat.le_trans tt.size h)⟩
theorem leftOf_none {fr:Fr} (h:∀ k,0≤k→k < 7→fr k=[]):leftOf fr=0:=by
 unfold leftOf
 rw [h 0 (by omega) (by omega),h 1 (by omega) (by omega),h 2 (by omega) (by omega),h 3 (by omega) (by omega),h 4 (by omega) (by omega),h 5 (by omega) (by omega),h 6 (by omega) (by omega)]
 rfl
theorem store_refs {R R':Int→Nat} {a pr f g:Int} (ha:0≤a∧a < 64) (hP:P a=some (pr,f)) (hr:∀ x,0≤x→R x=O x+cntF P x) (h1:∀ x,0≤x→cntF P x≤1) (hg:0≤g) (hg0:R g=0)
  (hR:R'=fun x => if x=g then 1 else if 0≤f∧x=f then R f - 1 else R x) :
  (∀ x,0≤x→R' x=O x+cntF (setP P a (some (pr,g))) x)∧∀ x,0≤x→cntF (setP P a (some (pr,g))) x≤1:=by
 have hc:∀ x,cntF (setP P a (some (pr,g))) x+(if f=x then 1 else 0)=cntF P x+(if g=x then 1 else 0):=fun x => by
  have:=cntF_set P a (some (pr,g)) x ha.1 ha.2
  rw [hP,hasF_some,hasF_some] at this
  exact this
 have hfg:f≠g:=fun e => by
  have h2:=hr g hg
  have h3:=cntF_ge (P:=P) (i:=a) (f:=g) ha.1 ha.2
  rw [hP,hasF_some,if_pos e] at h3
  omega
 refine ⟨fun x hx => ?_,fun x hx => ?_⟩
 ·have h2:=hc x
  have h3:=hr x hx
  rw [hR]
  show (if x=g then 1 else if 0≤f∧x=f then R f - 1 else R x)=_
  by_cases e:x=g
  ·subst e
   rw [if_pos rfl]
   rw [if_neg hfg,if_pos rfl] at h2
   omega
  ·rw [if_neg e]
   have e':¬ g=x:=fun e2 => e e2.symm
   by_cases e3:x=f
   ·subst e3
    rw [if_pos ⟨hx,rfl⟩]
    rw [if_pos rfl,if_neg e'] at h2
    omega
   ·rw [if_neg (fun e4 => e3 e4.2)]
    have e3':¬ f=x:=fun e2 => e3 e2.symm
    rw [if_neg e3',if_neg e'] at h2
    omega
 ·have h2:=hc x
  have h3:=h1 x hx
  by_cases e:x=g
  ·subst e
   have h4:=hr x hx
   rw [if_neg hfg,if_pos rfl] at h2
   omega
  ·have e':¬ g=x:=fun e2 => e e2.symm
   rw [if_neg e'] at h2
   omega
def StoredOwn (s:SB) (n:Nat) (t:St) (sp pm:Nat) (P:Int→Option Pg) (O:Int→Nat) (a wd v:Int) (q:Pg) (w:World) (e:Ending) (w':World):Prop :=
 (0≤q.2∧t.R q.2≤1)∧e=.returned .nilIface∧∃ t',t'.R=t.R∧t'.m=memSet t.m q.2.toNat wd.toNat v∧VmAfter s n t sp pm O w w' P t'
def StoredFull (s:SB) (n:Nat) (t:St) (sp pm:Nat) (P:Int→Option Pg) (O:Int→Nat) (q:Pg) (w:World) (e:Ending) (w':World):Prop :=
 ¬ (0≤q.2∧t.R q.2≤1)∧usedN t.R n=n∧e=.returned (VmErr 12)∧VmAfter s n t sp pm O w w' P t
def newM (m:Nat→Nat→Int) (f g wd v:Int):Nat→Nat→Int:=memSet (if f < 0 then memZero m g.toNat else memCopy m g.toNat f.toNat) g.toNat wd.toNat v
def StoredNew (s:SB) (n:Nat) (t:St) (sp pm:Nat) (P:Int→Option Pg) (O:Int→Nat) (a wd v:Int) (q:Pg) (w:World) (e:Ending) (w':World):Prop :=
 ¬ (0≤q.2∧t.R q.2≤1)∧e=.returned .nilIface∧∃ (g:Int) (t':St),0≤g∧g < n∧t.R g=0∧t'.m=newM t.m q.2 g wd v∧VmAfter s n t sp pm O w w' (setP P a (some (q.1,g))) t'
theorem vmStore_err {a wd v z q1 f:Int} (HA:Hid (Calls Tryz.prog 164 #[.pointer (some ⟨sp,0,none⟩),.int .i64 a,.int .i64 wd,.int .i64 2] w fun e w' => e=.returned (.tuple #[.agg #[.int .i64 q1,.int .i64 f],.iface 36 (.int .i64 z)])∧Turn (fun _ => False) w w')) :
  Calls Tryz.prog 80 #[.pointer (some ⟨sp,0,none⟩),.int .i64 a,.int .i64 wd,.int .i64 v] w fun e w' => e=.returned (.iface 36 (.int .i64 z))∧Turn (fun _ => False) w w':=by
 go_enter Tryz.func80,Tryz.ntmps80
 go_wp2_with fail
 refine HA.out.mono ?_
 rintro e w1 ⟨rfl,t1⟩
 have HT1:=hid t1
 clear t1
 go_wp2_with fail
 go_ret
 exact ⟨rfl,HT1.out.alloc _⟩
def AccOk (sp:Nat) (a wd q1 f:Int) (w:World):Prop:=Calls Tryz.prog 164 #[.pointer (some ⟨sp,0,none⟩),.int .i64 a,.int .i64 wd,.int .i64 2] w fun e w' => e=.returned (.tuple #[.agg #[.int .i64 q1,.int .i64 f],.nilIface])∧Turn (fun _ => False) w w'
theorem vmStore_own (h:VmOne w s n t sp pm P O) {a wd v q1 f:Int} (hq:P a=some (q1,f)) (h0:0≤wd) (h8:wd < 8) (HA:AccOk sp a wd q1 f w) (hf:0≤f) (hr:t.R f≤1) :
  Calls Tryz.prog 80 #[.pointer (some ⟨sp,0,none⟩),.int .i64 a,.int .i64 wd,.int .i64 v] w (StoredOwn s n t sp pm P O a wd v (q1,f) w):=by
 have hpos:0 < t.R f:=by
  have h1:=h.refs f hf
  have hd:=h.space.dom _ _ hq
  have h2:=cntF_ge (P:=P) (i:=a) (f:=f) hd.1 hd.2
  rw [hq,hasF_some,if_pos rfl] at h2
  omega
 have hfr:=h.store.frame hpos
 have HRf:Hid (t.R f≤1):=hid hr
 have HF:=hid hf
 have H:=hid h
 have hrv:((mget t.rl f).getD 0:Nat)≤1:=hr
 obtain ⟨rv,hrv2⟩:∃ rv:Nat,(mget t.rl f).getD 0=rv:=⟨_,rfl⟩
 have HA':=hid HA
 unfold AccOk at HA'
 clear h hq HA hpos hr
 go_enter Tryz.func80,Tryz.ntmps80
 go_wp2_with fail
 refine HA'.out.mono ?_
 rintro e w1 ⟨rfl,tt1⟩
 have T2:=tt1.alloc (.cells #[.int .i64 q1,.int .i64 f] 242)
 have e0:(w1.alloc (.cells #[.int .i64 q1,.int .i64 f] 242)).cell? ⟨w1.heap.size,1,none⟩=some (.int .i64 f):=by simp
 have h2:=H.out.turned T2 id id (fun _ _ => id)
 have HT2:=hid T2
 have H2:=hid h2
 clear T2 h2 tt1
 go_wp2_with fail
 generalize w1.alloc (.cells #[.int .i64 q1,.int .i64 f] 242)=W at *
 have h2:=H2.out
 have lk:=fun k => look_rc (h2.store.refs.turned ((Turn.refl (fun _ => False) W).drewN k) id) f
 rw [hrv2] at hrv lk
 have hrv3:decide ((1:Int) < rv)=false:=decide_eq_false (by omega)
 have hfn:decide (f < 0)=false:=decide_eq_false (by omega)
 have c0:=h2.space.c0
 have d0:=h2.store.c0
 have d2:=h2.store.c2
 clear h2 hrv2
 go_quiet (fail)
 all_goals go_wp2_with fail
 have hf2:=hfr.2
 have HSet:=hid (set_yes (H2.out.store.mem.turned (((Turn.refl (fun _ => False) W).drewN nq).drew) id id) f wd v hf hf2 h0 h8)
 go_region_with (go_at_call 169; refine HSet.out.mono ?_; rintro e w3 ⟨rfl,hm3,tt3⟩; have HM3:=hid hm3; have HT3:=hid tt3; clear hm3 tt3)
 all_goals go_wp2_with fail
 all_goals go_ret
 all_goals exact ⟨⟨HF.out,HRf.out⟩,rfl,{ t with m:=memSet t.m f.toNat wd.toNat v },rfl,rfl,(H.out.same (HT2.out.drewN _).drew).trans ((H2.out.turned (((Turn.refl (fun _ => False) W).drewN nq).drew) id id (fun _ _ => id)).stored HT3.out HM3.out)⟩
theorem StAfter.cells (h:VmOne w s n t sp pm P O) (hA:StAfter s n t w w' t1) :
  w'.cell? ⟨sp,0,none⟩=some (.pointer (some ⟨s.sb,0,none⟩))∧w'.cell? ⟨sp,1,none⟩=some (.map (some pm))∧w'.cell? ⟨s.sb,0,none⟩=some (.pointer (some ⟨s.mb,0,none⟩))∧w'.cell? ⟨s.sb,1,none⟩=some (.pointer (some ⟨s.p,0,none⟩))∧w'.cell? ⟨s.sb,2,none⟩=some (.map (some s.rm)) :=
 ⟨(hA.2.1.cell (a:=⟨sp,0,none⟩) (lt_of_cell h.space.c0) h.off.1).trans h.space.c0,(hA.2.1.cell (a:=⟨sp,1,none⟩) (lt_of_cell h.space.c1) h.off.1).trans h.space.c1,hA.1.c0,hA.1.c1,hA.1.c2⟩
theorem StAfter.own (hA:StAfter s n t w w' t1) {c:Nat} (hc:c < w.heap.size) (hn:¬ StFoot s t.vs c):(∀ i,w'.cell? ⟨c,i,none⟩=w.cell? ⟨c,i,none⟩)∧(∀ i,w'.frozen? ⟨c,i,none⟩=w.frozen? ⟨c,i,none⟩)∧¬ StFoot s t1.vs c :=
 ⟨fun i => hA.2.1.cell (a:=⟨c,i,none⟩) hc hn,fun i => hA.2.1.frozen (a:=⟨c,i,none⟩) hc hn,fun hf => (hA.2.2 c hf).elim hn (fun h => by omega)⟩
end
section
variable {w w' w1 w2 w3:World} {s:SB} {n:Nat} {t t1 t2:St} {sp pm sb:Nat} {P P':Int→Option Pg} {O:Int→Nat}
theorem vmStore_new (h:VmOne w s n t sp pm P O) {a wd v q1 f:Int} (hq:P a=some (q1,f)) (h0:0≤wd) (h8:wd < 8) (HA:AccOk sp a wd q1 f w) (hno:¬ (0≤f∧t.R f≤1)) :
    Calls Tryz.prog 80 #[.pointer (some ⟨sp,0,none⟩),.int .i64 a,.int .i64 wd,.int .i64 v] w fun e w' => StoredFull s n t sp pm P O (q1,f) w e w'∨StoredNew s n t sp pm P O a wd v (q1,f) w e w':=by
  have HNo:=hid hno
  have H:=hid h
  have HQ:=hid hq
  have HA':=hid HA
  unfold AccOk at HA'
  clear h hq HA hno
  go_enter Tryz.func80,Tryz.ntmps80
  go_wp2_with fail
  refine HA'.out.mono ?_
  rintro e w1 ⟨rfl,tt1⟩
  have T2:=tt1.alloc (.cells #[.int .i64 q1,.int .i64 f] 242)
  have e0:(w1.alloc (.cells #[.int .i64 q1,.int .i64 f] 242)).cell? ⟨w1.heap.size,1,none⟩=some (.int .i64 f):=by simp
  have e1:(w1.alloc (.cells #[.int .i64 q1,.int .i64 f] 242)).cell? ⟨w1.heap.size,0,none⟩=some (.int .i64 q1):=by simp
  have e2:(w1.alloc (.cells #[.int .i64 q1,.int .i64 f] 242)).frozen? ⟨w1.heap.size,1,none⟩=false:=by simp
  have hWs:(w1.alloc (.cells #[.int .i64 q1,.int .i64 f] 242)).heap.size=w1.heap.size+1:=by simp
  have hW0:=tt1.size
  have h2:=H.out.turned T2 id id (fun _ _ => id)
  have HT2:=hid T2
  have H2:=hid h2
  clear T2 h2 tt1
  go_wp2_with fail
  generalize w1.alloc (.cells #[.int .i64 q1,.int .i64 f] 242)=W at *
  obtain ⟨c,hc⟩:∃ c,w1.heap.size=c:=⟨_,rfl⟩
  rw [hc] at hWs hW0 e0 e1 e2 ⊢
  have HC:Hid (¬ StFoot s t.vs c∧c < W.heap.size):=hid ⟨fun hf => by have:=H.out.store.foot_lt c hf; omega,by omega⟩
  have hsc:sp≠c:=by have:=H.out.space.lt.1; omega
  have hbc:s.sb≠c:=fun e => HC.out.1 (.inl e.symm)
  have h2:=H2.out
  have HWs:=hid hWs
  have c0:=h2.space.c0
  have d0:=h2.store.c0
  have d1:=h2.store.c1
  have d2:=h2.store.c2
  have lk:=fun k => look_rc (h2.store.refs.turned ((Turn.refl (fun _ => False) W).drewN k) id) f
  clear h2 hc hWs
  go_cut [38] (fun v wx => v=.bool true∧Hid (Turn (fun _ => False) W wx))
  case first =>
    as_aux_lemma =>
      by_cases hf:f < 0
      · have hfn:decide (f < 0)=true:=decide_eq_true hf
        go_quiet (fail)
        go_wp2_with fail
        go_meet
        exact ⟨rfl,hid (Turn.drewN (Turn.refl _ _) _)⟩
      · have hfn:decide (f < 0)=false:=decide_eq_false hf
        have hrv:1 < ((mget t.rl f).getD 0:Nat):=Nat.lt_of_not_le (fun h => HNo.out ⟨by omega,h⟩)
        obtain ⟨rv,hrv2⟩:∃ rv:Nat,(mget t.rl f).getD 0=rv:=⟨_,rfl⟩
        rw [hrv2] at hrv lk
        have hrv3:decide ((1:Int) < rv)=true:=decide_eq_true (by omega)
        clear hrv2
        go_quiet (fail)
        go_wp2_with fail
        go_meet
        exact ⟨rfl,hid (Turn.drewN (Turn.refl _ _) _)⟩
  case rest =>
    obtain ⟨rfl,ht⟩:=hcut
    have h3:=H2.out.turned ht.out id id (fun _ _ => id)
    have HT3:=hid (HT2.out.trans ht.out)
    have hlt3:=ht.out.size
    replace e0:=(ht.out.cell (a:=⟨c,1,none⟩) HC.out.2 id).trans e0
    replace e1:=(ht.out.cell (a:=⟨c,0,none⟩) HC.out.2 id).trans e1
    replace e2:=(ht.out.frozen (a:=⟨c,1,none⟩) HC.out.2 id).trans e2
    replace HC:Hid (¬ StFoot s t.vs c∧c < wc.heap.size):=hid ⟨HC.out.1,by have:=HC.out.2; omega⟩
    replace c0:=h3.space.c0
    replace d0:=h3.store.c0
    replace d1:=h3.store.c1
    replace d2:=h3.store.c2
    have H3:=hid h3
    have HAl:=hid (alloc_any h3.store.pool 0 (by omega) h3.store.good (by have:=h3.store.hn; show (n:Int)≤256; omega))
    have hc1:=h3.space.c1
    clear h3 lk ht HT2 H2 HA' hlt3
    go_wp2_with fail
    refine HAl.out.mono ?_
    rintro e w2 hres
    rcases hres with ⟨rfl,rfl,hnone⟩ | ⟨k,base,fr',hk0,hk7,hbef,hmem,hle,rfl,hnew,hgood,hpa⟩
    · have HNone:=hid hnone
      clear hnone
      go_wp2_with fail
      go_ret
      refine .inl ⟨HNo.out,?_,rfl,H.out.same HT3.out⟩
      have h1:=H.out.store.left
      rw [leftOf_none HNone.out] at h1
      omega
    · obtain ⟨vs2,hp2,tp2,gp2⟩:=hpa
      have hbase:=H.out.store.good.okF k base hk7 hmem
      have HB:Hid (0≤base∧base < n∧t.R base=0):=by
        refine hid ⟨hbase.2.1,?_,?_⟩
        · have h1:=hbase.2.2.2
          have h2:=sz_pos k
          omega
        · have h1:=H.out.store.same base
          rw [hnew] at h1
          unfold St.R
          cases hm:mget t.rl base with
          | none => rfl
          | some x => rw [hm] at h1; cases h1
      have HNew:=hid hnew
      have HP2:=hid hp2
      have HTp:=hid tp2
      have HGp:=hid gp2
      have HGood:=hid hgood
      have nsb:¬ Foot s.p s.pmb t.vs s.sb:=fun hf => (H.out.store.ap _ hf).1 rfl
      have nrm:¬ Foot s.p s.pmb t.vs s.rm:=fun hf => (H.out.store.ap _ hf).2.1 rfl
      have nsp:¬ Foot s.p s.pmb t.vs sp:=fun hf => H.out.off.1 (.inr (.inr (.inr (.inr hf))))
      have HRf:=hid (H3.out.store.refs.turned tp2 nrm)
      have c02:=(tp2.cell (a:=⟨sp,0,none⟩) (lt_of_cell c0) nsp).trans c0
      have d22:=(tp2.cell (a:=⟨s.sb,2,none⟩) (lt_of_cell d2) nsb).trans d2
      have HCells:Hid (∀ w' t',StAfter s n t wc w' t'→_):=hid (fun w' t' (hA:StAfter s n t wc w' t') => (⟨hA.cells H3.out,hA.own HC.out.2 HC.out.1⟩:_∧_))
      have E0:=hid e0
      have E1:=hid e1
      have E2:=hid e2
      clear hnew hp2 tp2 gp2 hgood nsb nrm nsp hmem hle hbef hbase c0 d0 d1 d2 e0 e1 e2 hc1
      go_upto_if 63 with (at_mapUpdate; refine wpList_mapput rfl _ _ _ 53 3 3 rfl Tryz.underlying53 Tryz.underlying3 keyI s.rm rfl HRf.out base rfl 1 (by first | rfl | go_num) ?_; intro w4 hm4 t4; have hA4:=H3.out.store.taken HNew.out HP2.out HGood.out HTp.out HGp.out t4 hm4; obtain ⟨⟨c04,c14,d04,d14,d24⟩,k4,f4,n4⟩:=HCells.out _ _ hA4; have e04:=(k4 1).trans E0.out; have HA4:=hid hA4; clear k4 f4 n4 hm4 t4 hA4 c02 d22)
      have HBn:base < n:=HB.out.2.1
      have HB0:0≤base:=HB.out.1
      go_cut [12] (fun er wx => er=.nilIface∧Hid (∃ t5,StAfter s n t wc wx t5∧t5.R=(fun x => if x=base then 1 else if 0≤f∧x=f then t.R f - 1 else t.R x)∧t5.m=if f < 0 then memZero t.m base.toNat else memCopy t.m base.toNat f.toNat))
      case first =>
        by_cases hf:f < 0
        · have hfn:decide (f < 0)=true:=decide_eq_true hf
          have HZ:=hid (zero_yes HA4.out.1.mem base HB0 HBn)
          go_wp2_with fail
          refine HZ.out.mono ?_
          rintro e w5 ⟨rfl,hm5,tt5⟩
          have HM5:=hid hm5
          have HT5:=hid tt5
          clear hm5 tt5
          go_wp2_with fail
          go_meet
          refine ⟨rfl,hid ⟨_,HA4.out.trans (HA4.out.1.words HT5.out HM5.out),?_,?_⟩⟩
          · refine (R_new t base vs2 fr' (mput t.tk base 0) _).trans ?_
            funext x
            rw [if_neg (show ¬ (0≤f∧x=f) from fun h => by omega)]
          · rw [if_pos hf]
        · have hfn:decide (f < 0)=false:=decide_eq_false hf
          have hrv:1 < t.R f:=Nat.lt_of_not_le (fun h => HNo.out ⟨by omega,h⟩)
          have hfr:=H.out.store.frame (f:=f) (by omega)
          have HCp:=hid (copy_yes (HA4.out.1.mem.turned ((Turn.refl (fun _ => False) _).drew) id id) base f HB0 HBn hfr.1 hfr.2)
          have Hrv:=hid hrv
          have HFn:=hid hf
          clear hrv hf
          go_upto_region 11 with fail
          go_cut [12] (fun er wx => er=.nilIface∧Hid (∃ m5,m5=memCopy t.m base.toNat f.toNat∧StAfter s n t wc wx ⟨vs2,fr',mput t.tk base 0,mput t.rl base 1,m5⟩))
          case first =>
            --<<
            as_aux_lemma =>
              go_region_with (go_at_call 167; refine HCp.out.mono ?_; rintro e w5 ⟨rfl,hm5,tt5⟩; have HM5:=hid hm5; have HT5:=hid (Turn.trans' (Turn.drew (Turn.refl _ _)) tt5 (fun _ _ h => h)); clear hm5 tt5)
              all_goals go_wp2_with fail
              all_goals go_meet
              all_goals exact ⟨rfl,hid ⟨_,rfl,HA4.out.trans (HA4.out.1.words HT5.out HM5.out)⟩⟩
            -->>
          case rest =>
            obtain ⟨rfl,hx⟩:=hcut
            obtain ⟨m5,hm5,hA5⟩:=hx.out
            have HM5:=hid hm5
            have HA5:=hid hA5
            have HD:=hid (vdrop_is (hA5.1.turned ((Turn.refl (fun _ => False) _).drew) (fun _ _ => id)) f (by
              have h1:=R_new t base vs2 fr' (mput t.tk base 0) m5
              rw [h1]
              show 0 < if f=base then 1 else t.R f
              split
              · omega
              · have:=Hrv.out; omega))
            obtain ⟨⟨c05,c15,d05,d15,d25⟩,k5,f5,n5⟩:=HCells.out _ _ hA5
            have e05:=(k5 1).trans E0.out
            clear hx hm5 hA5 c04 c14 d04 d14 d24 e04 k5 f5 n5
            go_upto_region 12 with fail
            go_region_with (go_at_call 168; refine HD.out.mono ?_; rintro e w6 ⟨rfl,t6,hA6,hm6,hR6⟩; have HA6:=hid hA6; have HM6:=hid hm6; have HR6:=hid hR6; clear hA6 hm6 hR6)
            all_goals go_wp2_with fail
            all_goals go_meet
            all_goals
              refine ⟨rfl,hid ⟨t6,(HA5.out.also (Turn.drew (Turn.refl (fun _ => False) _)) (fun _ h => h.elim) (fun _ h => h.elim)).trans HA6.out,?_,?_⟩⟩
            all_goals first
              | (rw [HR6.out]
                 have h1:=R_new t base vs2 fr' (mput t.tk base 0) m5
                 funext x
                 rw [h1]
                 have h2:=HB.out.2.2
                 have h3:=Hrv.out
                 have h4:f≠base:=fun e => by rw [e,h2] at h3; omega
                 show (if x=f then (if f=base then 1 else t.R f) - 1 else if x=base then 1 else t.R x)=_
                 by_cases e:x=f
                 · subst e
                   rw [if_pos rfl,if_neg h4,if_neg h4,if_pos ⟨by omega,rfl⟩]
                 · rw [if_neg e]
                   by_cases e2:x=base
                   · rw [if_pos e2,if_pos e2]
                   · rw [if_neg e2,if_neg e2,if_neg (fun e3 => e e3.2)])
              | (rw [HM6.out,if_neg (Int.not_lt.2 HFn.out)]; exact HM5.out)
      case rest =>
        obtain ⟨rfl,hx⟩:=hcut
        obtain ⟨t5,hA5,hR5,hm5⟩:=hx.out
        have HA5:=hid hA5
        have HR5:=hid hR5
        have HM5:=hid hm5
        obtain ⟨⟨c05,c15,d05,d15,d25⟩,k5,f5,n5⟩:=HCells.out _ _ hA5
        have e05:=(k5 1).trans E0.out
        have e15:=(k5 0).trans E1.out
        have e25:=(f5 1).trans E2.out
        have N5:=hid n5
        clear hx hA5 hR5 hm5 k5 f5 n5 c04 c14 d04 d14 d24 e04
        go_wp2_with fail
        have hA6:=(HA5.out.before HT3.out).also ((Turn.refl (fun k => k=c) wc).setCell ⟨c,1,none⟩ (.int .i64 base) (fun _ => rfl)) (fun k e => e ▸ N5.out) (fun k e => by omega)
        have g1:(wc.setCell ⟨c,1,none⟩ (.int .i64 base)).cell? ⟨c,1,none⟩=some (.int .i64 base):=World.cell?_setCell_same _ _ _ e05
        have g0:(wc.setCell ⟨c,1,none⟩ (.int .i64 base)).cell? ⟨c,0,none⟩=some (.int .i64 q1):=by
          exact (World.cell?_setCell_other _ _ _ _ (fun e => by simp at e)).trans e15
        generalize wc.setCell ⟨c,1,none⟩ (.int .i64 base)=W5 at *
        obtain ⟨c06,c16,d06,d16,d26⟩:=hA6.cells H.out
        obtain ⟨pl,hpl,he⟩:=H.out.space.pages
        have HE:=hid he
        have hpd:MapIs W5.drew pm (.int .i64) encI encPg pl:=(hpl.turned hA6.2.1 H.out.off.2).of_heap rfl
        obtain ⟨w7,hrun,hm7,t7⟩:=hpd.run_update (P:=Tryz.prog) keyI Tryz.underlying224 Tryz.underlying3 a (q1,base)
        simp only [encI,encPg] at hrun
        have hpc:pm≠c:=by have:=H.out.space.lt.2; omega
        have hdm:=H.out.space.dom _ _ HQ.out
        have hok:=H.out.space.ok _ _ HQ.out
        have hsr:=store_refs (O:=O) (R:=t.R) (R':=t5.R) (f:=f) (pr:=q1) hdm HQ.out H.out.refs H.out.one HB0 HB.out.2.2 HR5.out
        have hV:=H.out.step hA6 (Turn.trans' ((Turn.refl (fun q => q=pm) W5).drew) t7 (fun _ _ h => h)) hm7 (P':=setP P a (some (q1,base))) (fun i => by rw [mget_mput,HE.out]; rfl) (setP_dom H.out.space hdm) (setP_ok H.out.space (fun q hq => by have:=H.out.store.hn; cases hq; exact ⟨hok.1,hok.2.1,by simp only; omega,by simp only; omega⟩)) hsr.1 hsr.2
        have HV:=hid hV
        have g17:=(t7.cell (a:=⟨c,1,none⟩) (by rw [show W5.drew.heap=W5.heap from rfl]; exact lt_of_cell g1) (fun e => hpc e.symm)).trans (show W5.drew.cell? ⟨c,1,none⟩=_ from g1)
        have c07:=hV.1.space.c0
        have d07:=hV.1.store.c0
        have HSet:=hid (set_yes (hV.1.store.mem.turned ((Turn.refl (fun _ => False) w7).drew) id id) base wd v HB0 HBn h0 h8)
        clear hA6 hpl he hpd hm7 t7 hdm hok hsr hV c05 c15 d05 d15 d25 e05 e15 e25
        go_region
        go_wp2_with fail
        go_region_with (go_at_call 169; refine HSet.out.mono ?_; rintro e w8 ⟨rfl,hm8,tt8⟩; have HM8:=hid hm8; have HT8:=hid (Turn.trans' (Turn.drew (Turn.refl (fun b => b=s.wb) w7)) tt8 (fun _ _ h => h)); clear hm8 tt8)
        all_goals go_wp2_with fail
        all_goals go_ret
        all_goals exact .inr ⟨HNo.out,rfl,base,{ t5 with m:=memSet t5.m base.toNat wd.toNat v },HB.out.1,HB.out.2.1,HB.out.2.2,by unfold newM; rw [← HM5.out],HV.out.trans (HV.out.1.stored HT8.out HM8.out)⟩
end
section
variable {w w' w1 w2 w3:World} {s:SB} {n:Nat} {t t1 t2:St} {sp pm sb:Nat} {P P':Int→Option Pg} {O:Int→Nat}
def StoredAny (s:SB) (n:Nat) (t:St) (sp pm:Nat) (P:Int→Option Pg) (O:Int→Nat) (a wd v:Int) (w:World) (e:Ending) (w':World):Prop :=
 (accE P a wd 2≠0∧e=.returned (VmErr (accE P a wd 2))∧VmAfter s n t sp pm O w w' P t) ∨
 (accE P a wd 2=0∧0≤wd∧wd < 8∧∃ q,P a=some q∧(StoredOwn s n t sp pm P O a wd v q w e w'∨StoredFull s n t sp pm P O q w e w'∨StoredNew s n t sp pm P O a wd v q w e w'))
theorem vmStore_any (h:VmOne w s n t sp pm P O) (a wd v:Int) :
  Calls Tryz.prog 80 #[.pointer (some ⟨sp,0,none⟩),.int .i64 a,.int .i64 wd,.int .i64 v] w (StoredAny s n t sp pm P O a wd v w):=by
 have hA:=access_is h.space a wd 2 (by omega)
 unfold Accessed at hA
 by_cases hz:accE P a wd 2=0
 ·rcases accE_or P a wd 2 with ⟨he,hn⟩ | he | he | ⟨he,h0,h8,⟨q1,f⟩,hq,hq1⟩
  ·omega
  ·omega
  ·omega
  ·rw [hz,hq] at hA
   have hA':AccOk sp a wd q1 f w:=hA
   by_cases hown:0≤f∧t.R f≤1
   ·refine (vmStore_own h hq h0 h8 hA' hown.1 hown.2 (v:=v)).mono fun e w' hr => .inr ⟨hz,h0,h8,_,hq,.inl hr⟩
   ·refine (vmStore_new h hq h0 h8 hA' hown (v:=v)).mono fun e w' hr => .inr ⟨hz,h0,h8,_,hq,.inr hr⟩
 ·rw [vmErr_of hz] at hA
  generalize (P a).getD noPg=q at hA
  refine (vmStore_err (z:=accE P a wd 2) (q1:=q.1) (f:=q.2) (v:=v) hA).mono ?_
  rintro e w' ⟨rfl,tt⟩
  exact .inl ⟨hz,by rw [vmErr_of hz],h.same tt⟩
theorem mapP_cnt {a k p:Int} (h0:mapE P a k p=0) (f:Int) (hf:0≤f):cntF (mapP P a k p) f=cntF P f:=sumN_congr fun i hi => by
 unfold mapE at h0
 split at h0
 ·omega
 ·rename_i hr
  have hr':RightP a k:=Classical.byContradiction hr
  split at h0
  ·omega
  ·split at h0
   ·omega
   ·rename_i hth
    unfold mapP
    by_cases h1:a≤(i:Int)∧(i:Int) < a+k
    ·rw [if_pos h1]
     have e:P (i:Int)=none:=by
      have hc:thereN P a k.toNat=0:=by omega
      have h2:(P (i:Int)).isSome=false:=by
       cases hs:(P (i:Int)).isSome with
       | false => rfl
       | true =>
        exfalso
        have h3:((i:Int) - a).toNat < k.toNat:=by omega
        have h4:(fun j:Nat => (P (a+(j:Int))).isSome) ((i:Int) - a).toNat=true:=by
         show (P (a+(((i:Int) - a).toNat:Int))).isSome=true
         rw [show a+((((i:Int) - a).toNat:Nat):Int)=(i:Int) by omega]; exact hs
        have h5:∀ (g:Nat→Bool) (k j:Nat),j < k→g j=true→0 < cntB g k:=by
         intro g k
         induction k with
         | zero => intro j hj; omega
         | succ k ih =>
          intro j hj hg
          rw [cntB_succ]
          by_cases e:j=k
          ·subst e; rw [hg]; simp
          ·have:=ih j (by omega) hg; omega
        have h6:=h5 (fun j:Nat => (P (a+(j:Int))).isSome) _ _ h3 h4
        unfold thereN at hc
        omega
      cases hq:P (i:Int) with
      | none => rfl
      | some q => rw [hq] at h2; cases h2
     rw [e,hasF_some]
     simp only
     rw [if_neg (by omega)]
     rfl
    ·rw [if_neg h1]
end
section
open Go.RowKit Go.MapKept
section
variable {w w' w1 w2 w3:World} {s:SB} {n:Nat} {t t1 t2:St} {sp pm sb:Nat} {P P':Int→Option Pg} {O:Int→Nat}
theorem clonePg_is {pl:List (Int×Pg)} (h:MapIs w pm (.int .i64) encI encPg pl) :
  Calls Tryz.prog 137 #[.map (some pm)] w fun e w' => e=.returned (.map (some w.heap.size))∧MapIs w' w.heap.size (.int .i64) encI encPg pl∧Turn (fun _ => False) w w':=by
 obtain ⟨⟨es,clock,hb,hs,hm⟩,hn⟩:=h
 have hq:=fun w => run_eql_map_nil_sl (P:=Tryz.prog) w 224 _ _ (some pm) Tryz.underlying224
 have HS:=hid (show Stamped es clock∧es.toList.map (fun e => (e.key,e.val))=pl.map (fun p => (encI p.1,encPg p.2))∧MNodup pl from ⟨hs,hm,hn⟩)
 clear hs hm hn
 go_enter Tryz.func137,Tryz.ntmps137
 go_wp2
 rw [@run_callFunc_extern Tryz.prog 219 _ Extern.MapsClone.clone Tryz.func219 (by kernel_rfl) (by kernel_rfl) (by kernel_rfl) (by kernel_rfl),run_maps_clone_sl w 224 hb]
 simp only [Result.andThen]
 rw [Oper.upon_value]
 go_wp2
 rw [run_typeAssert_map_sl _ 224 20 _ _ _ Tryz.underlying224]
 simp only [Result.andThen]
 rw [Oper.upon_value]
 go_wp2
 go_ret
 exact ⟨rfl,⟨⟨es,clock,(MapKept.heap_alloc w _).1,HS.out.1,HS.out.2.1⟩,HS.out.2.2⟩,(Turn.refl _ _).alloc _⟩
def resL (L:List (Int×Pg)):Nat:=(L.map fun p => if 0≤p.2.2 then 1 else 0).sum
def resO (o:Option Pg):Nat:=o.elim 0 fun p => if 0≤p.2 then 1 else 0
def resP (P:Int→Option Pg):Nat:=sumN (fun i => resO (P (i:Int))) 64
def cntLV (L:List (Int×Pg)) (f:Int):Nat:=(L.map fun p => hasF (some p.2) f).sum
theorem resL_le:∀ L:List (Int×Pg),resL L≤L.length
 | [] => Nat.le_refl _
 | p :: L => by
  have h1:=resL_le L
  unfold resL at *
  rw [List.map_cons,List.sum_cons,List.length_cons]
  split <;> omega
theorem cntL_le (f:Int):∀ L:List (Int×Pg),cntLV L f≤L.length
 | [] => Nat.le_refl _
 | p :: L => by
  have h1:=cntL_le f L
  have h2:=hasF_le (some p.2) f
  unfold cntLV at *
  rw [List.map_cons,List.sum_cons,List.length_cons]
  omega
theorem resL_all {pl:List (Int×Pg)} (hn:MNodup pl) (h:SpIs w sp pm sb P) (he:∀ i,mget pl i=P i):resL pl=resP P:=by
 have h1:=sum_pages resO rfl pl hn (fun p hp => h.dom p.1 p.2 (by rw [← he]; exact mget_mem hn hp))
 exact h1.trans (sumN_congr fun i _ => by rw [he])
theorem cntL_all {pl:List (Int×Pg)} (hn:MNodup pl) (h:SpIs w sp pm sb P) (he:∀ i,mget pl i=P i) (f:Int):cntLV pl f=cntF P f:=by
 have h1:=sum_pages (fun o => hasF o f) rfl pl hn (fun p hp => h.dom p.1 p.2 (by rw [← he]; exact mget_mem hn hp))
 exact h1.trans (sumN_congr fun i _ => by rw [he])
theorem resP_le (P:Int→Option Pg):resP P≤64:=sumN_max (m:=1) (k:=64) (fun i _ => by
 unfold resO
 cases P (i:Int) with
 | none => exact Nat.zero_le _
 | some p => show (if 0≤p.2 then 1 else 0)≤1; split <;> omega)
theorem nodup_of_keys {β:Type} {l:List (Int×β)} (h:MNodup l):l.Nodup:=List.nodup_iff_pairwise_ne.2 (List.Pairwise.imp (fun h e => h (congrArg Prod.fst e)) (List.pairwise_map.1 h))
theorem more_seen {β:Type} {l L:List (Int×β)} {seenK:Int→Prop} {f:Int} {b:β} (hn:MNodup l) (hL:L.Nodup∧∀ t,t∈L ↔ t∈l∧seenK t.1) (hpm:(f,b)∈l) (hns:¬ seenK f) :
  ((f,b) :: L).Nodup∧∀ t,t∈(f,b) :: L ↔ t∈l∧(seenK t.1∨t.1=f):=by
 refine ⟨List.nodup_cons.2 ⟨fun h => hns ((hL.2 _).1 h).2,hL.1⟩,fun t => ?_⟩
 rw [List.mem_cons,hL.2]
 constructor
 ·rintro (rfl | ⟨h1,h2⟩)
  ·exact ⟨hpm,.inr rfl⟩
  ·exact ⟨h1,.inl h2⟩
 ·rintro ⟨h1,h2 | h2⟩
  ·exact .inr ⟨h1,h2⟩
  ·have e1:mget l f=some t.2:=mget_mem hn (h2 ▸ h1)
   have e2:mget l f=some b:=mget_mem hn hpm
   rw [e1] at e2
   cases e2
   exact .inl (by rw [← h2])
theorem all_seen' {β:Type} {l L:List (Int×β)} {seenK:Int→Prop} (hn:MNodup l) (hL:L.Nodup∧∀ t,t∈L ↔ t∈l∧seenK t.1) (hall:∀ p∈l,seenK p.1):L.Perm l :=
 (List.perm_ext_iff_of_nodup hL.1 (nodup_of_keys hn)).2 (fun t => by
  rw [hL.2]
  exact ⟨fun h => h.1,fun h => ⟨h,hall t h⟩⟩)
theorem vmRes_is (h:SpIs w sp pm sb P):Calls Tryz.prog 77 #[.pointer (some ⟨sp,0,none⟩)] w fun e w' => e=.returned (.int .i64 (resP P))∧Turn (fun _ => False) w w':=by
 have c1:=h.c1
 have H:=hid h
 obtain ⟨pl,hpl,he⟩:=h.pages
 have hle:pl.length≤64:=by rw [len_pages hpl.nodup h he]; exact lenP_le P
 have HPl:=hid hpl
 have HE:=hid he
 clear h hpl he
 go_enter Tryz.func77,Tryz.ntmps77
 go_wp2_with (at_range; refine wpList_maprange rfl _ _ 3 242 rfl Tryz.underlying224 rfl HPl.out ?_; intro w2 hR2 t2 hs2; have HR2:=hid hR2; have HT2:=hid t2; clear hR2 t2 hs2)
 obtain ⟨r,hrr⟩:∃ r,w.heap.size=r:=⟨_,rfl⟩
 rw [hrr] at HR2
 rw [hrr]
 have HWr:=hid hrr
 clear hrr
 go_frame
 go_loopg [3] (pl.length) (fun g n wr => ∃ (seenK:Int→Prop) (L:List (Int×Pg)),Hid (RangeOf wr pm r encI encPg pl seenK g)∧Hid (L.Nodup∧∀ t,t∈L ↔ t∈pl∧seenK t.1)∧L.length+g≤pl.length∧n=.int .i64 (resL L)∧Hid (Turn (fun _ => False) w wr))
 case atStart => exact ⟨_,[],HR2,hid ⟨List.nodup_nil,fun t => by simp⟩,by simp,rfl,HT2⟩
 case round =>
  clear HR2 HT2
  obtain ⟨seenK,L,hR,hL,hLg,rfl,hT⟩:=hrel
  go_wp2_with (at_next; refine wpList_mapnext rfl _ rfl rfl hR.out ?_ ?_)
  ·intro hall
   have hperm:=all_seen' HPl.out.nodup hL.out (fun p hp => hall p.1 p.2.1 p.2.2 hp)
   have hsum:resL L=resP P:=((hperm.map _).sum_nat).trans (resL_all HPl.out.nodup H.out HE.out)
   clear hall hperm
   rw [hsum]
   clear hsum
   go_wp2_with fail
   go_ret
   exact ⟨rfl,hT.out⟩
  ·intro i q1 f w5 cnt' hpm hns hR5 hlt5 t5 hsz5 hen
   (try simp only at hns hen)
   have HR5:=hid hR5
   have hT5:Turn (fun _ => False) w w5:=hT.out.trans' t5 (fun k hk e => absurd e (by have:=HWr.out; omega))
   have HT5:=hid (hT5.alloc (.cells #[.int .i64 q1,.int .i64 f] 242))
   have HR6:=hid (hR5.turned ((Turn.refl (fun _ => False) w5).alloc (.cells #[.int .i64 q1,.int .i64 f] 242)) id id)
   have HL2:=hid (more_seen HPl.out.nodup hL.out hpm hns)
   have hN:=resL_le L
   have hN3:resL ((i,(q1,f)) :: L)=resL L+if 0≤f then 1 else 0:=by
    simp only [resL,List.map_cons,List.sum_cons]; omega
   have HN3:=hid hN3
   obtain ⟨N,hNN⟩:∃ N,resL L=N:=⟨_,rfl⟩
   rw [hNN] at HN3 hN
   unfold encPg at hen
   clear hpm hns hR5 t5 hT5 hL hR hT hN3
   rw [hNN]
   clear hNN
   by_cases hf:0≤f
   ·go_wp2_with fail
    go_roundg cnt'
    case measure => omega
    case rel => exact ⟨_,_,HR6,HL2,by simp only [List.length_cons]; omega,by rw [HN3.out,if_pos hf]; go_num,HT5⟩
   ·go_wp2_with fail
    go_roundg cnt'
    case measure => omega
    case rel => exact ⟨_,_,HR6,HL2,by simp only [List.length_cons]; omega,by rw [HN3.out,if_neg (by omega)]; rfl,HT5⟩
end
end
section
open Go.RowKit Go.MapKept
section
variable {w w' w1 w2 w3:World} {s:SB} {n:Nat} {t t1 t2:St} {sp pm sb:Nat} {P P':Int→Option Pg} {O:Int→Nat}
def ForkIs (s:SB) (n:Nat) (t:St) (sp pm:Nat) (P:Int→Option Pg) (w:World) (e:Ending) (w':World):Prop :=
 ∃ (sp2 pm2:Nat) (rl:List (Int×Nat)),e=.returned (.pointer (some ⟨sp2,0,none⟩))∧SpIs w' sp2 pm2 s.sb P∧StAfter s n t w w' { t with rl:=rl }∧(∀ f,0≤f→({ t with rl:=rl }:St).R f=t.R f+cntF P f)∧w.heap.size≤sp2∧w.heap.size≤pm2
theorem vmFork_is (hs:StoreIs w s n t) (h:SpIs w sp pm s.sb P) (hoff:¬ StFoot s t.vs sp∧¬ StFoot s t.vs pm) (hR:∀ f,0≤f→cntF P f≤t.R f) (hmax:∀ f,0≤f→t.R f+64≤100000) :
  Calls Tryz.prog 57 #[.pointer (some ⟨sp,0,none⟩)] w (ForkIs s n t sp pm P w):=by
 have c1:=h.c1
 have H:=hid h
 have HS:=hid hs
 have HOff:=hid hoff
 have HRc:=hid hR
 have HMax:=hid hmax
 obtain ⟨pl,hpl,he⟩:=h.pages
 have hle:pl.length≤64:=by rw [len_pages hpl.nodup h he]; exact lenP_le P
 have HPl:=hid hpl
 have HE:=hid he
 clear h hpl he hs hoff hR hmax
 go_enter Tryz.func57,Tryz.ntmps57
 go_wp2_with (at_range; refine wpList_maprange rfl _ _ 3 242 rfl Tryz.underlying224 rfl HPl.out ?_; intro w2 hR2 t2 hs2; have HR2:=hid hR2; have HT2:=hid t2; clear hR2 t2 hs2)
 obtain ⟨r,hrr⟩:∃ r,w.heap.size=r:=⟨_,rfl⟩
 rw [hrr] at HR2
 rw [hrr]
 have HWr:=hid hrr
 have HRF:Hid (∀ k,StFoot s t.vs k→¬ k=r):=hid (fun k hk e => by have:=HS.out.foot_lt k hk; omega)
 clear hrr c1
 go_frame
 go_loopg [] (pl.length) (fun g wr => ∃ (seenK:Int→Prop) (L:List (Int×Pg)) (rl:List (Int×Nat)),Hid (RangeOf wr pm r encI encPg pl seenK g)∧Hid (L.Nodup∧∀ t,t∈L ↔ t∈pl∧seenK t.1)∧L.length+g≤pl.length∧Hid (StAfter s n t w wr { t with rl:=rl })∧Hid (∀ f,0≤f→({ t with rl:=rl }:St).R f=t.R f+cntLV L f))
 case atStart => exact ⟨_,[],t.rl,HR2,hid ⟨List.nodup_nil,fun t => by simp⟩,by simp,hid ((StAfter.refl HS.out).also HT2.out (fun _ h => h.elim) (fun _ h => h.elim)),hid (fun f _ => rfl)⟩
 case round =>
  clear HR2 HT2
  obtain ⟨seenK,L,rl,hRg,hL,hLg,hA,hRc⟩:=hrel
  go_wp2_with (at_next; refine wpList_mapnext rfl _ rfl rfl hRg.out ?_ ?_)
  ·intro hall
   have hperm:=all_seen' HPl.out.nodup hL.out (fun p hp => hall p.1 p.2.1 p.2.2 hp)
   have HSum:Hid (∀ f,0≤f→({ t with rl:=rl }:St).R f=t.R f+cntF P f):=hid (fun f hf => by rw [hRc.out f hf,← cntL_all HPl.out.nodup H.out HE.out f]; congr 1; exact (hperm.map _).sum_nat)
   clear hall hperm
   obtain ⟨c0,c1⟩:wr.cell? ⟨sp,0,none⟩=some (.pointer (some ⟨s.sb,0,none⟩))∧wr.cell? ⟨sp,1,none⟩=some (.map (some pm)):=by
    have h1:=H.out.turned hA.out.2.1 HOff.out.1 HOff.out.2
    exact ⟨h1.c0,h1.c1⟩
   have HPl2:=hid ((HPl.out.turned hA.out.2.1 HOff.out.2).turned ((Turn.refl (fun _ => False) wr).drew) id)
   have HCl:=hid (clonePg_is HPl2.out)
   clear hRg hL hRc HRc HMax
   have hsp:=H.out.lt
   have htw:Turn (fun _ => False) w wr∨True:=.inr trivial
   go_wp2_with fail
   go_region_with (go_at_call 137; refine HCl.out.mono ?_; rintro e w9 ⟨rfl,hm9,t9⟩; have HM9:=hid hm9; have HT9:=hid t9; have c09:=(t9.cell (a:=⟨sp,0,none⟩) (lt_of_cell (show wr.drew.cell? ⟨sp,0,none⟩=_ from c0)) id).trans (show wr.drew.cell? ⟨sp,0,none⟩=_ from c0); have c19:=(t9.cell (a:=⟨sp,1,none⟩) (lt_of_cell (show wr.drew.cell? ⟨sp,1,none⟩=_ from c1)) id).trans (show wr.drew.cell? ⟨sp,1,none⟩=_ from c1); clear hm9 t9)
   all_goals go_wp2_with fail
   all_goals go_ret
   all_goals
    have T9:Turn (fun _ => False) wr (w9.alloc (.cells #[.pointer (some ⟨s.sb,0,none⟩),.map (some wr.heap.size)] 226)):=(((Turn.refl (fun _ => False) wr).drew).trans HT9.out).alloc _
    have hz9:=HT9.out.size
    have hzr:=hA.out.2.1.size
    have hml:=HM9.out.lt
    rw [show wr.drew.heap=wr.heap from rfl] at hz9 HM9 hml
    refine ⟨w9.heap.size,wr.heap.size,rl,rfl,⟨by simp,by simp,⟨pl,HM9.out.turned ((Turn.refl (fun _ => False) w9).alloc _) id,HE.out⟩,by omega,H.out.dom,H.out.ok⟩,hA.out.also T9 (fun _ h => h.elim) (fun _ h => h.elim),HSum.out,by omega,by omega⟩
  ·intro i q1 f w5 cnt' hpm hns hR5 hlt5 t5 hsz5 hen
   (try simp only at hns hen)
   have hA5:=hA.out.also t5 (fun k e hf => HRF.out k hf e) (fun k e hk => by have:=HWr.out; omega)
   have HA6:=hid (hA5.also ((Turn.refl (fun _ => False) w5).alloc (.cells #[.int .i64 q1,.int .i64 f] 242)) (fun _ h => h.elim) (fun _ h => h.elim))
   have HR6:=hid (hR5.turned ((Turn.refl (fun _ => False) w5).alloc (.cells #[.int .i64 q1,.int .i64 f] 242)) id id)
   have HL2:=hid (more_seen HPl.out.nodup hL.out hpm hns)
   have hN3:∀ g,cntLV ((i,(q1,f)) :: L) g=cntLV L g+if f=g then 1 else 0:=fun g => by
    simp only [cntLV,List.map_cons,List.sum_cons,hasF_some]; omega
   have HN3:=hid hN3
   unfold encPg at hen
   by_cases hf:0≤f
   ·have hpos:1≤t.R f:=by
     have hPi:P i=some (q1,f):=by rw [← HE.out]; exact mget_mem HPl.out.nodup hpm
     have hd:=H.out.dom _ _ hPi
     have h2:=cntF_ge (P:=P) (i:=i) (f:=f) hd.1 hd.2
     rw [hPi,hasF_some,if_pos rfl] at h2
     have:=HRc.out f hf
     omega
    obtain ⟨k,hk⟩:∃ k,mget rl f=some k:=by
     have h1:=hRc.out f hf
     unfold St.R at h1
     simp only at h1
     cases hm:mget rl f with
     | none =>
      rw [hm] at h1
      have h2:(Option.getD (none:Option Nat) 0)=0:=rfl
      unfold St.R at hpos
      omega
     | some k => exact ⟨k,rfl⟩
    have hkR:k=t.R f+cntLV L f:=by
     have h1:=hRc.out f hf
     unfold St.R at h1 ⊢
     simp only [hk,Option.getD_some] at h1
     exact h1
    have hkb:k+1≤100000:=by
     have h1:=HMax.out f hf
     have h2:=cntL_le f L
     omega
    have HK:=hid hk
    have HKR:=hid hkR
    have c0:=(H.out.turned HA6.out.2.1 HOff.out.1 HOff.out.2).c0
    have d2:=HA6.out.1.c2
    have e0:(w5.alloc (.cells #[.int .i64 q1,.int .i64 f] 242)).cell? ⟨wr.heap.size,1,none⟩=some (.int .i64 f):=by rw [← hsz5]; simp
    have hrd:=(HA6.out.1.turned (S:=fun _ => False) ((Turn.refl (fun _ => False) _).drew) (fun _ _ => id)).refs
    have lk:=look_rc hrd f
    simp only at lk hrd
    rw [hk] at lk
    simp only [Option.getD_some] at lk
    obtain ⟨w7,hrun,hm7,t7⟩:=hrd.run_update (P:=Tryz.prog) keyI Tryz.underlying53 Tryz.underlying3 f (k+1)
    simp only [encI,encRc] at hrun
    rw [show ((k+1:Nat):Int)=(k:Int)+1 by omega] at hrun
    have HM7:=hid hm7
    have HT7:=hid (Turn.trans' ((Turn.refl (fun b => b=s.rm) _).drew) t7 (fun _ _ h => h))
    have hw1:IntKind.i64.wrap ((k:Int)+1)=(k:Int)+1:=IntWalk.i64_in _ (by omega)
    clear hpm hns hR5 t5 hA5 hN3 hpos hk hkR hRg hm7 t7 hrd
    go_wp2_with fail
    go_region
    all_goals go_wp2_with fail
    go_roundg cnt'
    case measure => omega
    case rel =>
     have hpr:pm≠s.rm:=fun e => HOff.out.2 (.inr (.inl e))
     have hrr2:r≠s.rm:=fun e => HRF.out s.rm (.inr (.inl rfl)) e.symm
     have hrc:=HA6.out.1.recount (f:=f) (k:=k+1) (by simp only; rw [HK.out]; rfl) ⟨by omega,hkb⟩ HT7.out HM7.out
     refine ⟨_,_,mput rl f (k+1),hid (HR6.out.turned HT7.out hpr hrr2),HL2,by simp only [List.length_cons]; omega,hid (HA6.out.trans hrc),hid (fun g hg => ?_)⟩
     have h1:=R_put ({ t with rl:=rl }:St) f (k+1)
     simp only at h1
     rw [h1]
     show (if g=f then k+1 else ({ t with rl:=rl }:St).R g)=_
     rw [HN3.out]
     by_cases e:g=f
     ·rw [if_pos e,if_pos e.symm,e]
      have:=HKR.out
      omega
     ·rw [if_neg e,if_neg (fun e2 => e e2.symm)]
      exact hRc.out g hg
   ·clear hpm hns hR5 t5 hA5 hN3 hRg
    go_wp2_with fail
    go_roundg cnt'
    case measure => omega
    case rel => exact ⟨_,_,rl,HR6,HL2,by simp only [List.length_cons]; omega,HA6,hid (fun g hg => by rw [hRc.out g hg,HN3.out,if_neg (by omega)]; rfl)⟩
end
end
structure Spc where
 sp:Nat
 pm:Nat
 P:Int→Option Pg
def sumC (l:List Spc) (f:Int):Nat:=(l.map fun x => cntF x.P f).sum
theorem sum_erase {α:Type} (c:α→Nat):∀ (l:List α) (k:Nat) (x:α),l[k]?=some x→(l.map c).sum=((l.eraseIdx k).map c).sum+c x
 | [],k,x,h => by simp at h
 | y :: l,0,x,h => by
  simp only [List.getElem?_cons_zero,Option.some.injEq] at h
  subst h
  simp only [List.eraseIdx_cons_zero,List.map_cons,List.sum_cons]
  omega
 | y :: l,k+1,x,h => by
  simp only [List.getElem?_cons_succ] at h
  have:=sum_erase c l k x h
  simp only [List.eraseIdx_cons_succ,List.map_cons,List.sum_cons]
  omega
theorem erase_set {α:Type}:∀ (l:List α) (k:Nat) (y:α),(l.set k y).eraseIdx k=l.eraseIdx k
 | [],k,y => by simp
 | z :: l,0,y => rfl
 | z :: l,k+1,y => by simp [erase_set l k y]
theorem sumC_erase {l:List Spc} {k:Nat} {x:Spc} (h:l[k]?=some x) (f:Int):sumC l f=sumC (l.eraseIdx k) f+cntF x.P f:=sum_erase (fun x:Spc => cntF x.P f) l k x h
theorem sumC_set {l:List Spc} {k:Nat} {x y:Spc} (h:l[k]?=some x) (f:Int):sumC (l.set k y) f=sumC (l.eraseIdx k) f+cntF y.P f:=by
 have hk:k < l.length:=(List.getElem?_eq_some_iff.1 h).1
 have h1:=sumC_erase (l:=l.set k y) (k:=k) (x:=y) (by rw [List.getElem?_set_self hk]) f
 rw [erase_set] at h1
 exact h1
theorem sumC_pos {l:List Spc} {k:Nat} {x:Spc} (h:l[k]?=some x) (f:Int):cntF x.P f≤sumC l f:=by rw [sumC_erase h]; omega
theorem sumC_append (l:List Spc) (x:Spc) (f:Int):sumC (l ++ [x]) f=sumC l f+cntF x.P f:=by simp [sumC]
theorem sumC_le {l:List Spc} {f:Int} (h:∀ x∈l,cntF x.P f≤1):sumC l f≤l.length:=by
 induction l with
 | nil => exact Nat.le_refl _
 | cons x l ih =>
  have h1:=ih (fun y hy => h y (List.mem_cons_of_mem _ hy))
  have h2:=h x (List.mem_cons_self ..)
  unfold sumC at *
  rw [List.map_cons,List.sum_cons,List.length_cons]
  omega
structure VmAll (w:World) (s:SB) (n:Nat) (t:St) (l:List Spc):Prop where
 store:StoreIs w s n t
 sps:∀ (k:Nat) (x:Spc),l[k]?=some x→SpIs w x.sp x.pm s.sb x.P
 off:∀ (k:Nat) (x:Spc),l[k]?=some x→¬ StFoot s t.vs x.sp∧¬ StFoot s t.vs x.pm
 ap:∀ (i j:Nat) (x y:Spc),l[i]?=some x→l[j]?=some y→i≠j→x.sp≠y.pm∧x.pm≠y.pm∧x.sp≠y.sp
 refs:∀ f,0≤f→t.R f=sumC l f
 one:∀ (k:Nat) (x:Spc),l[k]?=some x→∀ f,0≤f→cntF x.P f≤1
def AllFoot (s:SB) (vs:Nat→Value) (l:List Spc) (k:Nat):Prop:=StFoot s vs k∨∃ (i:Nat) (x:Spc),l[i]?=some x∧(k=x.sp∨k=x.pm)
section
variable {w w' w1 w2 w3:World} {s:SB} {n:Nat} {t t' t1 t2:St} {l:List Spc} {k:Nat} {x:Spc} {P':Int→Option Pg} {O:Int→Nat}
theorem VmAll.turned {S:Nat→Prop} (h:VmAll w s n t l) (tt:Turn S w w') (hS:∀ k,AllFoot s t.vs l k→¬ S k):VmAll w' s n t l :=
 ⟨h.store.turned tt (fun k hk => hS k (.inl hk)),fun k x hk => (h.sps k x hk).turned tt (hS _ (.inr ⟨k,x,hk,.inl rfl⟩)) (hS _ (.inr ⟨k,x,hk,.inr rfl⟩)),h.off,h.ap,h.refs,h.one⟩
theorem VmAll.foot_lt (h:VmAll w s n t l) (k:Nat) (hk:AllFoot s t.vs l k):k < w.heap.size:=by
 rcases hk with hk | ⟨i,x,hx,rfl | rfl⟩
 ·exact h.store.foot_lt k hk
 ·exact (h.sps i x hx).lt.1
 ·exact (h.sps i x hx).lt.2
theorem VmAll.at (h:VmAll w s n t l) (hk:l[k]?=some x):VmOne w s n t x.sp x.pm x.P (fun f => sumC (l.eraseIdx k) f) :=
 ⟨h.store,h.sps k x hk,h.off k x hk,fun f hf => (h.refs f hf).trans (sumC_erase hk f),h.one k x hk⟩
def AllAfter (s:SB) (n:Nat) (t:St) (l:List Spc) (w w':World) (t':St) (l':List Spc):Prop :=
 VmAll w' s n t' l'∧Turn (AllFoot s t.vs l) w w'∧∀ k,AllFoot s t'.vs l' k→AllFoot s t.vs l k∨w.heap.size≤k
theorem VmAll.after (h:VmAll w s n t l) (hk:l[k]?=some x) (hA:VmAfter s n t x.sp x.pm (fun f => sumC (l.eraseIdx k) f) w w' P' t'):AllAfter s n t l w w' t' (l.set k ⟨x.sp,x.pm,P'⟩):=by
 obtain ⟨a,b,c⟩:=hA
 have hkl:k < l.length:=(List.getElem?_eq_some_iff.1 hk).1
 have hget:∀ (i:Nat) (y:Spc),(l.set k ⟨x.sp,x.pm,P'⟩)[i]?=some y→(i=k∧y=⟨x.sp,x.pm,P'⟩)∨(i≠k∧l[i]?=some y):=fun i y hi => by
  by_cases e:i=k
  ·subst e
   rw [List.getElem?_set_self hkl] at hi
   exact .inl ⟨rfl,(Option.some.inj hi).symm⟩
  ·rw [List.getElem?_set_ne (fun e2 => e e2.symm)] at hi
   exact .inr ⟨e,hi⟩
 have hold:∀ (i:Nat) (y:Spc),(l.set k ⟨x.sp,x.pm,P'⟩)[i]?=some y→∃ y',l[i]?=some y'∧y'.sp=y.sp∧y'.pm=y.pm:=fun i y hi => by
  rcases hget i y hi with ⟨rfl,rfl⟩ | ⟨_,h2⟩
  ·exact ⟨x,hk,rfl,rfl⟩
  ·exact ⟨y,h2,rfl,rfl⟩
 have hoff:∀ (i:Nat) (y:Spc),l[i]?=some y→¬ StFoot s t'.vs y.sp∧¬ StFoot s t'.vs y.pm:=fun i y hy => by
  have h1:=h.off i y hy
  have h2:=(h.sps i y hy).lt
  refine ⟨fun hf => ?_,fun hf => ?_⟩
  ·rcases c _ hf with h3 | h3
   ·exact h1.1 h3
   ·omega
  ·rcases c _ hf with h3 | h3
   ·exact h1.2 h3
   ·omega
 refine ⟨⟨a.store,fun i y hi => ?_,fun i y hi => ?_,fun i j y z hi hj hne => ?_,fun f hf => ?_,fun i y hi => ?_⟩,b.mono (fun j _ hj => ?_),fun j hj => ?_⟩
 ·rcases hget i y hi with ⟨rfl,rfl⟩ | ⟨h1,h2⟩
  ·exact a.space
  ·have h3:=h.ap i k y x h2 hk h1
   have h4:=h.off i y h2
   exact (h.sps i y h2).turned b (fun e => e.elim (fun e => h3.1 e) (fun e => h4.1 e)) (fun e => e.elim (fun e => h3.2.1 e) (fun e => h4.2 e))
 ·obtain ⟨y',h1,h2,h3⟩:=hold i y hi
  rw [← h2,← h3]
  exact hoff i y' h1
 ·obtain ⟨y',h1,h2,h3⟩:=hold i y hi
  obtain ⟨z',h4,h5,h6⟩:=hold j z hj
  rw [← h2,← h3,← h5,← h6]
  exact h.ap i j y' z' h1 h4 hne
 ·rw [sumC_set hk]
  exact a.refs f hf
 ·rcases hget i y hi with ⟨rfl,rfl⟩ | ⟨_,h2⟩
  ·exact a.one
  ·exact h.one i y h2
 ·rcases hj with rfl | hj
  ·exact .inr ⟨k,x,hk,.inr rfl⟩
  ·exact .inl hj
 ·rcases hj with hj | ⟨i,y,hi,hj⟩
  ·exact (c j hj).imp .inl id
  ·obtain ⟨y',h1,h2,h3⟩:=hold i y hi
   exact .inl (.inr ⟨i,y',h1,by rw [h2,h3]; exact hj⟩)
theorem R_small (h:VmAll w s n t l) (hl:l.length≤100) (f:Int) (hf:0≤f):t.R f+64≤100000:=by
 have h1:=sumC_le (l:=l) (f:=f) (fun x hx => by
  obtain ⟨i,hi⟩:=List.getElem?_of_mem hx
  exact h.one i x hi f hf)
 have h2:=h.refs f hf
 omega
theorem VmAll.forked (h:VmAll w s n t l) (hk:l[k]?=some x) {sp2 pm2:Nat} {rl:List (Int×Nat)} (hS:SpIs w' sp2 pm2 s.sb x.P) (hA:StAfter s n t w w' { t with rl:=rl }) (hR:∀ f,0≤f→({ t with rl:=rl }:St).R f=t.R f+cntF x.P f) (h1:w.heap.size≤sp2) (h2:w.heap.size≤pm2) :
  AllAfter s n t l w w' { t with rl:=rl } (l ++ [⟨sp2,pm2,x.P⟩]):=by
 obtain ⟨a,b,c⟩:=hA
 have hget:∀ (i:Nat) (y:Spc),(l ++ [(⟨sp2,pm2,x.P⟩:Spc)])[i]?=some y→(i=l.length∧y=⟨sp2,pm2,x.P⟩)∨l[i]?=some y:=fun i y hi => by
  by_cases e:i < l.length
  ·rw [List.getElem?_append_left e] at hi; exact .inr hi
  ·rw [List.getElem?_append_right (by omega)] at hi
   have h3:i - l.length=0:=by
    by_cases e2:i - l.length=0
    ·exact e2
    ·rw [List.getElem?_eq_none (by simp; omega)] at hi; cases hi
   rw [h3] at hi
   simp only [List.getElem?_cons_zero,Option.some.injEq] at hi
   exact .inl ⟨by omega,hi.symm⟩
 have hnew:¬ StFoot s t.vs sp2∧¬ StFoot s t.vs pm2:=⟨fun hf => by have:=h.store.foot_lt _ hf; omega,fun hf => by have:=h.store.foot_lt _ hf; omega⟩
 refine ⟨⟨a,fun i y hi => ?_,fun i y hi => ?_,fun i j y z hi hj hne => ?_,fun f hf => ?_,fun i y hi => ?_⟩,b.mono (fun j _ hj => .inl hj),fun j hj => ?_⟩
 ·rcases hget i y hi with ⟨rfl,rfl⟩ | hy
  ·exact hS
  ·exact (h.sps i y hy).turned b (h.off i y hy).1 (h.off i y hy).2
 ·rcases hget i y hi with ⟨rfl,rfl⟩ | hy
  ·exact hnew
  ·exact h.off i y hy
 ·rcases hget i y hi with ⟨rfl,rfl⟩ | hy
  ·rcases hget j z hj with ⟨rfl,rfl⟩ | hz
   ·exact absurd rfl hne
   ·have h3:=(h.sps j z hz).lt
    exact ⟨by simp only; omega,by simp only; omega,by simp only; omega⟩
  ·rcases hget j z hj with ⟨rfl,rfl⟩ | hz
   ·have h3:=(h.sps i y hy).lt
    exact ⟨by simp only; omega,by simp only; omega,by simp only; omega⟩
   ·exact h.ap i j y z hy hz hne
 ·rw [hR f hf,sumC_append,h.refs f hf]
 ·rcases hget i y hi with ⟨rfl,rfl⟩ | hy
  ·exact h.one k x hk
  ·exact h.one i y hy
 ·rcases hj with hj | ⟨i,y,hi,hj⟩
  ·exact .inl (.inl hj)
  ·rcases hget i y hi with ⟨rfl,rfl⟩ | hy
   ·right
    rcases hj with rfl | rfl
    ·exact h1
    ·exact h2
   ·exact .inl (.inr ⟨i,y,hy,hj⟩)
theorem cntB_sum (g:Nat→Bool):∀ k,cntB g k=sumN (fun i => if g i then 1 else 0) k
 | 0 => rfl
 | k+1 => by
  rw [cntB_succ,cntB_sum g k]
  rfl
theorem sumN_swap (c:Nat→Nat→Nat) (m:Nat):∀ k,sumN (fun f => sumN (fun i => c f i) m) k=sumN (fun i => sumN (fun f => c f i) k) m
 | 0 => (sumN_zero (fun _ _ => rfl)).symm
 | k+1 => by
  show sumN (fun f => sumN (fun i => c f i) m) k+sumN (fun i => c k i) m=sumN (fun i => sumN (fun f => c f i) k+c k i) m
  rw [sumN_swap c m k,sumN_add]
theorem sumN_has (o:Option Pg) (n:Nat) (h:∀ q,o=some q→q.2 < n):sumN (fun f => hasF o (f:Int)) n=resO o:=by
 cases o with
 | none => exact sumN_zero (fun _ _ => rfl)
 | some q =>
  have hq:=h q rfl
  show _=if 0≤q.2 then 1 else 0
  by_cases h0:0≤q.2
  ·rw [if_pos h0]
   have h1:=sumN_upd (fun _ => 0) q.2.toNat 1 n (by omega)
   have h2:sumN (fun _ => 0) n=0:=sumN_zero (fun _ _ => rfl)
   have e:sumN (fun f => hasF (some q) (f:Int)) n=sumN (fun j => if j=q.2.toNat then 1 else 0) n:=sumN_congr fun j _ => by
    rw [hasF_some]
    by_cases e:q.2=(j:Int)
    ·rw [if_pos e,if_pos (by omega)]
    ·rw [if_neg e,if_neg (by omega)]
   rw [e]
   omega
  ·rw [if_neg h0]
   exact sumN_zero (fun j _ => by rw [hasF_some,if_neg (by omega)])
theorem res_sum {P:Int→Option Pg} (n:Nat) (h:∀ i q,P i=some q→q.2 < n):sumN (fun f => cntF P (f:Int)) n=resP P:=by
 show sumN (fun f => sumN (fun i => hasF (P (i:Int)) (f:Int)) 64) n=_
 rw [sumN_swap (fun f i => hasF (P (i:Int)) (f:Int)) 64 n]
 exact sumN_congr fun i _ => sumN_has _ n (h i)
theorem VmAll.frames_lt (h:VmAll w s n t l) (hk:l[k]?=some x) (i:Int) (q:Pg) (hq:x.P i=some q):q.2 < n:=by
 by_cases h0:0≤q.2
 ·have hd:=(h.sps k x hk).dom i q hq
  have h1:=cntF_ge (P:=x.P) (i:=i) (f:=q.2) hd.1 hd.2
  rw [hq,hasF_some,if_pos rfl] at h1
  have h2:=h.refs q.2 h0
  have h3:=sumC_pos hk q.2
  exact (h.store.frame (f:=q.2) (by omega)).2
 ·omega
theorem VmAll.most (h:VmAll w s n t l) (hk:l[k]?=some x):resP x.P≤usedN t.R n:=by
 rw [← res_sum n (h.frames_lt hk)]
 unfold usedN
 rw [cntB_sum]
 refine sumN_le fun f hf => ?_
 have h1:=h.one k x hk (f:Int) (by omega)
 have h2:=h.refs (f:Int) (by omega)
 have h3:=sumC_pos hk (f:Int)
 by_cases e:0 < t.R (f:Int)
 ·simp [e]; omega
 ·simp [e]; omega
def sumR (l:List Spc):Nat:=(l.map fun x => resP x.P).sum
theorem sumR_le:∀ l:List Spc,sumR l≤l.length * 64
 | [] => Nat.zero_le _
 | x :: l => by
  have h1:=sumR_le l
  have h2:=resP_le x.P
  unfold sumR at *
  rw [List.map_cons,List.sum_cons,List.length_cons]
  omega
theorem sumN_list (c:Spc→Nat→Nat) (n:Nat):∀ l:List Spc,sumN (fun f => (l.map fun x => c x f).sum) n=(l.map fun x => sumN (c x) n).sum
 | [] => sumN_zero (fun _ _ => rfl)
 | x :: l => by
  have h1:=sumN_list c n l
  show sumN (fun f => c x f+(l.map fun x => c x f).sum) n=sumN (c x) n+_
  rw [sumN_add,h1]
  rfl
theorem VmAll.sum (h:VmAll w s n t l):usedN t.R n≤sumR l:=by
 have e:sumR l=sumN (fun f => sumC l (f:Int)) n:=by
  unfold sumC
  rw [sumN_list (fun x f => cntF x.P (f:Int)) n l]
  unfold sumR
  congr 1
  refine List.map_congr_left fun x hx => ?_
  obtain ⟨k,hk⟩:=List.getElem?_of_mem hx
  exact (res_sum n (h.frames_lt hk)).symm
 rw [e]
 unfold usedN
 rw [cntB_sum]
 refine sumN_le fun f hf => ?_
 have h2:=h.refs (f:Int) (by omega)
 rw [← h2]
 by_cases e:0 < t.R (f:Int)
 ·simp [e]; omega
 ·simp [e]
theorem VmAll.first (h:StoreIs w s n t) (hR:∀ f,t.R f=0) {sp pm:Nat} (hs:SpIs w sp pm s.sb (fun _ => none)) (ho:¬ StFoot s t.vs sp∧¬ StFoot s t.vs pm):VmAll w s n t [⟨sp,pm,fun _ => none⟩]:=by
 have hget:∀ (i:Nat) (y:Spc),[(⟨sp,pm,fun _ => none⟩:Spc)][i]?=some y→i=0∧y=⟨sp,pm,fun _ => none⟩:=fun i y hi => by
  cases i with
  | zero => exact ⟨rfl,(Option.some.inj hi).symm⟩
  | succ i => simp at hi
 have hz:∀ f,cntF (fun _ => none) f=0:=fun f => sumN_zero (fun _ _ => rfl)
 refine ⟨h,fun i y hi => ?_,fun i y hi => ?_,fun i j y z hi hj hne => ?_,fun f hf => ?_,fun i y hi f hf => ?_⟩
 ·obtain ⟨_,rfl⟩:=hget i y hi; exact hs
 ·obtain ⟨_,rfl⟩:=hget i y hi; exact ho
 ·exact absurd ((hget i y hi).1.trans (hget j z hj).1.symm) hne
 ·rw [hR f]; show 0=cntF _ f+0; rw [hz]
 ·obtain ⟨_,rfl⟩:=hget i y hi; rw [hz]; omega
end
section
variable {w:World} {sp pm sb:Nat} {P:Int→Option Pg}
theorem vmLen_is (h:SpIs w sp pm sb P):Calls Tryz.prog 76 #[.pointer (some ⟨sp,0,none⟩)] w fun e w' => e=.returned (.int .i64 (lenP P))∧w=w':=by
 obtain ⟨pl,hp,he⟩:=h.pages
 have c1:=h.c1
 have hlen:=len_pages hp.nodup h he
 have hl:∀ ty,(Builtin.len_ #[224] ty #[.map (some pm)]).run Tryz.prog w=.ok (.int .i64 (lenP P)) w:=fun ty => by rw [← hlen]; exact hp.run_len Tryz.underlying224 ty
 have hle:=lenP_le P
 clear he hp h hlen
 go_enter Tryz.func76,Tryz.ntmps76
 go_wp2_with fail
 go_ret
 exact ⟨rfl,rfl⟩
end
end Go.Proofs.YtamleilijmgoeaaGreatDoor
