/- The program's files and tables and the document's beside each other: each doing, of the one and of the other. Conditions: each theorem's own premises. The program's files and the document's beside each other: each call of the one, told over the plain state; what each call keeps. Conditions: each theorem's own premises. Each call of package desc and of the document's Files: both told over the same plain state. Conditions: each theorem's own premises; the variable errors.errorType holds what is laid. The law's fds: true, and the program's and the document's plain states stay alike. Conditions: each theorem's own premises; the variable errors.errorType holds what is laid. The program's files and the document's beside each other: how they begin; what is asked of them between; Unlink, Fork. Conditions: each theorem's own premises; the variable errors.errorType holds what is laid. The program's files and the document's beside each other: a table comes, a row grows; how all begins. Conditions: each theorem's own premises. Files over a tree with one file, opened once or twice: plain. No program in sight. Conditions: each theorem's own premises. DescPlays walked: true, and nothing that was there turns. Conditions: the variable errors.errorType holds what is laid; the arguments lie in memory. -/
import Derived.Test.YtncfmlifponjdaaGreatDoorDescLaw
import Derived.Test.YtncfmlifponjdaaGreatDoorRefDup2
import Derived.Test.YtncfmlifponjdaaGreatDoorRefClose
import Derived.Deep.RegionWith
import Derived.Deep.RegionHeld3
import Derived.Deep.DeepCutAuto
import Derived.Deep.CutBlock
import Derived.Outline
import Derived.Test.YtncfmlifponjdaaGreatDoorTreeKept
import Derived.Test.YtncfmlifponjdaaGreatDoorRefNames
import Derived.Test.YtncfmlifponjdaaGreatDoorPaths
import Derived.Deep.LoopGhost
import Derived.Deep.QuietTactic
import Derived.BigQuiet
namespace Go.Proofs.YtncfmlifponjdaaGreatDoor
open Go.RowKit
set_option linter.unusedVariables false
set_option maxHeartbeats 40000000
set_option maxRecDepth 100000
theorem bareT (z:Int) (w:World) (hg:Laid w):Calls Tryz.prog 8 #[TErr z,.int .i64 z] w fun e w' => e=.returned (.bool true)∧Turn (fun _ => False) w w':=by
 by_cases hz:z=0
 ·subst hz
  exact bare_nil w
 ·rw [TErr_of hz]
  exact bare_errno z w hg
structure TD (W w:World) (fb tb gb rb:Nat) (S:PS) (ts:List (Nat×PTab)) (Sd:PS) (φ:Int→Int) (nx:Int) (us:List (Nat×PTab)) (vp:Value) (rs:List Value) (vd:Value) (qs:List Value) (C:Nat→Nat×Nat):Prop where
 fp:∃ F,FilesIs w fb tb S F∧∀ k,F k→C k=(1,0)
 fd:∃ G π,RFilesIs w gb rb Sd φ π nx G∧∀ k,G k→C k=(2,0)
 tp:∀ (j:Nat) (x:Nat×PTab),ts[j]?=some x→TabIs w x.1 x.2∧C x.1=(3,j)
 td:∀ (j:Nat) (x:Nat×PTab),us[j]?=some x→RTabIs w x.1 (relL φ x.2)∧C x.1=(4,j)
 rp:RowV w 36 vp rs∧∀ g,vp.ownBlock=some g→C g=(5,0)
 rd:RowV w 43 vd qs∧∀ g,vd.ownBlock=some g→C g=(6,0)
 tu:Turn (fun _ => False) W w
 lo:∀ k,C k≠(0,0)→W.heap.size≤k∧k < w.heap.size
 c3:∀ k j,C k=(3,j)→∃ x,ts[j]?=some x∧x.1=k
section
variable {W w w' w1:World} {fb tb gb rb tab:Nat} {S S' Sd Sd':PS} {ts us:List (Nat×PTab)} {φ φ':Int→Int} {nx nx' n:Int} {vp vd:Value} {rs qs:List Value} {C:Nat→Nat×Nat} {i j:Nat} {L L':PTab}
theorem tdm_ne {a b:Nat×Nat} {i j:Nat} (h1:C i=a) (h2:C j=b) (h:a≠b):i≠j:=fun e => h (by rw [← h1,← h2,e])
theorem TD.turned {X:Nat→Prop} (h:TD W w fb tb gb rb S ts Sd φ nx us vp rs vd qs C) (t:Turn X w w') (hx:∀ k,X k→C k=(0,0)∧W.heap.size≤k):TD W w' fb tb gb rb S ts Sd φ nx us vp rs vd qs C:=by
 have no:∀ {k a},C k=a→a≠(0,0)→¬ X k:=fun h1 h2 h3 => h2 (h1.symm.trans (hx _ h3).1)
 obtain ⟨F,f1,f2⟩:=h.fp
 obtain ⟨G,π,g1,g2⟩:=h.fd
 exact ⟨⟨F,f1.turned t (fun k hk => no (f2 k hk) (by simp)),f2⟩,⟨G,π,g1.turned t (fun k hk => no (g2 k hk) (by simp)),g2⟩,fun j x hj => ⟨(h.tp j x hj).1.turned t (no (h.tp j x hj).2 (by simp)),(h.tp j x hj).2⟩,fun j x hj => ⟨(h.td j x hj).1.turned t (no (h.td j x hj).2 (by simp)),(h.td j x hj).2⟩,⟨h.rp.1.turned t (fun g hg => no (h.rp.2 g hg) (by simp)),h.rp.2⟩,⟨h.rd.1.turned t (fun g hg => no (h.rd.2 g hg) (by simp)),h.rd.2⟩,h.tu.trans' t (fun k hk hk2 => by have:=(hx k hk2).2; omega),fun k hk => ⟨(h.lo k hk).1,Nat.lt_of_lt_of_le (h.lo k hk).2 t.size⟩,h.c3⟩
theorem TD.still (h:TD W w fb tb gb rb S ts Sd φ nx us vp rs vd qs C) (t:Turn (fun _ => False) w w'):TD W w' fb tb gb rb S ts Sd φ nx us vp rs vd qs C:=h.turned t (fun _ h => h.elim)
theorem TD.tok (h:TD W w fb tb gb rb S ts Sd φ nx us vp rs vd qs C):TOk S.T:=by
 obtain ⟨F,⟨om,B,P,Ft,C',hin,rfl⟩,f2⟩:=h.fp
 exact hin.tr.ok
theorem tds_set {β:Type} {ts:List (Nat×β)} {b:β} {x y:Nat×β} (hi:ts[i]?=some x) (h:(ts.set i (x.1,b))[j]?=some y):(j=i∧y=(x.1,b))∨(j≠i∧ts[j]?=some y):=by
 by_cases e:j=i
 ·subst e
  rw [List.getElem?_set_self (by rcases Nat.lt_or_ge j ts.length with h1 | h1; exact h1; rw [List.getElem?_eq_none h1] at hi; cases hi)] at h
  exact .inl ⟨rfl,(Option.some.inj h).symm⟩
 ·rw [List.getElem?_set_ne (fun h => e h.symm)] at h
  exact .inr ⟨e,h⟩
theorem mark_new (C:Nat→Nat×Nat) (sz:Nat) (F':Nat→Prop) (m:Nat×Nat):∃ C':Nat→Nat×Nat,(∀ k,k < sz→C' k=C k)∧(∀ k,¬ k < sz→F' k→C' k=m)∧(∀ k,¬ k < sz→¬ F' k→C' k=(0,0)):=by
 classical
 exact ⟨fun k => if k < sz then C k else if F' k then m else (0,0),fun k h => if_pos h,fun k h hf => (if_neg h).trans (if_pos hf),fun k h hf => (if_neg h).trans (if_neg hf)⟩
def progB (w:World) (C:Nat→Nat×Nat):Base:=⟨w,fun k => k < w.heap.size∧C k≠(1,0)∧(C k).1≠3⟩
theorem TD.dlaw (h:TD W w fb tb gb rb S ts Sd φ nx us vp rs vd qs C):DLawB (progB w C) w fb tb S ts:=by
 obtain ⟨F,f1,f2⟩:=h.fp
 refine ⟨⟨F,f1,fun k hk ho => ho.2.1 (f2 k hk),fun j x hx hF => ?_⟩,fun j x hx => ⟨(h.tp j x hx).1,fun ho => ho.2.2 (by rw [(h.tp j x hx).2])⟩,fun i j x y hx hy hne => tdm_ne (h.tp i x hx).2 (h.tp j y hy).2 (by simp [hne]),Turn.refl _ _,fun k hk => hk.1⟩
 have h1:=f2 _ hF
 rw [(h.tp j x hx).2] at h1
 simp at h1
theorem TD.laidB (h:TD W w fb tb gb rb S ts Sd φ nx us vp rs vd qs C) (hL:Laid W):LaidB (progB w C):=by
 have hz:C 0=(0,0):=Classical.byContradiction fun e => by
  have:=(h.lo _ e).1
  have:=hL.lt
  omega
 refine ⟨hL.turned0 h.tu,Nat.lt_of_lt_of_le hL.lt h.tu.size,?_,?_⟩
 ·rw [hz]; simp
 ·rw [hz]; simp
theorem TD.prog (h:TD W w fb tb gb rb S ts Sd φ nx us vp rs vd qs C) {ts':List (Nat×PTab)} (hts:ts'.map Prod.fst=ts.map Prod.fst) (hd:DLawB (progB w C) w' fb tb S' ts') :
  ∃ C',TD W w' fb tb gb rb S' ts' Sd φ nx us vp rs vd qs C'∧(∀ k,k < w.heap.size→C' k=C k)∧Turn (fun k => C k≠(0,0)) w w':=by
 obtain ⟨F',a,b,d⟩:=hd.files
 obtain ⟨C',m1,m2,m3⟩:=mark_new C w.heap.size F' (1,0)
 have t:Turn (fun k => ¬ (k < w.heap.size∧C k≠(1,0)∧(C k).1≠3)) w w':=hd.turn
 have no:∀ {k x},C k=x→x≠(0,0)→x≠(1,0)→x.1≠3→¬ ¬ (k < w.heap.size∧C k≠(1,0)∧(C k).1≠3):=fun h1 h0 h2 h3 h4 => h4 ⟨(h.lo _ (by rw [h1]; exact h0)).2,by rw [h1]; exact h2,by rw [h1]; exact h3⟩
 have old:∀ k,C k≠(0,0)→k < w.heap.size:=fun k hk => (h.lo k hk).2
 have keep:∀ {k x},C k=x→x≠(0,0)→C' k=x:=fun h1 h2 => by rw [m1 _ (old _ (by rw [h1]; exact h2))]; exact h1
 have same:∀ (j:Nat) (x:Nat×PTab),ts'[j]?=some x→∃ y,ts[j]?=some y∧y.1=x.1:=fun j x hx => by
  have h1:(ts'.map Prod.fst)[j]?=some x.1:=by rw [List.getElem?_map,hx]; rfl
  rw [hts,List.getElem?_map] at h1
  cases hy:ts[j]? with
  | none => rw [hy] at h1; cases h1
  | some y => rw [hy] at h1; exact ⟨y,rfl,Option.some.inj h1⟩
 have same2:∀ (j:Nat) (x:Nat×PTab),ts[j]?=some x→∃ y,ts'[j]?=some y∧y.1=x.1:=fun j x hx => by
  have h1:(ts.map Prod.fst)[j]?=some x.1:=by rw [List.getElem?_map,hx]; rfl
  rw [← hts,List.getElem?_map] at h1
  cases hy:ts'[j]? with
  | none => rw [hy] at h1; cases h1
  | some y => rw [hy] at h1; exact ⟨y,rfl,Option.some.inj h1⟩
 refine ⟨C',⟨⟨F',a,fun k hk => ?_⟩,?_,fun j x hx => ?_,fun j x hx => ?_,⟨h.rp.1.turned t (fun g hg => no (h.rp.2 g hg) (by simp) (by simp) (by simp)),fun g hg => keep (h.rp.2 g hg) (by simp)⟩,⟨h.rd.1.turned t (fun g hg => no (h.rd.2 g hg) (by simp) (by simp) (by simp)),fun g hg => keep (h.rd.2 g hg) (by simp)⟩,h.tu.trans' t (fun k hk hx => ?_),fun k hk => ?_,fun k j hk => ?_⟩,m1,t.mono (fun k hk hn e => hn ⟨hk,by rw [e]; simp,by rw [e]; simp⟩)⟩
 ·by_cases e:k < w.heap.size
  ·rw [m1 k e]
   refine Classical.byContradiction fun hne => ?_
   have h3:(C k).1=3:=Classical.byContradiction fun h3 => b k hk ⟨e,hne,h3⟩
   obtain ⟨x,hx,hxk⟩:=h.c3 k (C k).2 (Prod.ext h3 rfl)
   obtain ⟨y,hy,hyx⟩:=same2 _ x hx
   exact d _ y hy (by rw [hyx,hxk]; exact hk)
  ·exact m2 k e hk
 ·obtain ⟨G,π,g1,g2⟩:=h.fd
  exact ⟨G,π,g1.turned t (fun k hk => no (g2 k hk) (by simp) (by simp) (by simp)),fun k hk => keep (g2 k hk) (by simp)⟩
 ·obtain ⟨y,hy,e⟩:=same j x hx
  exact ⟨(hd.tabs j x hx).1,by rw [← e]; exact keep (h.tp j y hy).2 (by simp)⟩
 ·exact ⟨(h.td j x hx).1.turned t (no (h.td j x hx).2 (by simp) (by simp) (by simp)),keep (h.td j x hx).2 (by simp)⟩
 ·have hz:=(h.lo k (fun e0 => hx ⟨Nat.lt_of_lt_of_le hk h.tu.size,by rw [e0]; simp,by rw [e0]; simp⟩)).1
  omega
 ·by_cases e:k < w.heap.size
  ·rw [m1 k e] at hk
   exact ⟨(h.lo k hk).1,Nat.lt_of_lt_of_le e t.size⟩
  ·by_cases e2:F' k
   ·exact ⟨by have:=h.tu.size; omega,a.low k e2⟩
   ·rw [m3 k e e2] at hk; exact absurd rfl hk
 ·by_cases e:k < w.heap.size
  ·rw [m1 k e] at hk
   obtain ⟨x,hx,hxk⟩:=h.c3 k j hk
   obtain ⟨y,hy,hyx⟩:=same2 j x hx
   exact ⟨y,hy,hyx.trans hxk⟩
  ·by_cases e2:F' k
   ·rw [m2 k e e2] at hk; simp at hk
   ·rw [m3 k e e2] at hk; simp at hk
theorem TD.doc (h:TD W w fb tb gb rb S ts Sd φ nx us vp rs vd qs C) (hok:∀ (j:Nat) (x:Nat×PTab),us[j]?=some x→TabOk Sd x.2) (hi:us[i]?=some (tab,L)) {G:Nat→Prop} (hG:∀ k,G k→C k=(2,0)) (hto:RFilesTo gb rb tab G w w' Sd Sd' φ nx L') :
  ∃ C' φ' nx',TD W w' fb tb gb rb S ts Sd' φ' nx' (us.set i (tab,L')) vp rs vd qs C'∧nx'≤nx+3∧(∀ k,k < w.heap.size→C' k=C k)∧Turn (fun k => C k≠(0,0)) w w':=by
 obtain ⟨G',φ',π',nx',a,b,t,c,d,hφ,hnx⟩:=hto
 obtain ⟨C',m1,m2,m3⟩:=mark_new C w.heap.size G' (2,0)
 have hct:=(h.td i _ hi).2
 have no:∀ {k x},C k=x→x≠(2,0)→x≠(4,i)→¬ (G k∨k=tab):=fun h1 h2 h3 h4 => by
  rcases h4 with h4 | h4
  ·exact h2 (h1.symm.trans (hG _ h4))
  ·rw [h4] at h1; exact h3 (h1.symm.trans hct)
 have old:∀ k,C k≠(0,0)→k < w.heap.size:=fun k hk => (h.lo k hk).2
 have keep:∀ {k x},C k=x→x≠(0,0)→C' k=x:=fun h1 h2 => by rw [m1 _ (old _ (by rw [h1]; exact h2))]; exact h1
 refine ⟨C',φ',nx',⟨?_,⟨G',π',a,fun k hk => ?_⟩,fun j x hx => ?_,fun j x hx => ?_,⟨h.rp.1.turned t (fun g hg => no (h.rp.2 g hg) (by simp) (by simp)),fun g hg => keep (h.rp.2 g hg) (by simp)⟩,⟨?_,fun g hg => keep (h.rd.2 g hg) (by simp)⟩,h.tu.trans' t (fun k hk hx => ?_),fun k hk => ?_,fun k j hk => ?_⟩,hnx,fun k hk => m1 k hk,t.mono (fun k hk e => ?_)⟩
 ·obtain ⟨F,f1,f2⟩:=h.fp
  exact ⟨F,f1.turned t (fun k hk => no (f2 k hk) (by simp) (by simp)),fun k hk => keep (f2 k hk) (by simp)⟩
 ·by_cases e:k < w.heap.size
  ·rw [m1 k e]
   exact hG k ((c k hk).resolve_right (by omega))
  ·exact m2 k e hk
 ·exact ⟨(h.tp j x hx).1.turned t (no (h.tp j x hx).2 (by simp) (by simp)),keep (h.tp j x hx).2 (by simp)⟩
 ·rcases tds_set hi hx with ⟨rfl,rfl⟩ | ⟨h1,h2⟩
  ·exact ⟨b,keep hct (by simp)⟩
  ·have h3:=(h.td j x h2).1.turned t (no (h.td j x h2).2 (by simp) (by simp [h1]))
   exact ⟨h3.congr (rel_other (hok j x h2) hφ),keep (h.td j x h2).2 (by simp)⟩
 ·exact h.rd.1.turned t (fun g hg => no (h.rd.2 g hg) (by simp) (by simp))
 ·rcases hx with hx | hx
  ·have:=(h.lo k (by rw [hG k hx]; simp)).1; omega
  ·have:=(h.lo k (by rw [hx,hct]; simp)).1; omega
 ·by_cases e:k < w.heap.size
  ·rw [m1 k e] at hk
   exact ⟨(h.lo k hk).1,Nat.lt_of_lt_of_le e t.size⟩
  ·by_cases e2:G' k
   ·exact ⟨by have:=h.tu.size; omega,a.low k e2⟩
   ·rw [m3 k e e2] at hk; exact absurd rfl hk
 ·by_cases e:k < w.heap.size
  ·rw [m1 k e] at hk
   exact h.c3 k j hk
  ·by_cases e2:G' k
   ·rw [m2 k e e2] at hk; simp at hk
   ·rw [m3 k e e2] at hk; simp at hk
 ·rcases e with e | e
  ·rw [hG k e]; simp
  ·rw [e,hct]; simp
end
abbrev XFd:=Int×Int×Int×Int×ByteArray×Bool
def FdAt (w:World) (b:Nat) (x:XFd):Prop :=
 w.cell? ⟨b,0,none⟩=some (.int .i64 x.1)∧w.cell? ⟨b,1,none⟩=some (.int .i64 x.2.1)∧w.cell? ⟨b,2,none⟩=some (.int .i64 x.2.2.1)∧w.cell? ⟨b,3,none⟩=some (.int .i64 x.2.2.2.1)∧w.cell? ⟨b,4,none⟩=some (.string x.2.2.2.2.1)∧w.cell? ⟨b,5,none⟩=some (.bool x.2.2.2.2.2)
theorem FdAt.turned {w w':World} {b:Nat} {x:XFd} {S:Nat→Prop} (h:FdAt w b x) (t:Turn S w w') (hb:¬ S b):FdAt w' b x:=by
 obtain ⟨h0,h1,h2,h3,h4,h5⟩:=h
 exact ⟨(t.cell (lt_of_cell h0) hb).trans h0,(t.cell (lt_of_cell h1) hb).trans h1,(t.cell (lt_of_cell h2) hb).trans h2,(t.cell (lt_of_cell h3) hb).trans h3,(t.cell (lt_of_cell h4) hb).trans h4,(t.cell (lt_of_cell h5) hb).trans h5⟩
structure DK where
 W:World
 fb:Nat
 tb:Nat
 gb:Nat
 rb:Nat
 vp:Value
 rs:List Value
 vd:Value
 qs:List Value
 ps:List Nat
 x:XFd
structure DS where
 S:PS
 ts:List (Nat×PTab)
 us:List (Nat×PTab)
def TDb (K:DK) (s s':DS) (nx:Int) (a b:Bool) (w:World):Prop :=
 ∃ C φ nx',TD K.W w K.fb K.tb K.gb K.rb (cond a s'.S s.S) (cond a s'.ts s.ts) (cond b s'.S s.S) φ nx' (cond b s'.us s.us) K.vp K.rs K.vd K.qs C∧nx'≤nx+cond b 3 0∧∀ p∈K.ps,C p=(0,0)∧K.W.heap.size≤p∧FdAt w p K.x
structure DInv (s:DS) (B:Nat):Prop where
 ok:DOk s.S
 joint:Joint s.S s.ts
 alive:Alive s.S.T
 bnd:TBnd s.S.T B
 few:s.ts.length≤8
 same:s.us.map Prod.snd=s.ts.map Prod.snd
section
variable {K:DK} {s s':DS} {nx:Int} {a b:Bool} {w w':World} {u t i B:Nat} {L L':PTab} {v:Value} {f:FuncId} {args:Array Value} {n m:Int}
theorem FdAt.lt {p:Nat} {x:XFd} (h:FdAt w p x):p < w.heap.size:=lt_of_cell h.1
theorem TDb.still (h:TDb K s s' nx a b w) (t:Turn (fun _ => False) w w'):TDb K s s' nx a b w':=by
 obtain ⟨C,φ,nx',h1,h2,h3⟩:=h
 exact ⟨C,φ,nx',h1.still t,h2,fun p hp => ⟨(h3 p hp).1,(h3 p hp).2.1,(h3 p hp).2.2.turned t id⟩⟩
theorem TDb.at_ (h:TDb K s s' nx a b w) {p:Nat} (hp:p∈K.ps):FdAt w p K.x:=by
 obtain ⟨C,φ,nx',h1,h2,h3⟩:=h
 exact (h3 p hp).2.2
theorem TDb.both (h:TDb K s s' nx true true w):TDb K s' s' (nx+3) false false w:=by
 obtain ⟨C,φ,nx',h1,h2,h3⟩:=h
 have h2:nx'≤nx+3:=h2
 exact ⟨C,φ,nx',h1,by show nx'≤nx+3+0; omega,h3⟩
theorem TDb.none (h:TDb K s s nx false false w) (s':DS):TDb K s s' nx false false w:=h
theorem TDb.mono {nx2:Int} (h:TDb K s s' nx a b w) (hn:nx≤nx2):TDb K s s' nx2 a b w:=by
 obtain ⟨C,φ,nx',h1,h2,h3⟩:=h
 exact ⟨C,φ,nx',h1,by omega,h3⟩
theorem TDb.more (h:TDb K s s' nx a b w) (t:Turn (fun _ => False) w w') {p:Nat} (hp:w.heap.size≤p) (hx:FdAt w' p K.x):TDb { K with ps:=p :: K.ps } s s' nx a b w':=by
 obtain ⟨C,φ,nx',h1,h2,h3⟩:=h
 refine ⟨C,φ,nx',h1.still t,h2,fun q hq => ?_⟩
 have hq:q∈p :: K.ps:=hq
 rcases List.mem_cons.1 hq with rfl | hq
 ·refine ⟨Classical.byContradiction fun e => ?_,Nat.le_trans h1.tu.size hp,hx⟩
  have:=(h1.lo _ e).2
  omega
 ·exact ⟨(h3 q hq).1,(h3 q hq).2.1,(h3 q hq).2.2.turned t id⟩
theorem TDb.less {ps:List Nat} (h:TDb K s s' nx a b w) (hp:∀ q∈ps,q∈K.ps):TDb { K with ps:=ps } s s' nx a b w:=by
 obtain ⟨C,φ,nx',h1,h2,h3⟩:=h
 exact ⟨C,φ,nx',h1,h2,fun q hq => h3 q (hp q hq)⟩
theorem TDb.turn (h:TDb K s s' nx a b w):Turn (fun _ => False) K.W w:=by
 obtain ⟨C,φ,nx',h1,h2,h3⟩:=h
 exact h1.tu
theorem tdb_prog (h:TDb K s s' nx false b w) (hL:Laid K.W) (hts:s'.ts.map Prod.fst=s.ts.map Prod.fst)
  (hc:∀ Bs,DLawB Bs w K.fb K.tb s.S s.ts→LaidB Bs→Calls Tryz.prog f args w fun e w' => e=.returned v∧DLawB Bs w' K.fb K.tb s'.S s'.ts) :
  Calls Tryz.prog f args w fun e w' => e=.returned v∧TDb K s s' nx true b w':=by
 obtain ⟨C,φ,nx',h1,h2,h3⟩:=h
 refine (hc _ h1.dlaw (h1.laidB hL)).mono fun e w' x => ⟨x.1,?_⟩
 obtain ⟨C',g1,g2,g3⟩:=h1.prog hts x.2
 exact ⟨C',φ,nx',g1,h2,fun p hp => ⟨(g2 _ (h3 p hp).2.2.lt).trans (h3 p hp).1,(h3 p hp).2.1,(h3 p hp).2.2.turned g3 (fun e => e (h3 p hp).1)⟩⟩
theorem tdb_doc (h:TDb K s s' nx a false w) (hok:∀ (j:Nat) (x:Nat×PTab),s.us[j]?=some x→TabOk s.S x.2) (hi:s.us[i]?=some (u,L)) (hus:s'.us=s.us.set i (u,L'))
  (hc:∀ G π φ nx',RFilesIs w K.gb K.rb s.S φ π nx' G→RTabIs w u (relL φ L)→¬ G u→nx'≤nx→Calls Tryz.prog f args w fun e w' => e=.returned v∧RFilesTo K.gb K.rb u G w w' s.S s'.S φ nx' L') :
  Calls Tryz.prog f args w fun e w' => e=.returned v∧TDb K s s' nx a true w':=by
 obtain ⟨C,φ,nx',h1,h2,h3⟩:=h
 have h2:nx'≤nx+0:=h2
 obtain ⟨G,π,g1,g2⟩:=h1.fd
 have hu:=h1.td i _ hi
 refine (hc G π φ nx' g1 hu.1 (fun e => by have:=(g2 _ e).symm.trans hu.2; simp at this) (by omega)).mono fun e w' x => ⟨x.1,?_⟩
 obtain ⟨C',φ',nx2,k1,k2,k3,k4⟩:=h1.doc hok hi g2 x.2
 refine ⟨C',φ',nx2,?_,by show nx2≤nx+3; omega,fun p hp => ⟨(k3 _ (h3 p hp).2.2.lt).trans (h3 p hp).1,(h3 p hp).2.1,(h3 p hp).2.2.turned k4 (fun e => e (h3 p hp).1)⟩⟩
 show TD K.W w' K.fb K.tb K.gb K.rb _ _ s'.S φ' nx2 s'.us K.vp K.rs K.vd K.qs C'
 rw [hus]
 exact k1
theorem close_same {S:PS} (hS:DOk S) (hok:TabOk S L) (n:Int):closeE S L n=getE L n:=by
 unfold closeE
 cases hx:entL S L n with
 | none => unfold getE; rw [entL_none hok hx]; rfl
 | some x =>
  obtain ⟨k,e⟩:=x
  have hs:=(entL_some hx).1
  have he:=(entL_some hx).2
  have hg:getE L n=0:=by unfold getE; rw [hs]; rfl
  rw [hg]
  show (if 1 < e.refs then 0 else if e.kind=1 then dropE S.T e.node else 0)=0
  split
  ·rfl
  ·split
   ·rename_i hk
    obtain ⟨p,hp,hd,hh,h0⟩:=hS.heldPos he hk
    unfold dropE
    rw [hp]
    show (if p.isDir then 6 else if p.held=0 then 10 else 0)=0
    rw [if_neg (by rw [hd]; decide),if_neg (by omega)]
   ·rfl
theorem DInv.there (h:DInv s B) (j:Nat) (x:Nat×PTab) (hx:s.us[j]?=some x):TabOk s.S x.2:=by
 have h1:(s.us.map Prod.snd)[j]?=some x.2:=by rw [List.getElem?_map,hx]; rfl
 rw [h.same,List.getElem?_map] at h1
 cases hy:s.ts[j]? with
 | none => rw [hy] at h1; cases h1
 | some y =>
  rw [hy] at h1
  rw [← Option.some.inj h1]
  exact h.joint.there hy
theorem DInv.refs (h:DInv s B):∀ k e,mget s.S.es k=some e→e.refs < 999000:=h.joint.bound h.ok (by have:=h.few; omega)
theorem DInv.pos (h:DInv s B) (hi:s.ts[i]?=some (t,L)):∀ j,j < 8→0≤(L j).1∧(L j).1≤40:=h.joint.pos i _ hi
def DS.step (s:DS) (S':PS) (i t u:Nat) (L':PTab):DS:=⟨S',s.ts.set i (t,L'),s.us.set i (u,L')⟩
theorem DInv.step (h:DInv s B) {S':PS} {B':Nat} (h1:DOk S') (h2:Joint S' (s.ts.set i (t,L'))) (h3:Alive S'.T) (h4:TBnd S'.T B'):DInv (s.step S' i t u L') B':=by
 refine ⟨h1,h2,h3,h4,by show (s.ts.set i _).length≤8; rw [List.length_set]; exact h.few,?_⟩
 show (s.us.set i _).map Prod.snd=(s.ts.set i _).map Prod.snd
 rw [List.map_set,List.map_set,h.same]
theorem step_fst {s:DS} {S':PS} (hi:s.ts[i]?=some (t,L)):(s.step S' i t u L').ts.map Prod.fst=s.ts.map Prod.fst:=by
 show (s.ts.set i _).map Prod.fst=_
 rw [List.map_set]
 refine List.ext_getElem? fun m => ?_
 by_cases e:m=i
 ·subst e
  have hlt:m < s.ts.length:=by rcases Nat.lt_or_ge m s.ts.length with h1 | h1; exact h1; rw [List.getElem?_eq_none h1] at hi; cases hi
  rw [List.getElem?_set_self (by rw [List.length_map]; exact hlt),List.getElem?_map,hi]; rfl
 ·rw [List.getElem?_set_ne (fun h => e h.symm)]
theorem set_back {β:Type} {l:List β} {x:β} (hi:l[i]?=some x):l.set i x=l:=by
 refine List.ext_getElem? fun m => ?_
 by_cases e:m=i
 ·subst e
  have hlt:m < l.length:=by rcases Nat.lt_or_ge m l.length with h1 | h1; exact h1; rw [List.getElem?_eq_none h1] at hi; cases hi
  rw [List.getElem?_set_self hlt,hi]
 ·rw [List.getElem?_set_ne (fun h => e h.symm)]
end
def Asked2 (K:DK) (s s':DS) (nx:Int) (B:Nat) (f:FuncId) (args:Array Value) (v:Value) (g:FuncId) (gargs:Array Value) (v':Value):Prop :=
 (∀ b w,TDb K s s' nx false b w→Calls Tryz.prog f args w fun e w' => e=.returned v∧TDb K s s' nx true b w') ∧
 (∀ a w,TDb K s s' nx a false w→Calls Tryz.prog g gargs w fun e w' => e=.returned v'∧TDb K s s' nx a true w')∧DInv s' (B+2)
theorem tok_make {w:World} {tb:Nat} {T:PT} {F:Nat→Prop} (h:TreeIs w tb T F) (path:ByteArray) (hs:path.size < 4294967281):TOk (makeT T path false):=by
 obtain ⟨e,w',fr,⟨_,F',h1,_⟩,_⟩:=create_is h path hs []
 exact h1.ok
theorem tok_fileN {w:World} {tb:Nat} {T:PT} {F:Nat→Prop} (h:TreeIs w tb T F) (path:ByteArray) (hs:path.size < 4294967281) (mk:Bool):TOk (fileN T path mk).2.2:=by
 unfold fileN
 split
 ·exact tok_make h path hs
 ·exact h.ok
theorem bnd_fileN {T:PT} {B:Nat} (h:TBnd T B) (h1:1≤B) (path:ByteArray) (mk:Bool):TBnd (fileN T path mk).2.2 (B+1):=by
 unfold fileN
 split
 ·exact h.make h1 path false
 ·exact h.mono (by omega)
section
variable {K:DK} {s s':DS} {nx:Int} {a b:Bool} {w w':World} {u t i B:Nat} {L L':PTab} {v:Value} {f:FuncId} {args:Array Value} {n m:Int}
theorem ask_file (hI:DInv s B) (hto:TOk s.S.T) (hB1:1≤B) (hB:B≤900000) (hi:s.ts[i]?=some (t,L)) (hu:s.us[i]?=some (u,L)) (hL:Laid K.W) (hnx:nx+3≤500000) (path:ByteArray) (hs:path.size < 4294967281) (prot:Int) (mk:Bool) (hmk:TOk (fileN s.S.T path mk).2.2) :
  Asked2 K s (s.step (openS s.S L path prot mk) i t u (openL s.S L path prot mk)) nx B
   22 #[.pointer (some ⟨K.fb,0,none⟩),.pointer (some ⟨t,0,none⟩),.string path,.int .i64 prot,.bool mk] (.tuple #[.int .i64 (openK s.S L path prot mk),TErr (openE s.S L path prot mk)])
   23 #[.pointer (some ⟨K.gb,0,none⟩),.pointer (some ⟨u,0,none⟩),.string path,.int .i64 prot,.bool mk] (.tuple #[.int .i64 (openK s.S L path prot mk),.int .i64 (openE s.S L path prot mk)]):=by
 refine ⟨fun b w h => tdb_prog h hL (step_fst hi) (fun Bs hd hl => law_file hd hI.ok hi hl path hs prot mk),fun a w h => tdb_doc h hI.there hu rfl (fun G π φ nx' hR hT hn hx => ?_),hI.step (joint_open hI.joint hI.ok hto hi path prot mk).1 (joint_open hI.joint hI.ok hto hi path prot mk).2 (alive_open hI.alive L path prot mk) (open_T hI.bnd hB1 L path prot mk)⟩
 exact rffile_is hR hI.ok hto hI.alive hT (hI.joint.there hi) hn (by omega) path hs prot mk hmk (fun n p hp => by have:=bnd_fileN hI.bnd hB1 path mk n p hp; omega)
theorem ask_pipe (hI:DInv s B) (hi:s.ts[i]?=some (t,L)) (hu:s.us[i]?=some (u,L)) (hL:Laid K.W) (hnx:nx+3≤500000) :
  Asked2 K s (s.step (pipedS s.S L) i t u (pipedL s.S L)) nx B
   24 #[.pointer (some ⟨K.fb,0,none⟩),.pointer (some ⟨t,0,none⟩)] (.tuple #[.int .i64 (pipeK1 s.S L),.int .i64 (pipeK2 s.S L),TErr (pipeE s.S L)])
   25 #[.pointer (some ⟨K.gb,0,none⟩),.pointer (some ⟨u,0,none⟩)] (.tuple #[.int .i64 (pipeK1 s.S L),.int .i64 (pipeK2 s.S L),.int .i64 (pipeE s.S L)]) :=
 ⟨fun b w h => tdb_prog h hL (step_fst hi) (fun Bs hd hl => law_pipe hd hI.ok hi),fun a w h => tdb_doc h hI.there hu rfl (fun G π φ nx' hR hT hn hx => rpipe_is hR hI.ok hT (hI.joint.there hi) (hI.pos hi) hn (by omega)),hI.step (joint_pipe hI.joint hI.ok hi).1 (joint_pipe hI.joint hI.ok hi).2 (by rw [piped_T]; exact hI.alive) (by rw [piped_T]; exact hI.bnd.mono (by omega))⟩
theorem ask_dup (hI:DInv s B) (hi:s.ts[i]?=some (t,L)) (hu:s.us[i]?=some (u,L)) (hL:Laid K.W) (n:Int) :
  Asked2 K s (s.step (dupS s.S L n) i t u (dupL s.S L n)) nx B
   26 #[.pointer (some ⟨K.fb,0,none⟩),.pointer (some ⟨t,0,none⟩),.int .i64 n] (.tuple #[.int .i64 (dupK s.S L n),TErr (dupE s.S L n)])
   27 #[.pointer (some ⟨K.gb,0,none⟩),.pointer (some ⟨u,0,none⟩),.int .i64 n] (.tuple #[.int .i64 (dupK s.S L n),.int .i64 (dupE s.S L n)]) :=
 ⟨fun b w h => tdb_prog h hL (step_fst hi) (fun Bs hd hl => law_dup hd hI.ok hi (hI.joint.there hi) n (fun k e he => by have:=hI.refs k e he; omega)),fun a w h => tdb_doc h hI.there hu rfl (fun G π φ nx' hR hT hn hx => rdup_is hR hI.ok.nd hT (hI.joint.there hi) hn n (fun k e he => by have:=hI.refs k e he; omega)),hI.step (dok_dup hI.ok hI.refs L n) (joint_dup hI.joint hI.ok hi n) (by rw [dup_T]; exact hI.alive) (by rw [dup_T]; exact hI.bnd.mono (by omega))⟩
theorem ask_dup2 (hI:DInv s B) (hto:TOk s.S.T) (hB:B≤900000) (hi:s.ts[i]?=some (t,L)) (hu:s.us[i]?=some (u,L)) (hL:Laid K.W) (n m:Int) :
  Asked2 K s (s.step (dup2S s.S L n m) i t u (dup2L s.S L n m)) nx B
   28 #[.pointer (some ⟨K.fb,0,none⟩),.pointer (some ⟨t,0,none⟩),.int .i64 n,.int .i64 m] (TErr (dup2E s.S L n m))
   29 #[.pointer (some ⟨K.gb,0,none⟩),.pointer (some ⟨u,0,none⟩),.int .i64 n,.int .i64 m] (.int .i64 (dup2E s.S L n m)) :=
 ⟨fun b w h => tdb_prog h hL (step_fst hi) (fun Bs hd hl => law_dup2 hd hI.ok hI.joint (by have:=hI.few; omega) hi n m),fun a w h => tdb_doc h hI.there hu rfl (fun G π φ nx' hR hT hn hx => rdup2_is hR hI.ok hto hI.alive (fun n p hp => by have:=hI.bnd n p hp; omega) hT (hI.joint.there hi) hn n m hI.refs),hI.step (joint_dup2 hI.joint hI.ok (by have:=hI.few; omega) hi hto n m).1 (joint_dup2 hI.joint hI.ok (by have:=hI.few; omega) hi hto n m).2 (alive_dup2 hI.alive L n m) ((dup2_T hI.bnd L n m).mono (by omega))⟩
theorem ask_mark (hI:DInv s B) (hi:s.ts[i]?=some (t,L)) (hu:s.us[i]?=some (u,L)) (hL:Laid K.W) (n:Int) (c:Bool) :
  Asked2 K s (s.step s.S i t u (markL s.S L n c)) nx B
   30 #[.pointer (some ⟨K.fb,0,none⟩),.pointer (some ⟨t,0,none⟩),.int .i64 n,.bool c] (TErr (getE L n))
   31 #[.pointer (some ⟨K.gb,0,none⟩),.pointer (some ⟨u,0,none⟩),.int .i64 n,.bool c] (.int .i64 (getE L n)) :=
 ⟨fun b w h => tdb_prog h hL (step_fst hi) (fun Bs hd hl => law_mark hd hi (hI.joint.there hi) n c),fun a w h => tdb_doc h hI.there hu rfl (fun G π φ nx' hR hT hn hx => rmark_is hR hT (hI.joint.there hi) hn n c),hI.step hI.ok (joint_mark hI.joint hi n c) hI.alive (hI.bnd.mono (by omega))⟩
theorem ask_close (hI:DInv s B) (hto:TOk s.S.T) (hB:B≤900000) (hi:s.ts[i]?=some (t,L)) (hu:s.us[i]?=some (u,L)) (hL:Laid K.W) (n:Int) :
  Asked2 K s (s.step (closeS s.S L n) i t u (closeL s.S L n)) nx B
   32 #[.pointer (some ⟨K.fb,0,none⟩),.pointer (some ⟨t,0,none⟩),.int .i64 n] (TErr (getE L n))
   33 #[.pointer (some ⟨K.gb,0,none⟩),.pointer (some ⟨u,0,none⟩),.int .i64 n] (.int .i64 (getE L n)) :=
 ⟨fun b w h => tdb_prog h hL (step_fst hi) (fun Bs hd hl => by
   have h1:=law_close hd hI.ok hi (hI.joint.there hi) n
   rw [close_same hI.ok (hI.joint.there hi) n] at h1
   exact h1),fun a w h => tdb_doc h hI.there hu rfl (fun G π φ nx' hR hT hn hx => rclose_is hR hI.ok hto hI.alive (fun n p hp => by have:=hI.bnd n p hp; omega) hT (hI.joint.there hi) hn n),hI.step (hI.ok.close L n) (joint_close hI.joint hI.ok hi n) (alive_close hI.alive L n) ((close_T hI.bnd L n).mono (by omega))⟩
theorem ask_read (hI:DInv s B) (hto:TOk s.S.T) (hi:s.ts[i]?=some (t,L)) (hu:s.us[i]?=some (u,L)) (hL:Laid K.W) (n m:Int) :
  Asked2 K s (s.step (rdS s.S L n m) i t u L) nx B
   34 #[.pointer (some ⟨K.fb,0,none⟩),.pointer (some ⟨t,0,none⟩),.int .i64 n,.int .i64 m] (.tuple #[.string (rdB s.S L n m),TErr (rdE s.S L n m)])
   35 #[.pointer (some ⟨K.gb,0,none⟩),.pointer (some ⟨u,0,none⟩),.int .i64 n,.int .i64 m] (.tuple #[.string (rdB s.S L n m),.int .i64 (rdE s.S L n m)]) :=
 ⟨fun b w h => tdb_prog h hL (step_fst hi) (fun Bs hd hl => law_dread hd hI.ok hi (hI.joint.there hi) n m),fun a w h => tdb_doc h hI.there hu rfl (fun G π φ nx' hR hT hn hx => rfread_is hR hI.ok hto hT (hI.joint.there hi) hn n m),hI.step (dok_rd hI.ok hto L n m).1 (by rw [set_same hi]; exact joint_rd hI.joint L n m) (by rw [rd_T]; exact hI.alive) (by rw [rd_T]; exact hI.bnd.mono (by omega))⟩
theorem ask_write (hI:DInv s B) (hto:TOk s.S.T) (hi:s.ts[i]?=some (t,L)) (hu:s.us[i]?=some (u,L)) (hL:Laid K.W) (n:Int) (x:ByteArray) (hx:x.size≤1000) (m:Int) (hm1:-9223372036854775808≤m) (hm2:m≤9223372036854775807) :
  Asked2 K s (s.step (wrS s.S L n x m) i t u L) nx B
   36 #[.pointer (some ⟨K.fb,0,none⟩),.pointer (some ⟨t,0,none⟩),.int .i64 n,.string x,.int .i64 m] (.tuple #[.int .i64 (wrK s.S L n x m),TErr (wrE s.S L n x m)])
   37 #[.pointer (some ⟨K.gb,0,none⟩),.pointer (some ⟨u,0,none⟩),.int .i64 n,.string x,.int .i64 m] (.tuple #[.int .i64 (wrK s.S L n x m),.int .i64 (wrE s.S L n x m)]) :=
 ⟨fun b w h => tdb_prog h hL (step_fst hi) (fun Bs hd hl => law_dwrite hd hI.ok hi (hI.joint.there hi) n x (by omega) m hm1 hm2),fun a w h => tdb_doc h hI.there hu rfl (fun G π φ nx' hR hT hn hx2 => rfwrite_is hR hI.ok hto hT (hI.joint.there hi) hn n x hx m hm1 hm2),hI.step (dok_wrs hI.ok L n x m) (by rw [set_same hi]; exact joint_wr hI.joint L n x m) (alive_wr hI.alive L n x m) ((wr_T hI.bnd L n x m).mono (by omega))⟩
theorem ask_seek (hI:DInv s B) (hi:s.ts[i]?=some (t,L)) (hu:s.us[i]?=some (u,L)) (hL:Laid K.W) (n m:Int) :
  Asked2 K s (s.step (seekS s.S L n m) i t u L) nx B
   38 #[.pointer (some ⟨K.fb,0,none⟩),.pointer (some ⟨t,0,none⟩),.int .i64 n,.int .i64 m] (TErr (seekE s.S L n m))
   39 #[.pointer (some ⟨K.gb,0,none⟩),.pointer (some ⟨u,0,none⟩),.int .i64 n,.int .i64 m] (.int .i64 (seekE s.S L n m)) :=
 ⟨fun b w h => tdb_prog h hL (step_fst hi) (fun Bs hd hl => law_seek hd hi (hI.joint.there hi) n m),fun a w h => tdb_doc h hI.there hu rfl (fun G π φ nx' hR hT hn hx2 => rseek_is hR hI.ok.nd hT (hI.joint.there hi) hn n m),hI.step (dok_seek hI.ok L n m) (by rw [set_same hi]; exact joint_seek hI.joint L n m) (alive_seek hI.alive L n m) (by
   have h1:TBnd (seekS s.S L n m).T B:=by
    unfold seekS
    split
    ·cases entL s.S L n <;> exact hI.bnd
    ·exact hI.bnd
   exact h1.mono (by omega))⟩
theorem ask_exec (hI:DInv s B) (hto:TOk s.S.T) (hB:B≤900000) (hi:s.ts[i]?=some (t,L)) (hu:s.us[i]?=some (u,L)) (hL:Laid K.W) (hd0:∃ Bs w,DLawB Bs w K.fb K.tb s.S s.ts) :
  Asked2 K s (s.step (clearS s.S L false) i t u (clearL s.S L false)) nx B
   40 #[.pointer (some ⟨K.fb,0,none⟩),.pointer (some ⟨t,0,none⟩)] (.tuple #[])
   41 #[.pointer (some ⟨K.gb,0,none⟩),.pointer (some ⟨u,0,none⟩),.bool false] (.tuple #[]):=by
 obtain ⟨Bs,w0,hd⟩:=hd0
 obtain ⟨e,w',fr,⟨_,_,g1,g2⟩,_⟩:=law_exec hd hI.ok hI.joint hi []
 exact ⟨fun b w h => tdb_prog h hL (step_fst hi) (fun Bs hd hl => (law_exec hd hI.ok hI.joint hi).mono fun e w' x => ⟨x.1,x.2.1⟩),fun a w h => tdb_doc h hI.there hu rfl (fun G π φ nx' hR hT hn hx2 => (rffree_is hR hI.ok hto hI.alive hI.bnd (by omega) hT hI.joint hi hn false).mono fun e w' x => ⟨x.1,x.2.to⟩),hI.step g1 g2 (alive_clear L false 8 0 _ _ hI.alive) ((clearS_T hI.bnd L false).mono (by omega))⟩
theorem ask_clear (hI:DInv s B) (hto:TOk s.S.T) (hB:B≤900000) (hi:s.ts[i]?=some (t,L)) (hu:s.us[i]?=some (u,L)) (hL:Laid K.W) (hd0:∃ Bs w,DLawB Bs w K.fb K.tb s.S s.ts) :
  Asked2 K s (s.step (clearS s.S L true) i t u (clearL s.S L true)) nx B
   42 #[.pointer (some ⟨K.fb,0,none⟩),.pointer (some ⟨t,0,none⟩)] (.tuple #[])
   41 #[.pointer (some ⟨K.gb,0,none⟩),.pointer (some ⟨u,0,none⟩),.bool true] (.tuple #[]):=by
 obtain ⟨Bs,w0,hd⟩:=hd0
 obtain ⟨e,w',fr,⟨_,_,g1,g2⟩,_⟩:=law_clear hd hI.ok hI.joint hi []
 exact ⟨fun b w h => tdb_prog h hL (step_fst hi) (fun Bs hd hl => (law_clear hd hI.ok hI.joint hi).mono fun e w' x => ⟨x.1,x.2.1⟩),fun a w h => tdb_doc h hI.there hu rfl (fun G π φ nx' hR hT hn hx2 => (rffree_is hR hI.ok hto hI.alive hI.bnd (by omega) hT hI.joint hi hn true).mono fun e w' x => ⟨x.1,x.2.to⟩),hI.step g1 g2 (alive_clear L true 8 0 _ _ hI.alive) ((clearS_T hI.bnd L true).mono (by omega))⟩
end
def FdsTo (K:DK) (s:DS) (i t u:Nat) (nx:Int) (B:Nat) (e:Ending) (w':World):Prop:=e=.returned (.bool true)∧∃ S' L',TDb K (s.step S' i t u L') (s.step S' i t u L') (nx+3) false false w'∧DInv (s.step S' i t u L') (B+2)
def FdsMid (K:DK) (s:DS) (i t u:Nat) (nx:Int) (B:Nat) (w':World):Prop:=∃ S' L',TDb K (s.step S' i t u L') (s.step S' i t u L') (nx+3) false false w'∧DInv (s.step S' i t u L') (B+2)
section
variable {K:DK} {s s':DS} {nx:Int} {a b:Bool} {w w':World} {u t i B:Nat} {L L':PTab} {v v':Value} {f g:FuncId} {args gargs:Array Value} {n m:Int}
theorem Asked2.mid {S':PS} (h:Asked2 K s (s.step S' i t u L') nx B f args v g gargs v') (h2:TDb K s (s.step S' i t u L') nx true true w):FdsMid K s i t u nx B w:=⟨S',L',h2.both,h.2.2⟩
theorem TDb.tok {b:Bool} (h:TDb K s s' nx false b w):TOk s.S.T:=by
 obtain ⟨C,φ,nx',h1,h2,h3⟩:=h
 exact TD.tok h1
theorem TDb.dlaw {b:Bool} (h:TDb K s s' nx false b w):∃ Bs w,DLawB Bs w K.fb K.tb s.S s.ts:=by
 obtain ⟨C,φ,nx',h1,h2,h3⟩:=h
 exact ⟨_,w,h1.dlaw⟩
theorem TDb.tokN {b:Bool} (h:TDb K s s' nx false b w) (path:ByteArray) (hs:path.size < 4294967281) (mk:Bool):TOk (fileN s.S.T path mk).2.2:=by
 obtain ⟨C,φ,nx',h1,h2,h3⟩:=h
 obtain ⟨F,⟨om,Bx,P,Ft,C',hin,rfl⟩,f2⟩:=h1.fp
 exact tok_fileN hin.tr path hs mk
theorem lfds_is (x0 x1 x2 x3:Int) (x4:ByteArray) (x5:Bool) (hx:K.x=(x0,x1,x2,x3,x4,x5)) (h:TDb K s s nx false false w) (hI:DInv s B) (hB1:1≤B) (hB:B≤900000) (hi:s.ts[i]?=some (t,L)) (hu:s.us[i]?=some (u,L)) (hL:Laid K.W) (hnx:nx+3≤500000) (hs:x4.size≤250) (hm:-9223372036854775808≤x3∧x3≤9223372036854775807) :
  Calls Tryz.prog 11 #[.pointer (some ⟨K.fb,0,none⟩),.pointer (some ⟨K.gb,0,none⟩),.pointer (some ⟨t,0,none⟩),.pointer (some ⟨u,0,none⟩),.agg #[.int .i64 x0,.int .i64 x1,.int .i64 x2,.int .i64 x3,.string x4,.bool x5]] w (fun e w' => FdsTo K s i t u nx B e w'):=by
 obtain ⟨pb,hpb⟩:∃ pb,pb=w.heap.size:=⟨_,rfl⟩
 have T1:Turn (fun _ => False) w (w.alloc (.cells #[.int .i64 x0,.int .i64 x1,.int .i64 x2,.int .i64 x3,.string x4,.bool x5] 50)):=(Turn.refl _ _).alloc _
 have hat:FdAt (w.alloc (.cells #[.int .i64 x0,.int .i64 x1,.int .i64 x2,.int .i64 x3,.string x4,.bool x5] 50)) pb K.x:=by
  rw [hx,hpb]
  exact ⟨by simp,by simp,by simp,by simp,by simp,by simp⟩
 obtain ⟨K2,hK2⟩:∃ K2:DK,{ K with ps:=pb :: K.ps }=K2:=⟨_,rfl⟩
 have h2:=h.more T1 (by omega) hat
 rw [hK2] at h2
 obtain ⟨W2,hW2⟩:∃ W2,w.alloc (.cells #[.int .i64 x0,.int .i64 x1,.int .i64 x2,.int .i64 x3,.string x4,.bool x5] 50)=W2:=⟨_,rfl⟩
 rw [hW2] at h2 hat
 rw [hx] at hat
 have e2:K2.fb=K.fb∧K2.gb=K.gb∧K2.W=K.W:=by rw [← hK2]; exact ⟨rfl,rfl,rfl⟩
 have HAt:Hid (∀ {s':DS} {a b:Bool} {w':World},TDb K2 s s' nx a b w'→FdAt w' pb (x0,x1,x2,x3,x4,x5)):=hid (fun h3 => by
  have h4:=h3.at_ (p:=pb) (by rw [← hK2]; exact List.mem_cons_self)
  rw [← hK2] at h4
  have h4:FdAt _ pb K.x:=h4
  rw [hx] at h4
  exact h4)
 have HBack:Hid (∀ w',FdsMid K2 s i t u nx B w'→FdsMid K s i t u nx B w'):=hid (fun w' h3 => by
  obtain ⟨S',L',h4,h5⟩:=h3
  have h6:=h4.less (ps:=K.ps) (fun q hq => by rw [← hK2]; exact List.mem_cons_of_mem _ hq)
  rw [← hK2] at h6
  exact ⟨S',L',h6,h5⟩)
 have hL2:Laid K2.W:=by rw [e2.2.2]; exact hL
 have hto:=h.tok
 have hmk:=h.tokN x4 (by omega) x5
 have hdl:=h2.dlaw
 obtain ⟨d0,d1,d2,d3,d4,d5⟩:=hat
 simp only at d0 d1 d2 d3 d4 d5
 have a_file:=ask_file hI hto hB1 hB hi hu hL2 hnx x4 (by omega) x2 x5 hmk
 rw [e2.1,e2.2.1] at a_file
 have A_file:=hid a_file
 have P_file:=hid a_file.1
 have Q_file:=hid a_file.2.1
 clear a_file
 have a_pipe:=ask_pipe hI hi hu hL2 hnx
 rw [e2.1,e2.2.1] at a_pipe
 have A_pipe:=hid a_pipe
 have P_pipe:=hid a_pipe.1
 have Q_pipe:=hid a_pipe.2.1
 clear a_pipe
 have a_dup:=ask_dup (nx:=nx) hI hi hu hL2 x2
 rw [e2.1,e2.2.1] at a_dup
 have A_dup:=hid a_dup
 have P_dup:=hid a_dup.1
 have Q_dup:=hid a_dup.2.1
 clear a_dup
 have a_dup2:=ask_dup2 (nx:=nx) hI hto hB hi hu hL2 x2 x3
 rw [e2.1,e2.2.1] at a_dup2
 have A_dup2:=hid a_dup2
 have P_dup2:=hid a_dup2.1
 have Q_dup2:=hid a_dup2.2.1
 clear a_dup2
 have a_mark:=ask_mark (nx:=nx) hI hi hu hL2 x2 x5
 rw [e2.1,e2.2.1] at a_mark
 have A_mark:=hid a_mark
 have P_mark:=hid a_mark.1
 have Q_mark:=hid a_mark.2.1
 clear a_mark
 have a_close:=ask_close (nx:=nx) hI hto hB hi hu hL2 x2
 rw [e2.1,e2.2.1] at a_close
 have A_close:=hid a_close
 have P_close:=hid a_close.1
 have Q_close:=hid a_close.2.1
 clear a_close
 have a_read:=ask_read (nx:=nx) hI hto hi hu hL2 x2 x3
 rw [e2.1,e2.2.1] at a_read
 have A_read:=hid a_read
 have P_read:=hid a_read.1
 have Q_read:=hid a_read.2.1
 clear a_read
 have a_write:=ask_write (nx:=nx) hI hto hi hu hL2 x2 x4 (by omega) x3 hm.1 hm.2
 rw [e2.1,e2.2.1] at a_write
 have A_write:=hid a_write
 have P_write:=hid a_write.1
 have Q_write:=hid a_write.2.1
 clear a_write
 have a_seek:=ask_seek (nx:=nx) hI hi hu hL2 x2 x3
 rw [e2.1,e2.2.1] at a_seek
 have A_seek:=hid a_seek
 have P_seek:=hid a_seek.1
 have Q_seek:=hid a_seek.2.1
 clear a_seek
 have a_exec:=ask_exec (nx:=nx) hI hto hB hi hu hL2 hdl
 rw [e2.1,e2.2.1] at a_exec
 have A_exec:=hid a_exec
 have P_exec:=hid a_exec.1
 have Q_exec:=hid a_exec.2.1
 clear a_exec
 have a_clear:=ask_clear (nx:=nx) hI hto hB hi hu hL2 hdl
 rw [e2.1,e2.2.1] at a_clear
 have A_clear:=hid a_clear
 have P_clear:=hid a_clear.1
 have Q_clear:=hid a_clear.2.1
 clear a_clear
 have HNo:Hid (FdsMid K2 s i t u nx B W2):=hid (by
  have e:s.step s.S i t u L=s:=by show DS.mk s.S _ _=s; rw [set_back hi,set_back hu]
  refine ⟨s.S,L,?_,?_⟩
  ·rw [e]; exact h2.mono (by omega)
  ·rw [e]; exact { hI with bnd:=hI.bnd.mono (by omega) })
 have HL:=hid hL
 have HT2:=hid h2
 have HTb:Hid (∀ w',FdsMid K2 s i t u nx B w'→Turn (fun _ => False) K.W w'):=hid (fun w' h3 => by
  obtain ⟨S',L',h4,h5⟩:=h3
  have h6:=h4.turn
  rw [e2.2.2] at h6
  exact h6)
 have HStill:Hid (∀ w' w'',FdsMid K2 s i t u nx B w'→Turn (fun _ => False) w' w''→FdsMid K2 s i t u nx B w''):=hid (fun w' w'' h3 t3 => by
  obtain ⟨S',L',h4,h5⟩:=h3
  exact ⟨S',L',h4.still t3,h5⟩)
 clear h hI hB1 hB hi hu hL hnx hs hm h2 hL2 hto hmk hdl e2 hx hK2
 go_enter Tryz.func11,Tryz.ntmps11
 go_upto_region 5 with fail
 rw [← hpb]
 clear hpb hW2 T1
 go_upto_block 0 with fail
 go_cut [11,12,13,14,15,16,17,18] (fun v1 v2 v3 v4 v5 v6 v7 v8 wx => ∃ (n m z:Int) (c:ByteArray),v1=.int .i64 n∧v2=.int .i64 n∧v3=.int .i64 m∧v4=.int .i64 m∧v5=.string c∧v6=.string c∧v7=TErr z∧v8=.int .i64 z∧Hid (FdsMid K2 s i t u nx B wx))
 case first =>
  --<<
  by_cases o0:x0=0
  ·subst o0
   as_aux_lemma =>
    clear A_pipe P_pipe Q_pipe A_dup P_dup Q_dup A_dup2 P_dup2 Q_dup2 A_mark P_mark Q_mark A_close P_close Q_close A_read P_read Q_read A_write P_write Q_write A_seek P_seek Q_seek A_exec P_exec Q_exec A_clear P_clear Q_clear HNo
    have HO:=hid (A_file.out.1 _ _ (HT2.out.none _))
    clear HT2 d0
    go_wp2_with fail
    refine HO.out.mono ?_
    rintro e w6 ⟨rfl,h6⟩
    have H6:=hid h6
    obtain ⟨-,-,k2,k3,k4,k5⟩:=HAt.out h6
    simp only at k2 k3 k4 k5
    clear h6 HO d2 d3 d4 d5
    go_wp2_with fail
    refine (A_file.out.2.1 _ _ H6.out).mono ?_
    rintro e w7 ⟨rfl,h7⟩
    have HM:=hid (A_file.out.mid h7)
    clear h7 H6
    go_wp2_with fail
    go_meet
    exact ⟨_,0,_,_,rfl,rfl,rfl,rfl,rfl,rfl,rfl,rfl,HM⟩
  have o0':(x0 == 0)=false:=beq_eq_false_iff_ne.2 o0
  by_cases o1:x0=1
  ·subst o1
   as_aux_lemma =>
    clear A_file P_file Q_file A_dup P_dup Q_dup A_dup2 P_dup2 Q_dup2 A_mark P_mark Q_mark A_close P_close Q_close A_read P_read Q_read A_write P_write Q_write A_seek P_seek Q_seek A_exec P_exec Q_exec A_clear P_clear Q_clear HNo
    have HO:=hid (A_pipe.out.1 _ _ (HT2.out.none _))
    clear HT2 d0
    go_wp2_with fail
    refine HO.out.mono ?_
    rintro e w6 ⟨rfl,h6⟩
    have H6:=hid h6
    obtain ⟨-,-,k2,k3,k4,k5⟩:=HAt.out h6
    simp only at k2 k3 k4 k5
    clear h6 HO d2 d3 d4 d5
    go_wp2_with fail
    refine (A_pipe.out.2.1 _ _ H6.out).mono ?_
    rintro e w7 ⟨rfl,h7⟩
    have HM:=hid (A_pipe.out.mid h7)
    clear h7 H6
    go_wp2_with fail
    go_meet
    exact ⟨_,_,_,_,rfl,rfl,rfl,rfl,rfl,rfl,rfl,rfl,HM⟩
  have o1':(x0 == 1)=false:=beq_eq_false_iff_ne.2 o1
  by_cases o2:x0=2
  ·subst o2
   as_aux_lemma =>
    clear A_file P_file Q_file A_pipe P_pipe Q_pipe A_dup2 P_dup2 Q_dup2 A_mark P_mark Q_mark A_close P_close Q_close A_read P_read Q_read A_write P_write Q_write A_seek P_seek Q_seek A_exec P_exec Q_exec A_clear P_clear Q_clear HNo
    have HO:=hid (A_dup.out.1 _ _ (HT2.out.none _))
    clear HT2 d0
    go_wp2_with fail
    refine HO.out.mono ?_
    rintro e w6 ⟨rfl,h6⟩
    have H6:=hid h6
    obtain ⟨-,-,k2,k3,k4,k5⟩:=HAt.out h6
    simp only at k2 k3 k4 k5
    clear h6 HO d2 d3 d4 d5
    go_wp2_with fail
    refine (A_dup.out.2.1 _ _ H6.out).mono ?_
    rintro e w7 ⟨rfl,h7⟩
    have HM:=hid (A_dup.out.mid h7)
    clear h7 H6
    go_wp2_with fail
    go_meet
    exact ⟨_,0,_,_,rfl,rfl,rfl,rfl,rfl,rfl,rfl,rfl,HM⟩
  have o2':(x0 == 2)=false:=beq_eq_false_iff_ne.2 o2
  by_cases o3:x0=3
  ·subst o3
   as_aux_lemma =>
    clear A_file P_file Q_file A_pipe P_pipe Q_pipe A_dup P_dup Q_dup A_mark P_mark Q_mark A_close P_close Q_close A_read P_read Q_read A_write P_write Q_write A_seek P_seek Q_seek A_exec P_exec Q_exec A_clear P_clear Q_clear HNo
    have H:=hid ((HT2.out.none (s.step (dup2S s.S L x2 x3) i t u (dup2L s.S L x2 x3))).still (Turn.refl _ _).drew)
    clear HT2 d0 d4
    go_wp2_with fail
    go_region_held3 (fun w' => w'.cell? ⟨pb,2,none⟩=some (.int .i64 x2)∧w'.cell? ⟨pb,3,none⟩=some (.int .i64 x3))
     (first | exact ⟨d2,d3⟩ | exact ⟨r2,r3⟩ | go_keep)
     (first | (go_at_call 28; (with_reducible refine (P_dup2.out _ _ H.out).mono ?_); rintro e w6 ⟨rfl,h6⟩; have H:=hid h6; have hf:=HAt.out h6; have r2:=hf.2.2.1; have r3:=hf.2.2.2.1; have r5:=hf.2.2.2.2.2; simp only at r2 r3 r5; clear hf h6) | (go_at_call 29; (with_reducible refine (Q_dup2.out _ _ H.out).mono ?_); rintro e w6 ⟨rfl,h6⟩; have H:=hid h6; have hf:=HAt.out h6; have r2:=hf.2.2.1; have r3:=hf.2.2.2.1; have r5:=hf.2.2.2.2.2; simp only at r2 r3 r5; clear hf h6))
    all_goals
     go_wp2_with fail
     go_meet
     exact ⟨0,0,_,_,rfl,rfl,rfl,rfl,rfl,rfl,rfl,rfl,hid (A_dup2.out.mid H.out)⟩
  have o3':(x0 == 3)=false:=beq_eq_false_iff_ne.2 o3
  by_cases o4:x0=4
  ·subst o4
   as_aux_lemma =>
    clear A_file P_file Q_file A_pipe P_pipe Q_pipe A_dup P_dup Q_dup A_dup2 P_dup2 Q_dup2 A_close P_close Q_close A_read P_read Q_read A_write P_write Q_write A_seek P_seek Q_seek A_exec P_exec Q_exec A_clear P_clear Q_clear HNo
    have H:=hid ((HT2.out.none (s.step s.S i t u (markL s.S L x2 x5))).still (Turn.refl _ _).drew)
    clear HT2 d0 d4
    go_wp2_with fail
    go_region_held3 (fun w' => w'.cell? ⟨pb,2,none⟩=some (.int .i64 x2)∧w'.cell? ⟨pb,5,none⟩=some (.bool x5))
     (first | exact ⟨d2,d5⟩ | exact ⟨r2,r5⟩ | go_keep)
     (first | (go_at_call 30; (with_reducible refine (P_mark.out _ _ H.out).mono ?_); rintro e w6 ⟨rfl,h6⟩; have H:=hid h6; have hf:=HAt.out h6; have r2:=hf.2.2.1; have r3:=hf.2.2.2.1; have r5:=hf.2.2.2.2.2; simp only at r2 r3 r5; clear hf h6) | (go_at_call 31; (with_reducible refine (Q_mark.out _ _ H.out).mono ?_); rintro e w6 ⟨rfl,h6⟩; have H:=hid h6; have hf:=HAt.out h6; have r2:=hf.2.2.1; have r3:=hf.2.2.2.1; have r5:=hf.2.2.2.2.2; simp only at r2 r3 r5; clear hf h6))
    all_goals
     go_wp2_with fail
     go_meet
     exact ⟨0,0,_,_,rfl,rfl,rfl,rfl,rfl,rfl,rfl,rfl,hid (A_mark.out.mid H.out)⟩
  have o4':(x0 == 4)=false:=beq_eq_false_iff_ne.2 o4
  by_cases o5:x0=5
  ·subst o5
   as_aux_lemma =>
    clear A_file P_file Q_file A_pipe P_pipe Q_pipe A_dup P_dup Q_dup A_dup2 P_dup2 Q_dup2 A_mark P_mark Q_mark A_read P_read Q_read A_write P_write Q_write A_seek P_seek Q_seek A_exec P_exec Q_exec A_clear P_clear Q_clear HNo
    have H:=hid ((HT2.out.none (s.step (closeS s.S L x2) i t u (closeL s.S L x2))).still (Turn.refl _ _).drew)
    clear HT2 d0 d4
    go_wp2_with fail
    go_region_held3 (fun w' => w'.cell? ⟨pb,2,none⟩=some (.int .i64 x2))
     (first | exact d2 | exact r2 | go_keep)
     (first | (go_at_call 32; (with_reducible refine (P_close.out _ _ H.out).mono ?_); rintro e w6 ⟨rfl,h6⟩; have H:=hid h6; have hf:=HAt.out h6; have r2:=hf.2.2.1; have r3:=hf.2.2.2.1; have r5:=hf.2.2.2.2.2; simp only at r2 r3 r5; clear hf h6) | (go_at_call 33; (with_reducible refine (Q_close.out _ _ H.out).mono ?_); rintro e w6 ⟨rfl,h6⟩; have H:=hid h6; have hf:=HAt.out h6; have r2:=hf.2.2.1; have r3:=hf.2.2.2.1; have r5:=hf.2.2.2.2.2; simp only at r2 r3 r5; clear hf h6))
    all_goals
     go_wp2_with fail
     go_meet
     exact ⟨0,0,_,_,rfl,rfl,rfl,rfl,rfl,rfl,rfl,rfl,hid (A_close.out.mid H.out)⟩
  have o5':(x0 == 5)=false:=beq_eq_false_iff_ne.2 o5
  by_cases o6:x0=6
  ·subst o6
   as_aux_lemma =>
    clear A_file P_file Q_file A_pipe P_pipe Q_pipe A_dup P_dup Q_dup A_dup2 P_dup2 Q_dup2 A_mark P_mark Q_mark A_close P_close Q_close A_write P_write Q_write A_seek P_seek Q_seek A_exec P_exec Q_exec A_clear P_clear Q_clear HNo
    have HO:=hid (A_read.out.1 _ _ (HT2.out.none _))
    clear HT2 d0
    go_wp2_with fail
    refine HO.out.mono ?_
    rintro e w6 ⟨rfl,h6⟩
    have H6:=hid h6
    obtain ⟨-,-,k2,k3,k4,k5⟩:=HAt.out h6
    simp only at k2 k3 k4 k5
    clear h6 HO d2 d3 d4 d5
    go_wp2_with fail
    refine (A_read.out.2.1 _ _ H6.out).mono ?_
    rintro e w7 ⟨rfl,h7⟩
    have HM:=hid (A_read.out.mid h7)
    clear h7 H6
    go_wp2_with fail
    go_meet
    exact ⟨0,0,_,_,rfl,rfl,rfl,rfl,rfl,rfl,rfl,rfl,HM⟩
  have o6':(x0 == 6)=false:=beq_eq_false_iff_ne.2 o6
  by_cases o7:x0=7
  ·subst o7
   as_aux_lemma =>
    clear A_file P_file Q_file A_pipe P_pipe Q_pipe A_dup P_dup Q_dup A_dup2 P_dup2 Q_dup2 A_mark P_mark Q_mark A_close P_close Q_close A_read P_read Q_read A_seek P_seek Q_seek A_exec P_exec Q_exec A_clear P_clear Q_clear HNo
    have HO:=hid (A_write.out.1 _ _ (HT2.out.none _))
    clear HT2 d0
    go_wp2_with fail
    refine HO.out.mono ?_
    rintro e w6 ⟨rfl,h6⟩
    have H6:=hid h6
    obtain ⟨-,-,k2,k3,k4,k5⟩:=HAt.out h6
    simp only at k2 k3 k4 k5
    clear h6 HO d2 d3 d4 d5
    go_wp2_with fail
    refine (A_write.out.2.1 _ _ H6.out).mono ?_
    rintro e w7 ⟨rfl,h7⟩
    have HM:=hid (A_write.out.mid h7)
    clear h7 H6
    go_wp2_with fail
    go_meet
    exact ⟨_,0,_,_,rfl,rfl,rfl,rfl,rfl,rfl,rfl,rfl,HM⟩
  have o7':(x0 == 7)=false:=beq_eq_false_iff_ne.2 o7
  by_cases o8:x0=8
  ·subst o8
   as_aux_lemma =>
    clear A_file P_file Q_file A_pipe P_pipe Q_pipe A_dup P_dup Q_dup A_dup2 P_dup2 Q_dup2 A_mark P_mark Q_mark A_close P_close Q_close A_read P_read Q_read A_write P_write Q_write A_exec P_exec Q_exec A_clear P_clear Q_clear HNo
    have H:=hid ((HT2.out.none (s.step (seekS s.S L x2 x3) i t u L)).still (Turn.refl _ _).drew)
    clear HT2 d0 d4
    go_wp2_with fail
    go_region_held3 (fun w' => w'.cell? ⟨pb,2,none⟩=some (.int .i64 x2)∧w'.cell? ⟨pb,3,none⟩=some (.int .i64 x3))
     (first | exact ⟨d2,d3⟩ | exact ⟨r2,r3⟩ | go_keep)
     (first | (go_at_call 38; (with_reducible refine (P_seek.out _ _ H.out).mono ?_); rintro e w6 ⟨rfl,h6⟩; have H:=hid h6; have hf:=HAt.out h6; have r2:=hf.2.2.1; have r3:=hf.2.2.2.1; have r5:=hf.2.2.2.2.2; simp only at r2 r3 r5; clear hf h6) | (go_at_call 39; (with_reducible refine (Q_seek.out _ _ H.out).mono ?_); rintro e w6 ⟨rfl,h6⟩; have H:=hid h6; have hf:=HAt.out h6; have r2:=hf.2.2.1; have r3:=hf.2.2.2.1; have r5:=hf.2.2.2.2.2; simp only at r2 r3 r5; clear hf h6))
    all_goals
     go_wp2_with fail
     go_meet
     exact ⟨0,0,_,_,rfl,rfl,rfl,rfl,rfl,rfl,rfl,rfl,hid (A_seek.out.mid H.out)⟩
  have o8':(x0 == 8)=false:=beq_eq_false_iff_ne.2 o8
  by_cases o10:x0=10
  ·subst o10
   as_aux_lemma =>
    clear A_file P_file Q_file A_pipe P_pipe Q_pipe A_dup P_dup Q_dup A_dup2 P_dup2 Q_dup2 A_mark P_mark Q_mark A_close P_close Q_close A_read P_read Q_read A_write P_write Q_write A_seek P_seek Q_seek A_clear P_clear Q_clear HNo
    have HO:=hid (A_exec.out.1 _ _ (HT2.out.none _))
    clear HT2 d0
    go_wp2_with fail
    refine HO.out.mono ?_
    rintro e w6 ⟨rfl,h6⟩
    have H6:=hid h6
    obtain ⟨-,-,k2,k3,k4,k5⟩:=HAt.out h6
    simp only at k2 k3 k4 k5
    clear h6 HO d2 d3 d4 d5
    go_wp2_with fail
    refine (A_exec.out.2.1 _ _ H6.out).mono ?_
    rintro e w7 ⟨rfl,h7⟩
    have HM:=hid (A_exec.out.mid h7)
    clear h7 H6
    go_wp2_with fail
    go_meet
    exact ⟨0,0,0,_,rfl,rfl,rfl,rfl,rfl,rfl,rfl,rfl,HM⟩
  have o10':(x0 == 10)=false:=beq_eq_false_iff_ne.2 o10
  by_cases o11:x0=11
  ·subst o11
   as_aux_lemma =>
    clear A_file P_file Q_file A_pipe P_pipe Q_pipe A_dup P_dup Q_dup A_dup2 P_dup2 Q_dup2 A_mark P_mark Q_mark A_close P_close Q_close A_read P_read Q_read A_write P_write Q_write A_seek P_seek Q_seek A_exec P_exec Q_exec HNo
    have HO:=hid (A_clear.out.1 _ _ (HT2.out.none _))
    clear HT2 d0
    go_wp2_with fail
    refine HO.out.mono ?_
    rintro e w6 ⟨rfl,h6⟩
    have H6:=hid h6
    obtain ⟨-,-,k2,k3,k4,k5⟩:=HAt.out h6
    simp only at k2 k3 k4 k5
    clear h6 HO d2 d3 d4 d5
    go_wp2_with fail
    refine (A_clear.out.2.1 _ _ H6.out).mono ?_
    rintro e w7 ⟨rfl,h7⟩
    have HM:=hid (A_clear.out.mid h7)
    clear h7 H6
    go_wp2_with fail
    go_meet
    exact ⟨0,0,0,_,rfl,rfl,rfl,rfl,rfl,rfl,rfl,rfl,HM⟩
  have o11':(x0 == 11)=false:=beq_eq_false_iff_ne.2 o11
  as_aux_lemma =>
   clear A_file P_file Q_file A_pipe P_pipe Q_pipe A_dup P_dup Q_dup A_dup2 P_dup2 Q_dup2 A_mark P_mark Q_mark A_close P_close Q_close A_read P_read Q_read A_write P_write Q_write A_seek P_seek Q_seek A_exec P_exec Q_exec A_clear P_clear Q_clear o0 o1 o2 o3 o4 o5 o6 o7 o8 o10 o11 d2 d3 d4 d5
   go_wp2_with fail
   go_meet
   exact ⟨0,0,0,_,rfl,rfl,rfl,rfl,rfl,rfl,rfl,rfl,HNo⟩
  -->>
 case rest =>
  obtain ⟨n,m,z,c,rfl,rfl,rfl,rfl,rfl,rfl,rfl,rfl,hM⟩:=hcut
  have HB:=hid (bareT z wc (HL.out.turned0 (HTb.out _ hM.out)))
  have e1:(n == n)=true:=by simp
  have e3:(m == m)=true:=by simp
  have e4:(c.toList == c.toList)=true:=by simp
  clear A_file P_file Q_file A_pipe P_pipe Q_pipe A_dup P_dup Q_dup A_dup2 P_dup2 Q_dup2 A_mark P_mark Q_mark A_close P_close Q_close A_read P_read Q_read A_write P_write Q_write A_seek P_seek Q_seek A_exec P_exec Q_exec A_clear P_clear Q_clear d0 d1 d2 d3 d4 d5 HT2 HNo
  go_wp2_with fail
  refine HB.out.mono ?_
  rintro e w6 ⟨rfl,t6⟩
  have HM6:=hid (HBack.out _ (HStill.out _ _ hM.out t6))
  clear t6
  go_wp2_with fail
  go_ret
  exact ⟨rfl,HM6.out⟩
end
theorem dnew_nil (w:World):Calls Tryz.prog 7 #[.pointer none] w fun e w' => e=.returned (.tuple #[.pointer none,TErr 7])∧w'=w:=by
 rw [show TErr 7=.iface 35 (.int .i64 7) from TErr_of (by decide)]
 go_enter Tryz.func7,Tryz.ntmps7
 go_wp2_with fail
 go_ret2
 exact ⟨rfl,rfl⟩
theorem dfiles_at {w:World} {tb:Nat} {T:PT} {Ft:Nat→Prop} (h1:TreeIs w tb T Ft):∃ F,FilesIs ((w.alloc (.map #[] 0)).alloc (filesObj tb w.heap.size)) (w.heap.size+1) tb ⟨T,[],[]⟩ F∧Turn (fun _ => False) w ((w.alloc (.map #[] 0)).alloc (filesObj tb w.heap.size))∧∀ k,F k→Ft k∨w.heap.size≤k:=by
 classical
 have t1:Turn (fun _ => False) w (w.alloc (.map #[] 0)):=(Turn.refl _ _).alloc _
 have t2:Turn (fun _ => False) (w.alloc (.map #[] 0)) ((w.alloc (.map #[] 0)).alloc (filesObj tb w.heap.size)):=(Turn.refl _ _).alloc _
 have hs1:(w.alloc (.map #[] 0)).heap.size=w.heap.size+1:=World.size_alloc _ _
 have hs2:((w.alloc (.map #[] 0)).alloc (filesObj tb w.heap.size)).heap.size=w.heap.size+2:=by rw [World.size_alloc,hs1]
 have hlow:∀ k,Ft k→k < w.heap.size:=h1.foot_lt
 have c0:((w.alloc (.map #[] 0)).alloc (filesObj tb w.heap.size)).cell? ⟨w.heap.size+1,0,none⟩=some (.pointer (some ⟨tb,0,none⟩)):=by rw [← hs1]; exact World.cell?_alloc_new _ _ _ _
 have c1:((w.alloc (.map #[] 0)).alloc (filesObj tb w.heap.size)).cell? ⟨w.heap.size+1,1,none⟩=some (.map (some w.heap.size)):=by rw [← hs1]; exact World.cell?_alloc_new _ _ _ _
 refine ⟨CFoot (fun j => if j=w.heap.size+1 then (1,0) else if j=w.heap.size then (2,0) else if Ft j then (5,0) else (0,0)),⟨w.heap.size,fun _ => 0,fun _ => 0,Ft,_,⟨c0,c1,(h1.turned t1 (fun _ _ => id)).turned t2 (fun _ _ => id),(MapIs.made w).turned t2 id,fun k e he => (by cases he),fun i q hq => (by cases hq),if_pos rfl,?_,fun k e he => (by cases he),fun i q hq => (by cases hq),fun k hk => ?_,fun k hk => ?_⟩,rfl⟩,t1.trans t2,fun k hk => ?_⟩
 ·show (if _ then _ else _)=_
  rw [if_neg (by omega),if_pos rfl]
 ·have:=hlow k hk
  show (if _ then _ else _)=_
  rw [if_neg (by omega),if_neg (by omega),if_pos hk]
 ·rw [hs2]
  by_cases e1:k=w.heap.size+1
  ·omega
  ·by_cases e2:k=w.heap.size
   ·omega
   ·by_cases e3:Ft k
    ·have:=hlow k e3; omega
    ·exact absurd (by show (if _ then _ else _)=_; rw [if_neg e1,if_neg e2,if_neg e3]) hk
 ·by_cases e1:k=w.heap.size+1
  ·exact .inr (by omega)
  ·by_cases e2:k=w.heap.size
   ·exact .inr (by omega)
   ·by_cases e3:Ft k
    ·exact .inl e3
    ·exact absurd (by show (if _ then _ else _)=_; rw [if_neg e1,if_neg e2,if_neg e3]) hk
theorem dfiles_new {w:World} {tb:Nat} {T:PT} {Ft:Nat→Prop} (h:TreeIs w tb T Ft):Calls Tryz.prog 7 #[.pointer (some ⟨tb,0,none⟩)] w fun e w' => ∃ fb F,e=.returned (.tuple #[.pointer (some ⟨fb,0,none⟩),.nilIface])∧FilesIs w' fb tb ⟨T,[],[]⟩ F∧Turn (fun _ => False) w w'∧∀ k,F k→Ft k∨w.heap.size≤k:=by
 obtain ⟨F,h1,h2,h3⟩:=dfiles_at h
 have H1:=hid h1
 have H2:=hid h2
 have H3:=hid h3
 unfold filesObj at H1 H2
 clear h h1 h2 h3
 have hmm:=@run_makeMap Tryz.prog
 go_enter Tryz.func7,Tryz.ntmps7
 go_wp2_with fail
 go_ret2
 exact ⟨_,F,rfl,H1.out,H2.out,H3.out⟩
section
variable {K:DK} {s s':DS} {nx:Int} {a b:Bool} {w w':World} {u t i B:Nat} {L L':PTab} {n m:Int} {path:ByteArray}
/-! ### what is asked between -/
theorem tdb_used (h:TDb K s s' nx false b w) (hi:s.ts[i]?=some (t,L)):Calls Tryz.prog 12 #[.pointer (some ⟨t,0,none⟩)] w fun e w' => e=.returned (.int .i64 (usedL L))∧Turn (fun _ => False) w w':=by
 obtain ⟨C,φ,nx',h1,h2,h3⟩:=h
 exact used_is (h1.tp i _ hi).1
theorem tdb_rused (h:TDb K s s' nx a false w) (hI:DInv s B) (hi:s.ts[i]?=some (t,L)) (hu:s.us[i]?=some (u,L)):Calls Tryz.prog 13 #[.pointer (some ⟨u,0,none⟩)] w fun e w' => e=.returned (.int .i64 (usedL L))∧Turn (fun _ => False) w w':=by
 obtain ⟨C,φ,nx',h1,h2,h3⟩:=h
 obtain ⟨G,π,⟨eb,rf,pb,Ft,hin,rfl⟩,g2⟩:=h1.fd
 exact rused_rel hin (h1.td i _ hu).1 (hI.joint.there hi) (fun j hj => (hI.pos hi j hj).1)
theorem tdb_has (h:TDb K s s' nx false b w) (hI:DInv s B) (hi:s.ts[i]?=some (t,L)) (n:Int):Calls Tryz.prog 14 #[.pointer (some ⟨K.fb,0,none⟩),.pointer (some ⟨t,0,none⟩),.int .i64 n] w fun e w' => e=.returned (.bool (slotL L n).isSome)∧Turn (fun _ => False) w w':=by
 obtain ⟨C,φ,nx',h1,h2,h3⟩:=h
 obtain ⟨F,⟨om,B,P,Ft,C',hin,rfl⟩,f2⟩:=h1.fp
 exact has_is hin (h1.tp i _ hi).1 (hI.joint.there hi) n
theorem tdb_rhas (h:TDb K s s' nx a false w) (hI:DInv s B) (hi:s.ts[i]?=some (t,L)) (hu:s.us[i]?=some (u,L)) (n:Int):Calls Tryz.prog 15 #[.pointer (some ⟨u,0,none⟩),.int .i64 n] w fun e w' => e=.returned (.bool (slotL L n).isSome)∧Turn (fun _ => False) w w':=by
 obtain ⟨C,φ,nx',h1,h2,h3⟩:=h
 obtain ⟨G,π,g1,g2⟩:=h1.fd
 exact (rhas_rel g1 (h1.td i _ hu).1 (show TabOk s.S L from hI.joint.there hi) n).mono fun e w' x => ⟨x.1,by rw [x.2]; exact Turn.refl _ _⟩
theorem tdb_open (h:TDb K s s' nx false b w):Calls Tryz.prog 16 #[.pointer (some ⟨K.fb,0,none⟩)] w fun e w' => e=.returned (.int .i64 (s.S.es.length:Int))∧Turn (fun _ => False) w w':=by
 obtain ⟨C,φ,nx',h1,h2,h3⟩:=h
 obtain ⟨F,⟨om,B,P,Ft,C',hin,rfl⟩,f2⟩:=h1.fp
 exact (open_is hin).mono fun e w' x => ⟨x.1,by rw [x.2]; exact Turn.refl _ _⟩
theorem tdb_nodes (h:TDb K s s' nx false b w):Calls Tryz.prog 17 #[.pointer (some ⟨K.tb,0,none⟩)] w fun e w' => e=.returned (.int .i64 (s.S.T.length:Int))∧Turn (fun _ => False) w w':=by
 obtain ⟨C,φ,nx',h1,h2,h3⟩:=h
 obtain ⟨F,⟨om,B,P,Ft,C',hin,rfl⟩,f2⟩:=h1.fp
 exact (nodes_is hin.tr).mono fun e w' x => ⟨x.1,by rw [x.2]; exact Turn.refl _ _⟩
theorem tdb_lens (h:TDb K s s' nx a false w):∃ eb nm,w.cell? ⟨K.gb,1,none⟩=some (.map (some eb))∧w.cell? ⟨K.gb,0,none⟩=some (.pointer (some ⟨K.rb,0,none⟩))∧w.cell? ⟨K.rb,0,none⟩=some (.map (some nm)) ∧
  (∀ w',Turn (fun _ => False) w w'→(Builtin.len_ #[58] 3 #[.map (some eb)]).run Tryz.prog w'=.ok (.int .i64 (s.S.es.length:Int)) w')∧(∀ w',Turn (fun _ => False) w w'→(Builtin.len_ #[63] 3 #[.map (some nm)]).run Tryz.prog w'=.ok (.int .i64 (s.S.T.length:Int)) w'):=by
 obtain ⟨C,φ,nx',h1,h2,h3⟩:=h
 obtain ⟨G,π,⟨eb,rf,pb,Ft,hin,rfl⟩,g2⟩:=h1.fd
 obtain ⟨nm,D,ht,hF⟩:=hin.tr
 refine ⟨eb,nm,hin.h1,hin.h0,ht.hdr,fun w' t => ?_,fun w' t => ?_⟩
 ·have h5:=(hin.still t).mE.run_len (P:=Tryz.prog) Tryz.underlying58 3
  rw [relab_len] at h5
  exact h5
 ·have h5:=(ht.mp.turned t id).run_len (P:=Tryz.prog) Tryz.underlying63 3
  rw [show (rlist D (cond false s'.S s.S).T).length=s.S.T.length from List.length_map _] at h5
  exact h5
/-! ### Unlink -/
def unlinkS (s:DS) (path:ByteArray):DS:=⟨treeS s.S (unlinkT s.S.T path),s.ts,s.us⟩
theorem ask_unlink (hI:DInv s B) (hto:TOk s.S.T) (hB1:1≤B) (hB:B≤900000) (hi:s.ts[i]?=some (t,L)) (hu:s.us[i]?=some (u,L)) (hL:Laid K.W) (path:ByteArray) (hs:path.size < 4294967281) :
  Asked2 K s (unlinkS s path) nx B
   18 #[.pointer (some ⟨K.tb,0,none⟩),.string path] (TErr (unlinkE s.S.T path))
   19 #[.pointer (some ⟨K.rb,0,none⟩),.string path] (.int .i64 (unlinkE s.S.T path)):=by
 refine ⟨fun b w h => tdb_prog h hL rfl (fun Bs hd hl => ?_),fun a w h => tdb_doc (L':=L) h hI.there hu (set_back hu).symm (fun G π φ nx' hR hT hn hx => ?_),⟨hI.ok.tree (unlink_kept s.S.T path).same,hI.joint.keep (fun m hm => rfl),hI.alive.unlink path,(hI.bnd.unlink path).mono (by omega),hI.few,hI.same⟩⟩
 ·obtain ⟨F,⟨om,Bx,P,Ft,C1,hin,rfl⟩,h2,h3⟩:=hd.files
  refine (unlink_is hin.tr path hs (fun n p hp => by have:=hI.bnd n p hp; omega)).mono fun e w' x => ⟨x.1,?_⟩
  exact hd.treed hin h2 h3 x.2
 ·obtain ⟨eb,rf,pb,Ft,hin,rfl⟩:=hR
  obtain ⟨nm,D,ht,hF⟩:=hin.tr
  have hC:=runlink_is ht hto path hs (fun n p hp => by have:=hI.bnd n p hp; omega)
  rw [runlink_same hto hI.alive path] at hC
  refine hC.mono fun e w' x => ⟨x.1,?_⟩
  obtain ⟨F',htr,t9,hnew,_⟩:=x.2
  rw [← hF] at t9 hnew
  have hlt:=hT.lt
  refine ⟨RFoots K.gb eb rf pb F',φ,π,nx',⟨eb,rf,pb,F',hin.setTree htr t9 hnew,rfl⟩,hT.turned t9 (fun e => hn (.inl e)),t9.mono (fun _ _ e => .inl (.inl e)),fun j hj => ?_,fun hj => ?_,fun _ _ _ => rfl,by omega⟩
  ·rcases hj with hj | hj
   ·rcases hnew j hj with h | h
    ·exact .inl (.inl h)
    ·exact .inr h
   ·exact .inl (.inr hj)
  ·rcases hj with hj | hj
   ·rcases hnew u hj with h | h
    ·exact hn (.inl h)
    ·omega
   ·exact hn (.inr hj)
end
section
variable {W w w' w1:World} {fb tb gb rb tab:Nat} {S S' Sd Sd':PS} {ts us:List (Nat×PTab)} {φ φ':Int→Int} {π:Nat→Int} {nx nx' n:Int} {vp vd:Value} {rs qs:List Value} {C:Nat→Nat×Nat} {i j ub:Nat} {L L':PTab} {F G:Nat→Prop}
theorem app_get {β:Type} {l:List β} {x y:β} {j:Nat} (h:(l ++ [x])[j]?=some y):l[j]?=some y∨(j=l.length∧y=x):=by
 rcases Nat.lt_or_ge j l.length with hj | hj
 ·rw [List.getElem?_append_left hj] at h; exact .inl h
 ·rw [List.getElem?_append_right hj] at h
  cases hz:j - l.length with
  | zero => rw [hz] at h; exact .inr ⟨by omega,(Option.some.inj h).symm⟩
  | succ m => rw [hz] at h; cases h
def markAt (C:Nat→Nat×Nat) (b:Nat) (m:Nat×Nat):Nat→Nat×Nat:=fun k => if k=b then m else C k
theorem markAt_at {b:Nat} {m:Nat×Nat}:markAt C b m b=m:=if_pos rfl
theorem markAt_old {b k:Nat} {m a:Nat×Nat} (h:C k=a) (hb:C b=(0,0)) (ha:a≠(0,0)):markAt C b m k=a:=by
 have hne:k≠b:=fun e => ha (by rw [← h,e,hb])
 show (if k=b then m else C k)=a
 rw [if_neg hne]; exact h
theorem TD.zero (h:TD W w fb tb gb rb S ts Sd φ nx us vp rs vd qs C) {k:Nat} (hk:w.heap.size≤k):C k=(0,0):=Classical.byContradiction fun e => by
 have:=(h.lo k e).2
 omega
theorem TD.forkP (h:TD W w fb tb gb rb S ts Sd φ nx us vp rs vd qs C) (hF:∀ k,F k→C k=(1,0)) (hub:w.heap.size≤ub) (ht:TabIs w' ub L) (hf:FilesIs w' fb tb S' F) (t:Turn F w w'):∃ C',TD W w' fb tb gb rb S' (ts ++ [(ub,L)]) Sd φ nx us vp rs vd qs C':=by
 have hz:=h.zero hub
 have no:∀ {k a},C k=a→a≠(1,0)→¬ F k:=fun h1 h2 h3 => h2 (h1.symm.trans (hF _ h3))
 refine ⟨markAt C ub (3,ts.length),⟨⟨F,hf,fun k hk => markAt_old (hF k hk) hz (by simp)⟩,?_,fun j x hx => ?_,fun j x hx => ⟨(h.td j x hx).1.turned t (no (h.td j x hx).2 (by simp)),markAt_old (h.td j x hx).2 hz (by simp)⟩,⟨h.rp.1.turned t (fun g hg => no (h.rp.2 g hg) (by simp)),fun g hg => markAt_old (h.rp.2 g hg) hz (by simp)⟩,⟨h.rd.1.turned t (fun g hg => no (h.rd.2 g hg) (by simp)),fun g hg => markAt_old (h.rd.2 g hg) hz (by simp)⟩,h.tu.trans' t (fun k hk hx => ?_),fun k hk => ?_,fun k j hk => ?_⟩⟩
 ·obtain ⟨G,π,g1,g2⟩:=h.fd
  exact ⟨G,π,g1.turned t (fun k hk => no (g2 k hk) (by simp)),fun k hk => markAt_old (g2 k hk) hz (by simp)⟩
 ·rcases app_get hx with h1 | ⟨rfl,rfl⟩
  ·exact ⟨(h.tp j x h1).1.turned t (no (h.tp j x h1).2 (by simp)),markAt_old (h.tp j x h1).2 hz (by simp)⟩
  ·exact ⟨ht,markAt_at⟩
 ·have:=(h.lo k (by rw [hF k hx]; simp)).1; omega
 ·by_cases e:k=ub
  ·exact ⟨by have:=h.tu.size; omega,by rw [e]; exact ht.lt⟩
  ·have hk:C k≠(0,0):=by
    have hk:(if k=ub then (3,ts.length) else C k)≠(0,0):=hk
    rw [if_neg e] at hk; exact hk
   exact ⟨(h.lo k hk).1,Nat.lt_of_lt_of_le (h.lo k hk).2 t.size⟩
 ·have hk:(if k=ub then (3,ts.length) else C k)=(3,j):=hk
  by_cases e:k=ub
  ·rw [if_pos e] at hk
   simp at hk
   exact ⟨(ub,L),by rw [← hk,List.getElem?_append_right (Nat.le_refl _),Nat.sub_self]; rfl,e.symm⟩
  ·rw [if_neg e] at hk
   obtain ⟨x,hx,hxk⟩:=h.c3 k j hk
   have hl:=(List.getElem?_eq_some_iff.1 hx).1
   exact ⟨x,by rw [List.getElem?_append_left hl]; exact hx,hxk⟩
theorem TD.forkD (h:TD W w fb tb gb rb S ts Sd φ nx us vp rs vd qs C) (hG:∀ k,G k→C k=(2,0)) (hub:w.heap.size≤ub) (ht:RTabIs w' ub (relL φ L)) (hf:RFilesIs w' gb rb Sd' φ π nx G) (t:Turn G w w'):∃ C',TD W w' fb tb gb rb S ts Sd' φ nx (us ++ [(ub,L)]) vp rs vd qs C':=by
 have hz:=h.zero hub
 have no:∀ {k a},C k=a→a≠(2,0)→¬ G k:=fun h1 h2 h3 => h2 (h1.symm.trans (hG _ h3))
 refine ⟨markAt C ub (4,us.length),⟨?_,⟨G,π,hf,fun k hk => markAt_old (hG k hk) hz (by simp)⟩,fun j x hx => ⟨(h.tp j x hx).1.turned t (no (h.tp j x hx).2 (by simp)),markAt_old (h.tp j x hx).2 hz (by simp)⟩,fun j x hx => ?_,⟨h.rp.1.turned t (fun g hg => no (h.rp.2 g hg) (by simp)),fun g hg => markAt_old (h.rp.2 g hg) hz (by simp)⟩,⟨h.rd.1.turned t (fun g hg => no (h.rd.2 g hg) (by simp)),fun g hg => markAt_old (h.rd.2 g hg) hz (by simp)⟩,h.tu.trans' t (fun k hk hx => ?_),fun k hk => ?_,fun k j hk => ?_⟩⟩
 ·obtain ⟨F,f1,f2⟩:=h.fp
  exact ⟨F,f1.turned t (fun k hk => no (f2 k hk) (by simp)),fun k hk => markAt_old (f2 k hk) hz (by simp)⟩
 ·rcases app_get hx with h1 | ⟨rfl,rfl⟩
  ·exact ⟨(h.td j x h1).1.turned t (no (h.td j x h1).2 (by simp)),markAt_old (h.td j x h1).2 hz (by simp)⟩
  ·exact ⟨ht,markAt_at⟩
 ·have:=(h.lo k (by rw [hG k hx]; simp)).1; omega
 ·by_cases e:k=ub
  ·exact ⟨by have:=h.tu.size; omega,by rw [e]; exact ht.lt⟩
  ·have hk:C k≠(0,0):=by
    have hk:(if k=ub then (4,us.length) else C k)≠(0,0):=hk
    rw [if_neg e] at hk; exact hk
   exact ⟨(h.lo k hk).1,Nat.lt_of_lt_of_le (h.lo k hk).2 t.size⟩
 ·have hk:(if k=ub then (4,us.length) else C k)=(3,j):=hk
  by_cases e:k=ub
  ·rw [if_pos e] at hk; simp at hk
  ·rw [if_neg e] at hk; exact h.c3 k j hk
def markRow (C:Nat→Nat×Nat) (b:Nat) (m:Nat×Nat):Nat→Nat×Nat:=fun k => if k=b then m else if C k=m then (0,0) else C k
theorem markRow_at {b:Nat} {m:Nat×Nat}:markRow C b m b=m:=if_pos rfl
theorem markRow_old {b k:Nat} {m a:Nat×Nat} (h:C k=a) (hb:C b=(0,0)∨C b=m) (h0:a≠(0,0)) (hm:a≠m):markRow C b m k=a:=by
 have hne:k≠b:=fun e => by
  rw [e] at h
  rcases hb with hb | hb
  ·exact h0 (h.symm.trans hb)
  ·exact hm (h.symm.trans hb)
 show (if k=b then m else if C k=m then (0,0) else C k)=a
 rw [if_neg hne,if_neg (by rw [h]; exact hm)]; exact h
theorem TD.growP {g k cap:Nat} {y:Value} (h:TD W w fb tb gb rb S ts Sd φ nx us vp rs vd qs C) (hr:RowV w' 36 (.slice (some ⟨g,0,none⟩) k cap) (rs ++ [y])) (t:Turn (fun j => vp.ownBlock=some j) w w') (hg:vp.ownBlock=some g∨w.heap.size≤g) :
  ∃ C',TD W w' fb tb gb rb S ts Sd φ nx us (.slice (some ⟨g,0,none⟩) k cap) (rs ++ [y]) vd qs C':=by
 have hz:C g=(0,0)∨C g=(5,0):=by
  rcases hg with hg | hg
  ·exact .inr (h.rp.2 g hg)
  ·exact .inl (h.zero hg)
 have no:∀ {k a},C k=a→a≠(5,0)→¬ vp.ownBlock=some k:=fun h1 h2 h3 => h2 (h1.symm.trans (h.rp.2 _ h3))
 have kp:∀ {k a},C k=a→a≠(0,0)→a≠(5,0)→markRow C g (5,0) k=a:=fun h1 h2 h3 => markRow_old h1 hz h2 h3
 refine ⟨markRow C g (5,0),⟨?_,?_,fun j x hx => ⟨(h.tp j x hx).1.turned t (no (h.tp j x hx).2 (by simp)),kp (h.tp j x hx).2 (by simp) (by simp)⟩,fun j x hx => ⟨(h.td j x hx).1.turned t (no (h.td j x hx).2 (by simp)),kp (h.td j x hx).2 (by simp) (by simp)⟩,⟨hr,fun g2 hg2 => by cases hg2; exact markRow_at⟩,⟨h.rd.1.turned t (fun g hg => no (h.rd.2 g hg) (by simp)),fun g hg => kp (h.rd.2 g hg) (by simp) (by simp)⟩,h.tu.trans' t (fun k hk hx => ?_),fun k hk => ?_,fun k j hk => ?_⟩⟩
 ·obtain ⟨F,f1,f2⟩:=h.fp
  exact ⟨F,f1.turned t (fun k hk => no (f2 k hk) (by simp)),fun k hk => kp (f2 k hk) (by simp) (by simp)⟩
 ·obtain ⟨G,π,g1,g2⟩:=h.fd
  exact ⟨G,π,g1.turned t (fun k hk => no (g2 k hk) (by simp)),fun k hk => kp (g2 k hk) (by simp) (by simp)⟩
 ·have:=(h.lo k (by rw [h.rp.2 k hx]; simp)).1; omega
 ·have hk:(if k=g then (5,0) else if C k=(5,0) then (0,0) else C k)≠(0,0):=hk
  by_cases e:k=g
  ·refine ⟨?_,by rw [e]; exact hr.own_lt g rfl⟩
   rcases hg with hg | hg
   ·exact (h.lo k (by rw [e,h.rp.2 g hg]; simp)).1
   ·have:=h.tu.size; omega
  ·rw [if_neg e] at hk
   by_cases e2:C k=(5,0)
   ·rw [if_pos e2] at hk; exact absurd rfl hk
   ·rw [if_neg e2] at hk
    exact ⟨(h.lo k hk).1,Nat.lt_of_lt_of_le (h.lo k hk).2 t.size⟩
 ·have hk:(if k=g then (5,0) else if C k=(5,0) then (0,0) else C k)=(3,j):=hk
  by_cases e:k=g
  ·rw [if_pos e] at hk; simp at hk
  ·rw [if_neg e] at hk
   by_cases e2:C k=(5,0)
   ·rw [if_pos e2] at hk; simp at hk
   ·rw [if_neg e2] at hk; exact h.c3 k j hk
theorem TD.growD {g k cap:Nat} {y:Value} (h:TD W w fb tb gb rb S ts Sd φ nx us vp rs vd qs C) (hr:RowV w' 43 (.slice (some ⟨g,0,none⟩) k cap) (qs ++ [y])) (t:Turn (fun j => vd.ownBlock=some j) w w') (hg:vd.ownBlock=some g∨w.heap.size≤g) :
  ∃ C',TD W w' fb tb gb rb S ts Sd φ nx us vp rs (.slice (some ⟨g,0,none⟩) k cap) (qs ++ [y]) C':=by
 have hz:C g=(0,0)∨C g=(6,0):=by
  rcases hg with hg | hg
  ·exact .inr (h.rd.2 g hg)
  ·exact .inl (h.zero hg)
 have no:∀ {k a},C k=a→a≠(6,0)→¬ vd.ownBlock=some k:=fun h1 h2 h3 => h2 (h1.symm.trans (h.rd.2 _ h3))
 have kp:∀ {k a},C k=a→a≠(0,0)→a≠(6,0)→markRow C g (6,0) k=a:=fun h1 h2 h3 => markRow_old h1 hz h2 h3
 refine ⟨markRow C g (6,0),⟨?_,?_,fun j x hx => ⟨(h.tp j x hx).1.turned t (no (h.tp j x hx).2 (by simp)),kp (h.tp j x hx).2 (by simp) (by simp)⟩,fun j x hx => ⟨(h.td j x hx).1.turned t (no (h.td j x hx).2 (by simp)),kp (h.td j x hx).2 (by simp) (by simp)⟩,⟨h.rp.1.turned t (fun g hg => no (h.rp.2 g hg) (by simp)),fun g hg => kp (h.rp.2 g hg) (by simp) (by simp)⟩,⟨hr,fun g2 hg2 => by cases hg2; exact markRow_at⟩,h.tu.trans' t (fun k hk hx => ?_),fun k hk => ?_,fun k j hk => ?_⟩⟩
 ·obtain ⟨F,f1,f2⟩:=h.fp
  exact ⟨F,f1.turned t (fun k hk => no (f2 k hk) (by simp)),fun k hk => kp (f2 k hk) (by simp) (by simp)⟩
 ·obtain ⟨G,π,g1,g2⟩:=h.fd
  exact ⟨G,π,g1.turned t (fun k hk => no (g2 k hk) (by simp)),fun k hk => kp (g2 k hk) (by simp) (by simp)⟩
 ·have:=(h.lo k (by rw [h.rd.2 k hx]; simp)).1; omega
 ·have hk:(if k=g then (6,0) else if C k=(6,0) then (0,0) else C k)≠(0,0):=hk
  by_cases e:k=g
  ·refine ⟨?_,by rw [e]; exact hr.own_lt g rfl⟩
   rcases hg with hg | hg
   ·exact (h.lo k (by rw [e,h.rd.2 g hg]; simp)).1
   ·have:=h.tu.size; omega
  ·rw [if_neg e] at hk
   by_cases e2:C k=(6,0)
   ·rw [if_pos e2] at hk; exact absurd rfl hk
   ·rw [if_neg e2] at hk
    exact ⟨(h.lo k hk).1,Nat.lt_of_lt_of_le (h.lo k hk).2 t.size⟩
 ·have hk:(if k=g then (6,0) else if C k=(6,0) then (0,0) else C k)=(3,j):=hk
  by_cases e:k=g
  ·rw [if_pos e] at hk; simp at hk
  ·rw [if_neg e] at hk
   by_cases e2:C k=(6,0)
   ·rw [if_pos e2] at hk; simp at hk
   ·rw [if_neg e2] at hk; exact h.c3 k j hk
/-! ### the law's own state: between two things asked -/
def LawD (W:World) (fb tb gb rb:Nat) (vp vd:Value) (s:DS) (nx:Int) (B:Nat) (w:World):Prop :=
 TDb ⟨W,fb,tb,gb,rb,vp,s.ts.map tptr,vd,s.us.map tptr,[],(0,0,0,0,⟨#[]⟩,false)⟩ s s nx false false w∧DInv s B
def ForkP (W:World) (fb tb gb rb:Nat) (vp vd:Value) (s:DS) (nx:Int) (ub:Nat) (L:PTab) (w:World):Prop :=
 ∃ C φ nx',TD W w fb tb gb rb (forkS s.S L) (s.ts ++ [(ub,L)]) s.S φ nx' s.us vp (s.ts.map tptr) vd (s.us.map tptr) C∧nx'≤nx
theorem lawD_fork {s:DS} {B u t:Nat} (h:LawD W fb tb gb rb vp vd s nx B w) (hi:s.ts[i]?=some (t,L)) :
  Calls Tryz.prog 9 #[.pointer (some ⟨fb,0,none⟩),.pointer (some ⟨t,0,none⟩)] w fun e w' => ∃ ub,e=.returned (.pointer (some ⟨ub,0,none⟩))∧ForkP W fb tb gb rb vp vd s nx ub L w':=by
 obtain ⟨⟨C,φ,nx',h1,h2,_⟩,hI⟩:=h
 have h1:TD W w fb tb gb rb s.S s.ts s.S φ nx' s.us vp (s.ts.map tptr) vd (s.us.map tptr) C:=h1
 have h2:nx'≤nx+0:=h2
 obtain ⟨F,f1,f2⟩:=h1.fp
 refine (fork_is f1 (h1.tp i _ hi).1 (hI.joint.there hi) (fun e => by have:=(f2 _ e).symm.trans (h1.tp i _ hi).2; simp at this) hI.refs).mono ?_
 rintro e w' ⟨ub,rfl,hu,ht,hf,tt⟩
 obtain ⟨C',h3⟩:=h1.forkP f2 hu ht hf tt
 exact ⟨ub,rfl,C',φ,nx',h3,by omega⟩
def ForkQ (W:World) (fb tb gb rb:Nat) (vp vd:Value) (s:DS) (nx:Int) (ub:Nat) (L:PTab) (w:World):Prop :=
 ∃ C φ nx',TD W w fb tb gb rb (forkS s.S L) (s.ts ++ [(ub,L)]) s.S φ nx' s.us vp (s.ts.map tptr ++ [.pointer (some ⟨ub,0,none⟩)]) vd (s.us.map tptr) C∧nx'≤nx
theorem ForkP.still {s:DS} (h:ForkP W fb tb gb rb vp vd s nx ub L w) (t:Turn (fun _ => False) w w'):ForkP W fb tb gb rb vp vd s nx ub L w':=by
 obtain ⟨C,φ,nx',h1,h2⟩:=h
 exact ⟨C,φ,nx',h1.still t,h2⟩
theorem ForkP.row {s:DS} (h:ForkP W fb tb gb rb vp vd s nx ub L w):RowV w 36 vp (s.ts.map tptr)∧RowV w 43 vd (s.us.map tptr):=by
 obtain ⟨C,φ,nx',h1,h2⟩:=h
 exact ⟨h1.rp.1,h1.rd.1⟩
theorem ForkQ.row {s:DS} (h:ForkQ W fb tb gb rb vp vd s nx ub L w):RowV w 43 vd (s.us.map tptr):=by
 obtain ⟨C,φ,nx',h1,h2⟩:=h
 exact h1.rd.1
theorem ForkP.grow {s:DS} {g k cap:Nat} (h:ForkP W fb tb gb rb vp vd s nx ub L w) (hr:RowV w' 36 (.slice (some ⟨g,0,none⟩) k cap) (s.ts.map tptr ++ [.pointer (some ⟨ub,0,none⟩)])) (t:Turn (fun j => vp.ownBlock=some j) w w') (hg:vp.ownBlock=some g∨w.heap.size≤g):ForkQ W fb tb gb rb (.slice (some ⟨g,0,none⟩) k cap) vd s nx ub L w':=by
 obtain ⟨C,φ,nx',h1,h2⟩:=h
 obtain ⟨C',h3⟩:=h1.growP hr t hg
 exact ⟨C',φ,nx',h3,h2⟩
def ForkR (W:World) (fb tb gb rb:Nat) (vp vd:Value) (s:DS) (nx:Int) (ub ub2:Nat) (L:PTab) (w:World):Prop :=
 ∃ C φ nx',TD W w fb tb gb rb (forkS s.S L) (s.ts ++ [(ub,L)]) (forkS s.S L) φ nx' (s.us ++ [(ub2,L)]) vp (s.ts.map tptr ++ [.pointer (some ⟨ub,0,none⟩)]) vd (s.us.map tptr) C∧nx'≤nx
theorem ForkR.still {s:DS} {ub2:Nat} (h:ForkR W fb tb gb rb vp vd s nx ub ub2 L w) (t:Turn (fun _ => False) w w'):ForkR W fb tb gb rb vp vd s nx ub ub2 L w':=by
 obtain ⟨C,φ,nx',h1,h2⟩:=h
 exact ⟨C,φ,nx',h1.still t,h2⟩
theorem ForkR.row {s:DS} {ub2:Nat} (h:ForkR W fb tb gb rb vp vd s nx ub ub2 L w):RowV w 43 vd (s.us.map tptr):=by
 obtain ⟨C,φ,nx',h1,h2⟩:=h
 exact h1.rd.1
theorem lawD_fork2 {s:DS} {B u t:Nat} (h:ForkQ W fb tb gb rb vp vd s nx ub L w) (hI:DInv s B) (hi:s.ts[i]?=some (t,L)) (hu:s.us[i]?=some (u,L)) :
  Calls Tryz.prog 10 #[.pointer (some ⟨gb,0,none⟩),.pointer (some ⟨u,0,none⟩)] w fun e w' => ∃ ub2,e=.returned (.pointer (some ⟨ub2,0,none⟩))∧ForkR W fb tb gb rb vp vd s nx ub ub2 L w':=by
 obtain ⟨C,φ,nx',h1,h2⟩:=h
 obtain ⟨G,π,g1,g2⟩:=h1.fd
 refine (rffork_is g1 hI.ok.nd (h1.td i _ hu).1 (show TabOk s.S L from hI.joint.there hi) (fun e => by have:=(g2 _ e).symm.trans (h1.td i _ hu).2; simp at this) hI.refs (fun j hj => (hI.pos hi j hj).1)).mono ?_
 rintro e w' ⟨ub2,rfl,hu2,ht,hf,tt⟩
 obtain ⟨C',h3⟩:=h1.forkD g2 hu2 ht hf tt
 exact ⟨ub2,rfl,C',φ,nx',h3,h2⟩
theorem ForkR.grow {s:DS} {B t:Nat} {g k cap ub2:Nat} (h:ForkR W fb tb gb rb vp vd s nx ub ub2 L w) (hI:DInv s B) (hi:s.ts[i]?=some (t,L)) (hl:s.ts.length < 8) (hr:RowV w' 43 (.slice (some ⟨g,0,none⟩) k cap) (s.us.map tptr ++ [.pointer (some ⟨ub2,0,none⟩)])) (t:Turn (fun j => vd.ownBlock=some j) w w') (hg:vd.ownBlock=some g∨w.heap.size≤g):LawD W fb tb gb rb vp (.slice (some ⟨g,0,none⟩) k cap) ⟨forkS s.S L,s.ts ++ [(ub,L)],s.us ++ [(ub2,L)]⟩ nx B w':=by
 obtain ⟨C,φ,nx',h1,h2⟩:=h
 obtain ⟨C',h3⟩:=h1.growD hr t hg
 refine ⟨⟨C',φ,nx',?_,by show nx'≤nx+0; omega,fun p hp => by cases hp⟩,?_⟩
 ·show TD W w' fb tb gb rb (forkS s.S L) (s.ts ++ [(ub,L)]) (forkS s.S L) φ nx' (s.us ++ [(ub2,L)]) vp ((s.ts ++ [(ub,L)]).map tptr) _ ((s.us ++ [(ub2,L)]).map tptr) C'
  rw [List.map_append,List.map_append]
  exact h3
 ·have hd:=dok_forkFrom L 8 0 s.S hI.ok (fun k e he => by have:=hI.refs k e he; omega)
  refine ⟨hd.1,joint_fork hI.joint hi ub,?_,?_,by show (s.ts ++ [_]).length≤8; rw [List.length_append]; simp only [List.length_singleton]; omega,?_⟩
  ·show Alive (forkFrom L 8 0 s.S).T
   rw [fork_T]; exact hI.alive
  ·show TBnd (forkFrom L 8 0 s.S).T B
   rw [fork_T]; exact hI.bnd
  ·show (s.us ++ [(ub2,L)]).map Prod.snd=(s.ts ++ [(ub,L)]).map Prod.snd
   rw [List.map_append,List.map_append,hI.same]; rfl
end
def nX:ByteArray:=⟨#[120]⟩
def DS0:PS:=⟨rootT,[],[]⟩
def DS1 (x:ByteArray) (a:Int) (r:Nat):PS:=⟨TS [(nX,1)] x 1 1,[(0,⟨1,3,1,0,a,r⟩)],[]⟩
def L1:PTab:=tset noTab 0 (1,false)
def L2:PTab:=tset L1 1 (1,false)
section
variable {x s:ByteArray} {a c:Int} {r:Nat} {k:Int} {e:PE}
theorem ds1_get (h:mget (DS1 x a r).es k=some e):k=0∧e=⟨1,3,1,0,a,r⟩:=by
 have hm:=mem_of_mget h
 unfold DS1 at hm
 simp only [List.mem_cons,List.not_mem_nil,or_false,Prod.mk.injEq] at hm
 exact hm
theorem ds0_ok:DOk DS0:=by
 refine ⟨List.nodup_nil,fun k e h => (by cases h),fun k e h => (by cases h),Nat.zero_le _,fun k j e f h => (by cases h),fun i q h => (by cases h),fun n p h => ?_⟩
 have hm:=mem_of_mget h
 have hm:(n,p)∈rootT:=hm
 unfold rootT at hm
 simp only [List.mem_cons,List.not_mem_nil,or_false,Prod.mk.injEq] at hm
 rw [hm.2]; rfl
end
theorem infoTab:(Tryz.prog.info? 36).map (fun i => (i.zero,i.size,i.bytes))=some (some (.pointer none),1,8):=by kernel_rfl
theorem infoFds:(Tryz.prog.info? 43).map (fun i => (i.zero,i.size,i.bytes))=some (some (.pointer none),1,8):=by kernel_rfl
theorem joint0 (t:Nat):Joint DS0 [(t,noTab)]:=by
 refine ⟨fun k hk => ?_,fun i x hx j hj => ?_⟩
 ·rw [cnt_zero [(t,noTab)] (fun x hx j hj => by rw [List.mem_singleton] at hx; rw [hx]; rfl) k hk]; rfl
 ·cases i with
  | zero => cases hx; exact ⟨Int.le_refl _,by show (0:Int)≤40; decide⟩
  | succ i => cases hx
def FdsRow (w:World) (b off:Nat) (xs:List XFd):Prop:=∀ (j:Nat) x,xs[j]?=some x →
 w.cell? ⟨b,off+j * 6,none⟩=some (.int .i64 x.1)∧w.cell? ⟨b,off+j * 6+1,none⟩=some (.int .i64 x.2.1)∧w.cell? ⟨b,off+j * 6+2,none⟩=some (.int .i64 x.2.2.1)∧w.cell? ⟨b,off+j * 6+3,none⟩=some (.int .i64 x.2.2.2.1)∧w.cell? ⟨b,off+j * 6+4,none⟩=some (.string x.2.2.2.2.1)∧w.cell? ⟨b,off+j * 6+5,none⟩=some (.bool x.2.2.2.2.2)∧(-9223372036854775808≤x.2.2.2.1∧x.2.2.2.1≤9223372036854775807)
theorem FdsRow.turned {W w:World} {b off:Nat} {xs:List XFd} {S:Nat→Prop} (h:FdsRow W b off xs) (t:Turn S W w) (hb:b < W.heap.size) (hn:¬ S b):FdsRow w b off xs:=fun j x hx => by
 obtain ⟨h0,h1,h2,h3,h4,h5,h6⟩:=h j x hx
 exact ⟨(t.cell (a:=⟨b,_,none⟩) hb hn).trans h0,(t.cell (a:=⟨b,_,none⟩) hb hn).trans h1,(t.cell (a:=⟨b,_,none⟩) hb hn).trans h2,(t.cell (a:=⟨b,_,none⟩) hb hn).trans h3,(t.cell (a:=⟨b,_,none⟩) hb hn).trans h4,(t.cell (a:=⟨b,_,none⟩) hb hn).trans h5,h6⟩
theorem dplays_many (a:Option Addr) (len cap:Nat) (w:World) (hm:60 < len) (hl:len≤9223372036854775807) :
  Calls Tryz.prog 3 #[.slice a len cap] w fun e w' => e=.returned (.bool true)∧Turn (fun _ => False) w w':=by
 have hm':(60:Int) < len:=by omega
 clear hm
 go_enter Tryz.func3,Tryz.ntmps3
 go_wp2_with fail
 go_ret
 exact ⟨rfl,Turn.refl _ _⟩
def ptrObj (p:Nat) (t:TypeId):Obj:=.cells #[.pointer (some ⟨p,0,none⟩)] t
def startW (w:World):World:=(((w.alloc (tabObj noTab)).alloc (ptrObj w.heap.size 36)).alloc (rtabObj noTab)).alloc (ptrObj (w.heap.size+2) 43)
theorem lawD_start {W w:World} {fb tb gb rb:Nat} {F G:Nat→Prop} {φ:Int→Int} {π:Nat→Int} (hF:FilesIs w fb tb DS0 F) (hG:RFilesIs w gb rb DS0 φ π 0 G) (hd:∀ k,F k→¬ G k) (hFl:∀ k,F k→W.heap.size≤k) (hGl:∀ k,G k→W.heap.size≤k) (t:Turn (fun _ => False) W w) :
  LawD W fb tb gb rb (.slice (some ⟨w.heap.size+1,0,none⟩) 1 1) (.slice (some ⟨w.heap.size+3,0,none⟩) 1 1) ⟨DS0,[(w.heap.size,noTab)],[(w.heap.size+2,noTab)]⟩ 0 1 (startW w):=by
 classical
 obtain ⟨n,hn⟩:∃ n,w.heap.size=n:=⟨_,rfl⟩
 have t1:Turn (fun _ => False) w (w.alloc (tabObj noTab)):=(Turn.refl _ _).alloc _
 have s1:(w.alloc (tabObj noTab)).heap.size=n+1:=by rw [World.size_alloc,hn]
 have hT:=tabObj_at w noTab (fun i hi => ⟨Int.le_refl _,by show (0:Int)≤40; decide⟩)
 obtain ⟨w1,hw1⟩:∃ w1,w.alloc (tabObj noTab)=w1:=⟨_,rfl⟩
 rw [hw1] at t1 s1 hT
 have t2:Turn (fun _ => False) w1 (w1.alloc (ptrObj n 36)):=(Turn.refl _ _).alloc _
 have s2:(w1.alloc (ptrObj n 36)).heap.size=n+2:=by rw [World.size_alloc,s1]
 have hR:=RowV.one w1 36 (.pointer (some ⟨n,0,none⟩))
 obtain ⟨w2,hw2⟩:∃ w2,w1.alloc (ptrObj n 36)=w2:=⟨_,rfl⟩
 rw [hw2] at t2 s2
 have hR:RowV w2 36 (.slice (some ⟨n+1,0,none⟩) 1 1) [.pointer (some ⟨n,0,none⟩)]:=by rw [← hw2,← s1]; exact hR
 have t3:Turn (fun _ => False) w2 (w2.alloc (rtabObj noTab)):=(Turn.refl _ _).alloc _
 have s3:(w2.alloc (rtabObj noTab)).heap.size=n+3:=by rw [World.size_alloc,s2]
 have hT2:=rtabObj_at w2 noTab (fun i hi => ⟨Int.le_refl _,by show (0:Int)≤1000000; decide⟩)
 obtain ⟨w3,hw3⟩:∃ w3,w2.alloc (rtabObj noTab)=w3:=⟨_,rfl⟩
 rw [hw3] at t3 s3 hT2
 rw [s2] at hT2
 have t4:Turn (fun _ => False) w3 (w3.alloc (ptrObj (n+2) 43)):=(Turn.refl _ _).alloc _
 have s4:(w3.alloc (ptrObj (n+2) 43)).heap.size=n+4:=by rw [World.size_alloc,s3]
 have hR2:=RowV.one w3 43 (.pointer (some ⟨n+2,0,none⟩))
 have e4:startW w=w3.alloc (ptrObj (n+2) 43):=by unfold startW; rw [hn,hw1,hw2,hw3]
 rw [e4]
 obtain ⟨w4,hw4⟩:∃ w4,w3.alloc (ptrObj (n+2) 43)=w4:=⟨_,rfl⟩
 rw [hw4] at t4 s4 ⊢
 have hR2:RowV w4 43 (.slice (some ⟨n+3,0,none⟩) 1 1) [.pointer (some ⟨n+2,0,none⟩)]:=by rw [← hw4,← s3]; exact hR2
 rw [hn] at hT ⊢
 have tA:=((t1.trans t2).trans t3).trans t4
 have lF:∀ k,F k→k < n:=fun k hk => by have:=hF.low k hk; omega
 have lG:∀ k,G k→k < n:=fun k hk => by have:=hG.low k hk; omega
 have eq0:∀ φ:Int→Int,relL φ noTab=noTab:=fun φ => funext fun i => by
  show ((if (0:Int)=0 then 0 else φ (0 - 1)),false)=(0,false)
  rw [if_pos rfl]
 have hsz:=t.size
 obtain ⟨C,hC⟩:∃ C:Nat→Nat×Nat,C=fun k => if F k then (1,0) else if G k then (2,0) else if k=n then (3,0) else if k=n+1 then (5,0) else if k=n+2 then (4,0) else if k=n+3 then (6,0) else (0,0):=⟨_,rfl⟩
 have cF:∀ k,F k→C k=(1,0):=fun k hk => by rw [hC]; exact if_pos hk
 have cG:∀ k,G k→C k=(2,0):=fun k hk => by rw [hC]; exact (if_neg (fun h => hd k h hk)).trans (if_pos hk)
 have nF:∀ k,n≤k→¬ F k:=fun k hk h => by have:=lF k h; omega
 have nG:∀ k,n≤k→¬ G k:=fun k hk h => by have:=lG k h; omega
 have cn:∀ k,n≤k→C k=if k=n then (3,0) else if k=n+1 then (5,0) else if k=n+2 then (4,0) else if k=n+3 then (6,0) else (0,0):=fun k hk => by rw [hC]; exact (if_neg (nF k hk)).trans (if_neg (nG k hk))
 have c0:C n=(3,0):=(cn n (Nat.le_refl _)).trans (if_pos rfl)
 have c1:C (n+1)=(5,0):=(cn _ (by omega)).trans ((if_neg (by omega)).trans (if_pos rfl))
 have c2:C (n+2)=(4,0):=(cn _ (by omega)).trans ((if_neg (by omega)).trans ((if_neg (by omega)).trans (if_pos rfl)))
 have c3:C (n+3)=(6,0):=(cn _ (by omega)).trans ((if_neg (by omega)).trans ((if_neg (by omega)).trans ((if_neg (by omega)).trans (if_pos rfl))))
 have cz:∀ k,C k≠(0,0)→F k∨G k∨k=n∨k=n+1∨k=n+2∨k=n+3:=fun k hk => by
  by_cases h1:F k
  ·exact .inl h1
  ·by_cases h2:G k
   ·exact .inr (.inl h2)
   ·have hk:(if F k then ((1,0):Nat×Nat) else if G k then (2,0) else if k=n then (3,0) else if k=n+1 then (5,0) else if k=n+2 then (4,0) else if k=n+3 then (6,0) else (0,0))≠(0,0):=by rw [hC] at hk; exact hk
    rw [if_neg h1,if_neg h2] at hk
    by_cases h3:k=n
    ·exact .inr (.inr (.inl h3))
    ·rw [if_neg h3] at hk
     by_cases h4:k=n+1
     ·exact .inr (.inr (.inr (.inl h4)))
     ·rw [if_neg h4] at hk
      by_cases h5:k=n+2
      ·exact .inr (.inr (.inr (.inr (.inl h5))))
      ·rw [if_neg h5] at hk
       by_cases h6:k=n+3
       ·exact .inr (.inr (.inr (.inr (.inr h6))))
       ·rw [if_neg h6] at hk; exact absurd rfl hk
 refine ⟨⟨C,φ,0,⟨⟨F,hF.turned tA (fun _ _ => id),cF⟩,⟨G,π,hG.turned tA (fun _ _ => id),cG⟩,fun j x hx => ?_,fun j x hx => ?_,⟨(hR.turned t3 (fun _ _ => id)).turned t4 (fun _ _ => id),fun g hg => by cases hg; exact c1⟩,⟨hR2,fun g hg => by cases hg; exact c3⟩,t.trans tA,fun k hk => ?_,fun k j hk => ?_⟩,by show (0:Int)≤0+0; decide,fun p hp => by cases hp⟩,⟨ds0_ok,joint0 _,alive_root,TBnd.root,by show 1≤8; decide,rfl⟩⟩
 ·cases j with
  | zero => cases hx; exact ⟨((hT.turned t2 id).turned t3 id).turned t4 id,c0⟩
  | succ j => cases hx
 ·cases j with
  | zero =>
   cases hx
   refine ⟨?_,c2⟩
   show RTabIs w4 (n+2) (relL φ noTab)
   rw [eq0]
   exact hT2.turned t4 id
  | succ j => cases hx
 ·rcases cz k hk with h | h | h | h | h | h
  ·exact ⟨hFl k h,by have:=lF k h; omega⟩
  ·exact ⟨hGl k h,by have:=lG k h; omega⟩
  ·exact ⟨by show W.heap.size≤k; omega,by omega⟩
  ·exact ⟨by show W.heap.size≤k; omega,by omega⟩
  ·exact ⟨by show W.heap.size≤k; omega,by omega⟩
  ·exact ⟨by show W.heap.size≤k; omega,by omega⟩
 ·rcases cz k (by rw [hk]; simp) with h | h | h | h | h | h
  ·rw [cF k h] at hk; simp at hk
  ·rw [cG k h] at hk; simp at hk
  ·rw [h,c0] at hk
   simp at hk
   exact ⟨_,by rw [← hk]; rfl,h.symm⟩
  ·rw [h,c1] at hk; simp at hk
  ·rw [h,c2] at hk; simp at hk
  ·rw [h,c3] at hk; simp at hk
section
variable {W w w':World} {fb tb gb rb B B':Nat} {vp vd:Value} {s:DS} {nx nx':Int}
theorem LawD.still (h:LawD W fb tb gb rb vp vd s nx B w) (t:Turn (fun _ => False) w w'):LawD W fb tb gb rb vp vd s nx B w':=⟨h.1.still t,h.2⟩
theorem LawD.mono (h:LawD W fb tb gb rb vp vd s nx B w) (h1:nx≤nx') (h2:B≤B'):LawD W fb tb gb rb vp vd s nx' B' w:=⟨h.1.mono h1,{ h.2 with bnd:=h.2.bnd.mono h2 }⟩
theorem LawD.lens (h:LawD W fb tb gb rb vp vd s nx B w):s.us.length=s.ts.length:=by
 have h1:=congrArg List.length h.2.same
 rw [List.length_map,List.length_map] at h1
 exact h1
theorem LawD.rows (h:LawD W fb tb gb rb vp vd s nx B w):RowV w 36 vp (s.ts.map tptr)∧RowV w 43 vd (s.us.map tptr):=by
 obtain ⟨⟨C,φ,nx',h1,h2,_⟩,hI⟩:=h
 exact ⟨h1.rp.1,h1.rd.1⟩
theorem LawD.slice1 (h:LawD W fb tb gb rb vp vd s nx B w) (hl:1≤s.ts.length):∃ g cap,vp=.slice (some ⟨g,0,none⟩) s.ts.length cap:=by
 rcases h.rows.1.shape with ⟨_,e⟩ | ⟨g,cap,e,_⟩
 ·rw [List.map_eq_nil_iff] at e; rw [e] at hl; simp at hl
 ·exact ⟨g,cap,by rw [e,List.length_map]⟩
theorem LawD.slice2 (h:LawD W fb tb gb rb vp vd s nx B w) (hl:1≤s.ts.length):∃ g cap,vd=.slice (some ⟨g,0,none⟩) s.us.length cap:=by
 rcases h.rows.2.shape with ⟨_,e⟩ | ⟨g,cap,e,_⟩
 ·rw [List.map_eq_nil_iff] at e
  have h2:=h.lens
  rw [e] at h2; simp at h2; omega
 ·exact ⟨g,cap,by rw [e,List.length_map]⟩
theorem LawD.asks {pb:Nat} {x:XFd} (h:LawD W fb tb gb rb vp vd s nx B w) (t:Turn (fun _ => False) w w') (hp:w.heap.size≤pb) (hx:FdAt w' pb x):TDb ⟨W,fb,tb,gb,rb,vp,s.ts.map tptr,vd,s.us.map tptr,[pb],x⟩ s s nx false false w':=by
 obtain ⟨⟨C,φ,nx',h1,h2,h3⟩,hI⟩:=h
 have h4:TDb ⟨W,fb,tb,gb,rb,vp,s.ts.map tptr,vd,s.us.map tptr,[],x⟩ s s nx false false w:=⟨C,φ,nx',h1,h2,fun p hp => by cases hp⟩
 exact h4.more t hp hx
theorem TDb.law {K:DK} (h:TDb K s s nx false false w) (hI:DInv s B) (h1:K.rs=s.ts.map tptr) (h2:K.qs=s.us.map tptr):LawD K.W K.fb K.tb K.gb K.rb K.vp K.vd s nx B w:=by
 obtain ⟨C,φ,nx',a,b,c⟩:=h
 refine ⟨⟨C,φ,nx',?_,b,fun p hp => by cases hp⟩,hI⟩
 rw [← h1,← h2]
 exact a
end
theorem tab_pick (x N:Int) (h1:1≤N) (h2:N≤8):∃ k:Nat,(k:Int) < N∧wrap64 ((IntKind.u64.wrap x).tmod N)=k:=by
 have h3:0≤IntKind.u64.wrap x:=by
  have e:IntKind.u64.wrap x=x % 18446744073709551616:=rfl
  rw [e]; omega
 have h4:(IntKind.u64.wrap x).tmod N=IntKind.u64.wrap x % N:=Int.tmod_eq_emod_of_nonneg h3
 have h5:=Int.emod_nonneg (IntKind.u64.wrap x) (show N≠0 by omega)
 have h6:=Int.emod_lt_of_pos (IntKind.u64.wrap x) (show 0 < N by omega)
 rw [h4]
 exact ⟨(IntKind.u64.wrap x % N).toNat,by omega,by rw [IntWalk.wrap64_in _ (by omega)]; omega⟩
theorem dplays_few (a:Option Addr) (xs:List XFd) (cap:Nat) (W:World) (hL:Laid W) (hl:xs.length≤60)
  (hc:xs≠[]→∃ b off,a=some ⟨b,off,none⟩∧FdsRow W b off xs∧b < W.heap.size) :
  Calls Tryz.prog 3 #[.slice a xs.length cap] W fun e w' => e=.returned (.bool true)∧Turn (fun _ => False) W w':=by
 have HC:=hid hc
 have HL:=hid hL
 have hm':¬ (60:Int) < xs.length:=by omega
 clear hc hL
 go_enter Tryz.func3,Tryz.ntmps3
 go_wp2_with fail
 refine (treeNew_is W).mono ?_
 rintro e w1 ⟨tb,Ft,rfl,hT1,t1,hF1⟩
 go_wp2_with fail
 refine (rtreeNew_is w1).mono ?_
 rintro e w2 ⟨rb,Gt,rfl,hR2,t2,hG2⟩
 go_wp2_with fail
 refine (rnewFiles_is hR2 (fun _ => 0) (fun _ => 0)).mono ?_
 rintro e w3 ⟨gb,G,rfl,hG3,t3,hG3l,hgb⟩
 have hT3:=(hT1.turned t2 (fun _ _ => id)).turned t3 (fun _ _ => id)
 have HN:=hid (dfiles_new hT3)
 have HS3:Hid (Turn (fun _ => False) W w3∧(∀ k,G k→W.heap.size≤k)∧(∀ k,Ft k→W.heap.size≤k)∧(∀ k,Ft k→¬ G k)∧RFilesIs w3 gb rb DS0 (fun _ => 0) (fun _ => 0) 0 G):=hid (by
  have s1:=t1.size
  have s2:=t2.size
  have hG0:∀ k,G k→w1.heap.size≤k:=fun k hk => by
   rcases hG3l k hk with h | h
   ·exact hG2 k h
   ·omega
  exact ⟨(t1.trans t2).trans t3,fun k hk => by have:=hG0 k hk; omega,hF1,fun k hk h => by have:=hG0 k h; have:=hT1.foot_lt k hk; omega,hG3⟩)
 clear hT1 t1 hF1 hR2 t2 hG2 hG3 t3 hG3l hgb hT3
 go_wp2_with fail
 refine HN.out.mono ?_
 rintro e w4 ⟨fb,F,rfl,hF4,t4,hF4l⟩
 have HS4:Hid (Turn (fun _ => False) W w4∧(∀ k,G k→W.heap.size≤k)∧(∀ k,F k→W.heap.size≤k)∧(∀ k,F k→¬ G k)∧RFilesIs w4 gb rb DS0 (fun _ => 0) (fun _ => 0) 0 G∧FilesIs w4 fb tb DS0 F):=hid (by
  obtain ⟨a1,a2,a3,a4,a5⟩:=HS3.out
  refine ⟨a1.trans t4,a2,fun k hk => ?_,fun k hk h => ?_,a5.turned t4 (fun _ _ => id),hF4⟩
  ·rcases hF4l k hk with h | h
   ·exact a3 k h
   ·have:=a1.size; omega
  ·rcases hF4l k hk with h1 | h1
   ·exact a4 k h1 h
   ·have:=a5.low k h; omega)
 clear hF4 t4 hF4l HS3 HN
 go_wp2_with fail
 refine (dnew_nil _).mono ?_
 rintro e w5 ⟨rfl,hw⟩
 subst hw
 have HBr:=hid (bareT 7 w5 (HL.out.turned0 HS4.out.1))
 rw [show TErr 7=.iface 35 (.int .i64 7) from TErr_of (by decide)] at HBr ⊢
 go_wp2_with fail
 refine HBr.out.mono ?_
 rintro e w6 ⟨rfl,t6⟩
 have HS6:Hid (LawD W fb tb gb rb (.slice (some ⟨w6.heap.size+1,0,none⟩) 1 1) (.slice (some ⟨w6.heap.size+1+1+1,0,none⟩) 1 1) ⟨DS0,[(w6.heap.size,noTab)],[(w6.heap.size+2,noTab)]⟩ 0 1 (startW w6)):=hid (by
  obtain ⟨a1,a2,a3,a4,a5,a6⟩:=HS4.out
  exact lawD_start (a6.turned t6 (fun _ _ => id)) (a5.turned t6 (fun _ _ => id)) a4 a3 a2 (a1.trans t6))
 unfold startW tabObj rtabObj ptrObj noTab at HS6
 clear t6 HS4 HBr
 go_wp2_with fail
 go_loopg [9,10,11] (xs.length) (fun gl v1 v2 i wr => ∃ (j:Nat) (s:DS),j+gl=xs.length∧i=.int .i64 j∧Hid (LawD W fb tb gb rb v1 v2 s (6 * j) (1+4 * j) wr)∧Hid (1≤s.ts.length))
 case atStart => exact ⟨0,_,by omega,rfl,HS6,hid (Nat.le_refl _)⟩
 case round =>
  clear HS6
  obtain ⟨j,s,hj,rfl,hS,hN⟩:=hrel
  by_cases hlt:j < xs.length
  ·have hlt':(j:Int) < xs.length:=by omega
   obtain ⟨g,gcap,rfl⟩:=hS.out.slice1 hN.out
   obtain ⟨g2,gcap2,rfl⟩:=hS.out.slice2 hN.out
   obtain ⟨LN,hLN⟩:∃ LN,s.ts.length=LN:=⟨_,rfl⟩
   have hl1:=hN.out
   have hl8:=hS.out.2.few
   have hlu:=hS.out.lens
   rw [hlu,hLN] at hS ⊢
   rw [hLN] at hl1 hl8
   have HLN:=hid (And.intro hLN (hlu.trans hLN))
   clear hLN hlu hN
   obtain ⟨⟨x0,x1,x2,x3,x4,x5⟩,hx⟩:∃ x,xs[j]?=some x:=⟨_,List.getElem?_eq_getElem hlt⟩
   obtain ⟨b,off,rfl,hO,hb⟩:=HC.out (by rintro rfl; simp at hlt)
   obtain ⟨d0,d1,d2,d3,d4,d5,hm3⟩:=hO.turned hS.out.1.turn hb id j _ hx
   simp only at d0 d1 d2 d3 d4 d5 hm3
   clear hO hx
   obtain ⟨kk,hkk,hke⟩:=tab_pick x1 LN (by omega) (by omega)
   have HKe:=hid hke
   have HM3:=hid hm3
   clear hke hm3
   obtain ⟨pb,hpb⟩:∃ pb,pb=wr.heap.size:=⟨_,rfl⟩
   have T1:Turn (fun _ => False) wr (wr.alloc (.cells #[.int .i64 x0,.int .i64 x1,.int .i64 x2,.int .i64 x3,.string x4,.bool x5] 50)):=(Turn.refl _ _).alloc _
   have hat:FdAt (wr.alloc (.cells #[.int .i64 x0,.int .i64 x1,.int .i64 x2,.int .i64 x3,.string x4,.bool x5] 50)) pb (x0,x1,x2,x3,x4,x5):=by
    rw [hpb]
    exact ⟨by simp,by simp,by simp,by simp,by simp,by simp⟩
   go_upto_region 13 with fail
   rw [← hpb]
   obtain ⟨W2,hW2⟩:∃ W2,wr.alloc (.cells #[.int .i64 x0,.int .i64 x1,.int .i64 x2,.int .i64 x3,.string x4,.bool x5] 50)=W2:=⟨_,rfl⟩
   rw [hW2] at T1 hat ⊢
   have HAt:=hid hat
   obtain ⟨c0,c1,c2,c3,c4,c5⟩:=hat
   simp only at c0 c1 c2 c3 c4 c5
   have HPb:=hid hpb
   have HT1:=hid T1
   clear d0 d1 d2 d3 d4 d5 hW2 T1 hpb
   by_cases l4:250 < x4.size
   ·have l4':(250:Int) < x4.size:=by omega
    clear l4
    go_wp2_with fail
    go_roundg (gk - 1)
    case measure => omega
    case rel => exact ⟨j+1,s,by omega,by go_num,hid ((hS.out.still HT1.out).mono (by omega) (by omega)),hid (by have:=HLN.out.1; omega)⟩
   ·have l4':¬ (250:Int) < x4.size:=by omega
    clear l4
    have hkL:kk < LN:=by omega
    obtain ⟨⟨t,L⟩,htk⟩:∃ z,s.ts[kk]?=some z:=⟨_,List.getElem?_eq_getElem (by have:=HLN.out.1; omega)⟩
    obtain ⟨u,huk⟩:∃ u,s.us[kk]?=some (u,L):=by
     have h1:(s.us.map Prod.snd)[kk]?=some L:=by rw [hS.out.2.same,List.getElem?_map,htk]; rfl
     rw [List.getElem?_map] at h1
     cases hq:s.us[kk]? with
     | none => rw [hq] at h1; cases h1
     | some q => rw [hq] at h1; exact ⟨q.1,by rw [← Option.some.inj h1]⟩
    have HTk:=hid htk
    have HUk:=hid huk
    have HS2:=hid (hS.out.still HT1.out)
    have HTD:=hid (hS.out.asks HT1.out (Nat.le_of_eq HPb.out.symm) HAt.out)
    have q1:W2.cell? ⟨g,kk,none⟩=some (.pointer (some ⟨t,0,none⟩)):=by
     have h1:=HS2.out.rows.1
     have hlm:(s.ts.map tptr).length=LN:=by rw [List.length_map]; exact HLN.out.1
     rw [← hlm] at h1
     exact h1.cell kk _ (by rw [List.getElem?_map,htk]; rfl)
    have q2:W2.cell? ⟨g2,kk,none⟩=some (.pointer (some ⟨u,0,none⟩)):=by
     have h1:=HS2.out.rows.2
     have hlm:(s.us.map tptr).length=LN:=by rw [List.length_map]; exact HLN.out.2
     rw [← hlm] at h1
     exact h1.cell kk _ (by rw [List.getElem?_map,huk]; rfl)
    clear htk huk hS hkk
    go_upto_region 15 with fail
    rw [HKe.out]
    by_cases h9:x0=9
    ·subst h9
     --<<
     by_cases h8:LN < 8
     ·have h8':(LN:Int) < 8:=by omega
      clear c1 c2 c3 c4 c5 HAt
      go_wp2_with fail
      refine (lawD_fork (u:=0) HS2.out HTk.out).mono ?_
      rintro e w7 ⟨ub,rfl,h7⟩
      have H7:=hid h7
      clear h7 q1 q2 c0
      have H7a:=hid (H7.out.still ((Turn.refl (fun _ => False) w7).drew.alloc (.cells #[.pointer (some ⟨ub,0,none⟩)] 36)))
      have hll:(s.ts.map tptr).length≤1000000:=by rw [List.length_map,HLN.out.1]; omega
      have hlu:(s.us.map tptr).length≤1000000:=by rw [List.length_map,HLN.out.2]; omega
      have HRow1:Hid (RowV (w7.drew.alloc (.cells #[.pointer (some ⟨ub,0,none⟩)] 36)) 36 (.slice (some ⟨g,0,none⟩) LN gcap) (s.ts.map tptr)):=hid H7a.out.row.1
      have HCel1:Hid ((w7.drew.alloc (.cells #[.pointer (some ⟨ub,0,none⟩)] 36)).cell? ⟨w7.heap.size,0,none⟩=some (.pointer (some ⟨ub,0,none⟩))):=hid (World.cell?_alloc_new w7.drew _ _ _)
      have HCl:Hid (∀ w',RowV w' 43 (.slice (some ⟨g2,0,none⟩) LN gcap2) (s.us.map tptr)→w'.cell? ⟨g2,kk,none⟩=some (.pointer (some ⟨u,0,none⟩))):=hid (fun w' h1 => by
       have hlm:(s.us.map tptr).length=LN:=by rw [List.length_map]; exact HLN.out.2
       rw [← hlm] at h1
       exact h1.cell kk _ (by rw [List.getElem?_map,HUk.out]; rfl))
      have k7:=HCl.out _ (H7.out.still (Turn.refl _ _).drew).row.2
      have k7a:=HCl.out _ (H7.out.still ((Turn.refl (fun _ => False) w7).alloc (.cells #[.pointer (some ⟨ub,0,none⟩)] 36))).row.2
      have k7b:=HCl.out _ H7.out.row.2
      go_upto_region 20 with fail
      go_region_law (first
       | (refine step_append_val (z:=.pointer none) (bytes:=8) rfl _ _ rfl Tryz.underlying42 infoTab rfl (by decide) (.slice (some ⟨g,0,none⟩) LN gcap) (s.ts.map tptr) rfl HRow1.out w7.heap.size 1 (.pointer (some ⟨ub,0,none⟩)) rfl HCel1.out rfl hll ?_; intro g3 z3 w8 hr8 t8 ho8; have H8:=hid (H7a.out.grow hr8 t8 ho8); have k8:=HCl.out _ H8.out.row; clear hr8 t8 ho8)
       | (go_simp; go_at_call 10; refine (lawD_fork2 H8.out HS2.out.2 HTk.out HUk.out).mono ?_; rintro e w9 ⟨ub2,rfl,h9⟩; have H9:=hid h9; have H9a:=hid (h9.still ((Turn.refl (fun _ => False) w9).alloc (.cells #[.pointer (some ⟨ub2,0,none⟩)] 43))); have HRow2:=hid H9a.out.row; have HCel2:Hid ((w9.alloc (.cells #[.pointer (some ⟨ub2,0,none⟩)] 43)).cell? ⟨w9.heap.size,0,none⟩=some (.pointer (some ⟨ub2,0,none⟩))):=hid (World.cell?_alloc_new w9 _ _ _); clear h9)
       | (refine step_append_val (z:=.pointer none) (bytes:=8) rfl _ _ rfl Tryz.underlying48 infoFds rfl (by decide) (.slice (some ⟨g2,0,none⟩) LN gcap2) (s.us.map tptr) rfl HRow2.out w9.heap.size 1 (.pointer (some ⟨ub2,0,none⟩)) rfl HCel2.out rfl hlu ?_; intro g4 z4 w10 hr10 t10 ho10; have H10:=hid (H9a.out.grow HS2.out.2 HTk.out (by rw [HLN.out.1]; exact h8) hr10 t10 ho10); clear hr10 t10 ho10))
      all_goals
       go_wp2_with fail
       go_roundg (gk - 1)
       case measure => omega
       case rel =>
        have h:=H10.out.mono (nx':=6 * ((j+1:Nat):Int)) (B':=1+4 * (j+1)) (by omega) (by omega)
        simp only [List.length_map] at h
        refine ⟨j+1,⟨forkS s.S L,s.ts ++ [(ub,L)],s.us ++ [(ub2,L)]⟩,by omega,by go_num,hid ?_,hid ?_⟩
        ·exact h
        ·show 1≤(s.ts ++ [_]).length; rw [List.length_append]; simp
     ·have h8':¬ (LN:Int) < 8:=by omega
      go_wp2_with fail
      go_roundg (gk - 1)
      case measure => omega
      case rel => exact ⟨j+1,s,by omega,by go_num,hid (HS2.out.mono (by omega) (by omega)),hid (by have:=HLN.out.1; omega)⟩
     -->>
    ·have h9b:(x0 == 9)=false:=by simpa using h9
     obtain ⟨K,hK⟩:∃ K:DK,(⟨W,fb,tb,gb,rb,.slice (some ⟨g,0,none⟩) LN gcap,s.ts.map tptr,.slice (some ⟨g2,0,none⟩) LN gcap2,s.us.map tptr,[pb],(x0,x1,x2,x3,x4,x5)⟩:DK)=K:=⟨_,rfl⟩
     rw [hK] at HTD
     have kf:K.fb=fb:=by rw [← hK]
     have kt:K.tb=tb:=by rw [← hK]
     have kg:K.gb=gb:=by rw [← hK]
     have kr:K.rb=rb:=by rw [← hK]
     have hF:=lfds_is (B:=1+4 * j) x0 x1 x2 x3 x4 x5 (by rw [← hK]) (HTD.out.still (Turn.refl _ _).drew) HS2.out.2 (by omega) (by omega) HTk.out HUk.out (by rw [← hK]; exact HL.out) (by omega) (by omega) HM3.out
     rw [kf,kg] at hF
     have HFds:=hid hF
     have HRowc:Hid (∀ (s':DS) (nx':Int) (w':World),TDb K s' s' nx' false false w'→w'.cell? ⟨g,kk,none⟩=some (.pointer (some ⟨t,0,none⟩))∧w'.cell? ⟨g2,kk,none⟩=some (.pointer (some ⟨u,0,none⟩))∧FdAt w' pb (x0,x1,x2,x3,x4,x5)):=hid (fun s' nx' w' h => by
      have h5:=h.at_ (p:=pb) (by rw [← hK]; exact List.mem_cons_self)
      obtain ⟨C,φ,nx2,h1,h2,h3⟩:=h
      have hr:=h1.rp.1
      have hr2:=h1.rd.1
      rw [← hK] at hr hr2 h5
      have hlm:(s.ts.map tptr).length=LN:=by rw [List.length_map]; exact HLN.out.1
      have hlm2:(s.us.map tptr).length=LN:=by rw [List.length_map]; exact HLN.out.2
      refine ⟨?_,?_,h5⟩
      ·have hr:RowV w' 36 (.slice (some ⟨g,0,none⟩) LN gcap) (s.ts.map tptr):=hr
       rw [← hlm] at hr
       exact hr.cell kk _ (by rw [List.getElem?_map,HTk.out]; rfl)
      ·have hr2:RowV w' 43 (.slice (some ⟨g2,0,none⟩) LN gcap2) (s.us.map tptr):=hr2
       rw [← hlm2] at hr2
       exact hr2.cell kk _ (by rw [List.getElem?_map,HUk.out]; rfl))
     have HKeq:=hid hK
     have HKn:=hid (And.intro kf (And.intro kt (And.intro kg kr)))
     clear hF hK kf kt kg kr HAt h9
     go_upto_region 21 with fail
     go_cut [166] (fun v wx => v=.bool false∧∃ S' L',Hid (TDb K (s.step S' kk t u L') (s.step S' kk t u L') (6 * (j:Int)+3) false false wx)∧Hid (DInv (s.step S' kk t u L') (1+4 * j+2)))
     case first =>
      as_aux_lemma =>
       simp only [List.append_eq,List.cons_append,List.nil_append]
       --REG21
       refine wp_region_held_drew (S:=fun w' => w'.cell? ⟨g,kk,none⟩=some (.pointer (some ⟨t,0,none⟩))∧w'.cell? ⟨g2,kk,none⟩=some (.pointer (some ⟨u,0,none⟩))∧w'.cell? ⟨pb,0,none⟩=some (.int .i64 x0)∧w'.cell? ⟨pb,1,none⟩=some (.int .i64 x1)∧w'.cell? ⟨pb,2,none⟩=some (.int .i64 x2)∧w'.cell? ⟨pb,3,none⟩=some (.int .i64 x3)∧w'.cell? ⟨pb,4,none⟩=some (.string x4)∧w'.cell? ⟨pb,5,none⟩=some (.bool x5)) (by kernel_rfl) (⟨q1,q2,c0,c1,c2,c3,c4,c5⟩) (fun hHeld => ?_)
       refine wpAnyH_take (i:=0) (oi:=({ dst:=some 100,op:=Op.move (Operand.tmp 5),type:=29,pos:="law.go:487",after:=#[],guard:=none }:Oper)) (v:=?v0a) rfl (by kernel_rfl) (by kernel_rfl) (by kernel_rfl) (fun _ _ _ h => h) (Or.inl ⟨by rfl,?y0a⟩) (by assumption) ?r0a
       case y0a => ((intro w hSw; (try dsimp only at hSw); go_simp) <;> with_reducible rfl)
       try simp only [Act.put,List.setIfInBounds_toArray,List.set_cons_zero,List.set_cons_succ]
       refine wpAnyH_take (i:=1) (oi:=({ dst:=some 101,op:=Op.move (Operand.tmp 4),type:=25,pos:="law.go:487",after:=#[],guard:=none }:Oper)) (v:=?v1a) rfl (by kernel_rfl) (by kernel_rfl) (by kernel_rfl) (fun _ _ _ h => h) (Or.inl ⟨by rfl,?y1a⟩) (by assumption) ?r1a
       case y1a => ((intro w hSw; (try dsimp only at hSw); go_simp) <;> with_reducible rfl)
       try simp only [Act.put,List.setIfInBounds_toArray,List.set_cons_zero,List.set_cons_succ]
       refine wpAnyH_take (i:=2) (oi:=({ dst:=some 102,op:=Op.move (Operand.tmp 9),type:=42,pos:="law.go:487",after:=#[],guard:=none }:Oper)) (v:=?v2a) rfl (by kernel_rfl) (by kernel_rfl) (by kernel_rfl) (fun _ _ _ h => h) (Or.inl ⟨by rfl,?y2a⟩) (by assumption) ?r2a
       case y2a => ((intro w hSw; (try dsimp only at hSw); go_simp) <;> with_reducible rfl)
       try simp only [Act.put,List.setIfInBounds_toArray,List.set_cons_zero,List.set_cons_succ]
       refine wpAnyH_take (i:=3) (oi:=({ dst:=some 103,op:=Op.move (Operand.tmp 13),type:=3,pos:="law.go:487",after:=#[],guard:=none }:Oper)) (v:=?v3a) rfl (by kernel_rfl) (by kernel_rfl) (by kernel_rfl) (fun _ _ _ h => h) (Or.inl ⟨by rfl,?y3a⟩) (by assumption) ?r3a
       case y3a => ((intro w hSw; (try dsimp only at hSw); go_simp) <;> with_reducible rfl)
       try simp only [Act.put,List.setIfInBounds_toArray,List.set_cons_zero,List.set_cons_succ]
       refine wpAnyH_take (i:=4) (oi:=({ dst:=some 104,op:=Op.indexAddr 42 (Operand.tmp 102) (Operand.tmp 103),type:=0,pos:="law.go:487",after:=#[{ on:=2,ground:=Ground.data },{ on:=3,ground:=Ground.data }],guard:=none }:Oper)) (v:=?v4a) rfl (by kernel_rfl) (by kernel_rfl) (by kernel_rfl) (fun _ _ _ h => h) (Or.inl ⟨by rfl,?y4a⟩) (by assumption) ?r4a
       case y4a => ((intro w hSw; (try dsimp only at hSw); go_simp) <;> with_reducible rfl)
       try simp only [Act.put,List.setIfInBounds_toArray,List.set_cons_zero,List.set_cons_succ]
       refine wpAnyH_take (i:=5) (oi:=({ dst:=some 105,op:=Op.load 36 (Operand.tmp 104),type:=36,pos:="law.go:487",after:=#[{ on:=4,ground:=Ground.data }],guard:=none }:Oper)) (v:=?v5a) rfl (by kernel_rfl) (by kernel_rfl) (by kernel_rfl) (fun _ _ _ h => h) (Or.inl ⟨by rfl,?y5a⟩) (by assumption) ?r5a
       case y5a => ((intro w hSw; (try dsimp only at hSw); go_simp) <;> with_reducible rfl)
       try simp only [Act.put,List.setIfInBounds_toArray,List.set_cons_zero,List.set_cons_succ]
       refine wpAnyH_take (i:=6) (oi:=({ dst:=some 106,op:=Op.move (Operand.tmp 10),type:=48,pos:="law.go:487",after:=#[],guard:=none }:Oper)) (v:=?v6a) rfl (by kernel_rfl) (by kernel_rfl) (by kernel_rfl) (fun _ _ _ h => h) (Or.inl ⟨by rfl,?y6a⟩) (by assumption) ?r6a
       case y6a => ((intro w hSw; (try dsimp only at hSw); go_simp) <;> with_reducible rfl)
       try simp only [Act.put,List.setIfInBounds_toArray,List.set_cons_zero,List.set_cons_succ]
       refine wpAnyH_take (i:=7) (oi:=({ dst:=some 107,op:=Op.move (Operand.tmp 13),type:=3,pos:="law.go:487",after:=#[],guard:=none }:Oper)) (v:=?v7a) rfl (by kernel_rfl) (by kernel_rfl) (by kernel_rfl) (fun _ _ _ h => h) (Or.inl ⟨by rfl,?y7a⟩) (by assumption) ?r7a
       case y7a => ((intro w hSw; (try dsimp only at hSw); go_simp) <;> with_reducible rfl)
       try simp only [Act.put,List.setIfInBounds_toArray,List.set_cons_zero,List.set_cons_succ]
       refine wpAnyH_take (i:=8) (oi:=({ dst:=some 108,op:=Op.indexAddr 48 (Operand.tmp 106) (Operand.tmp 107),type:=0,pos:="law.go:487",after:=#[{ on:=6,ground:=Ground.data },{ on:=7,ground:=Ground.data }],guard:=none }:Oper)) (v:=?v8a) rfl (by kernel_rfl) (by kernel_rfl) (by kernel_rfl) (fun _ _ _ h => h) (Or.inl ⟨by rfl,?y8a⟩) (by assumption) ?r8a
       case y8a => ((intro w hSw; (try dsimp only at hSw); go_simp) <;> with_reducible rfl)
       try simp only [Act.put,List.setIfInBounds_toArray,List.set_cons_zero,List.set_cons_succ]
       refine wpAnyH_take (i:=9) (oi:=({ dst:=some 109,op:=Op.load 43 (Operand.tmp 108),type:=43,pos:="law.go:487",after:=#[{ on:=8,ground:=Ground.data }],guard:=none }:Oper)) (v:=?v9a) rfl (by kernel_rfl) (by kernel_rfl) (by kernel_rfl) (fun _ _ _ h => h) (Or.inl ⟨by rfl,?y9a⟩) (by assumption) ?r9a
       case y9a => ((intro w hSw; (try dsimp only at hSw); go_simp) <;> with_reducible rfl)
       try simp only [Act.put,List.setIfInBounds_toArray,List.set_cons_zero,List.set_cons_succ]
       refine wpAnyH_take (i:=10) (oi:=({ dst:=some 110,op:=Op.load 50 (Operand.tmp 12),type:=50,pos:="law.go:487",after:=#[],guard:=none }:Oper)) (v:=?v10a) rfl (by kernel_rfl) (by kernel_rfl) (by kernel_rfl) (fun _ _ _ h => h) (Or.inl ⟨by rfl,?y10a⟩) (by assumption) ?r10a
       case y10a => ((intro w hSw; (try dsimp only at hSw); go_simp) <;> with_reducible rfl)
       try simp only [Act.put,List.setIfInBounds_toArray,List.set_cons_zero,List.set_cons_succ]
       refine wpAnyH_ready (rs:=[11]) (by kernel_rfl) (by simp) ?_
       refine AllReadyH.cons (o:=({ dst:=some 111,op:=Op.call { callee:=Callee.value (Operand.func 11),args:=#[Operand.tmp 100,Operand.tmp 101,Operand.tmp 105,Operand.tmp 109,Operand.tmp 110],argTypes:=#[29,25,36,43,50] },type:=4,pos:="law.go:487",after:=#[{ on:=0,ground:=Ground.data },{ on:=1,ground:=Ground.data },{ on:=5,ground:=Ground.data },{ on:=9,ground:=Ground.data },{ on:=10,ground:=Ground.data }],guard:=none }:Oper)) rfl (fun K hK => ?_) AllReadyH.nil
       go_simp
       refine HFds.out.mono ?_
       rintro e w6 ⟨rfl,S',L',h6,hI6⟩
       have H6:=hid h6
       have HI6:=hid hI6
       have hi6:(s.step S' kk t u L').ts[kk]?=some (t,L'):=get_set HTk.out
       have hu6:(s.step S' kk t u L').us[kk]?=some (u,L'):=get_set HUk.out
       have HCells:=hid (fun w' (t:Turn (fun _ => False) w6 w') => HRowc.out _ _ _ (H6.out.still t))
       have HU:=hid (fun w' (t:Turn (fun _ => False) w6 w') => tdb_used (H6.out.still t) hi6)
       have HRU:=hid (fun w' (t:Turn (fun _ => False) w6 w') => tdb_rused (H6.out.still t) HI6.out hi6 hu6)
       have HH:=hid (fun w' (t:Turn (fun _ => False) w6 w') => tdb_has (H6.out.still t) HI6.out hi6 x2)
       have HRH:=hid (fun w' (t:Turn (fun _ => False) w6 w') => tdb_rhas (H6.out.still t) HI6.out hi6 hu6 x2)
       have HO:=hid (fun w' (t:Turn (fun _ => False) w6 w') => tdb_open (H6.out.still t))
       have HNo:=hid (fun w' (t:Turn (fun _ => False) w6 w') => tdb_nodes (H6.out.still t))
       rw [HKn.out.1] at HH HO
       rw [HKn.out.2.1] at HNo
       obtain ⟨E6,hE6⟩:∃ E6,(s.step S' kk t u L').S.es.length=E6:=⟨_,rfl⟩
       obtain ⟨T6,hT6⟩:∃ T6,(s.step S' kk t u L').S.T.length=T6:=⟨_,rfl⟩
       obtain ⟨U6,hU6⟩:∃ U6,usedL L'=U6:=⟨_,rfl⟩
       obtain ⟨B6,hB6⟩:∃ B6,(slotL L' x2).isSome=B6:=⟨_,rfl⟩
       obtain ⟨eb,nm,y1,y2,y3,y4,y5⟩:=tdb_lens H6.out
       rw [HKn.out.2.2.1] at y1 y2
       rw [HKn.out.2.2.2] at y2 y3
       rw [hE6] at y4 HO
       rw [hT6] at y5 HNo
       rw [hU6] at HU HRU
       rw [hB6] at HH HRH
       have HS2:Hid (∀ w',Turn (fun _ => False) w6 w'→(fun w' => (w'.cell? ⟨g,kk,none⟩=some (.pointer (some ⟨t,0,none⟩))∧w'.cell? ⟨g2,kk,none⟩=some (.pointer (some ⟨u,0,none⟩))∧w'.cell? ⟨pb,0,none⟩=some (.int .i64 x0)∧w'.cell? ⟨pb,1,none⟩=some (.int .i64 x1)∧w'.cell? ⟨pb,2,none⟩=some (.int .i64 x2)∧w'.cell? ⟨pb,3,none⟩=some (.int .i64 x3)∧w'.cell? ⟨pb,4,none⟩=some (.string x4)∧w'.cell? ⟨pb,5,none⟩=some (.bool x5))∧w'.cell? ⟨gb,1,none⟩=some (.map (some eb))∧w'.cell? ⟨gb,0,none⟩=some (.pointer (some ⟨rb,0,none⟩))∧w'.cell? ⟨rb,0,none⟩=some (.map (some nm))∧(Builtin.len_ #[58] 3 #[.map (some eb)]).run Tryz.prog w'=.ok (.int .i64 (E6:Int)) w'∧(Builtin.len_ #[63] 3 #[.map (some nm)]).run Tryz.prog w'=.ok (.int .i64 (T6:Int)) w') w'):=hid (fun w' t => ⟨HCells.out w' t,(t.cell (lt_of_cell y1) id).trans y1,(t.cell (lt_of_cell y2) id).trans y2,(t.cell (lt_of_cell y3) id).trans y3,y4 _ t,y5 _ t⟩)
       have HT:Hid (Turn (fun _ => False) w6 w6):=hid (Turn.refl _ _)
       have e1:=bne_self_eq_false ((U6:Nat):Int)
       have e2:=bne_self_eq_false B6
       have e3:=bne_self_eq_false ((E6:Nat):Int)
       have e4:=bne_self_eq_false ((T6:Nat):Int)
       clear h6 hI6 hi6 hu6 hE6 hT6 hU6 hB6 y1 y2 y3 y4 y5
       go_wp2_with fail
       refine hK.out _ _ ?_ (fun hHeld => ?_)
       ·exact HCells.out _ (Turn.refl _ _)
       clear hK K
       try simp only [Act.put,List.setIfInBounds_toArray,List.set_cons_zero,List.set_cons_succ]
       refine wpAnyH_stronger (S2:=fun w' => (w'.cell? ⟨g,kk,none⟩=some (.pointer (some ⟨t,0,none⟩))∧w'.cell? ⟨g2,kk,none⟩=some (.pointer (some ⟨u,0,none⟩))∧w'.cell? ⟨pb,0,none⟩=some (.int .i64 x0)∧w'.cell? ⟨pb,1,none⟩=some (.int .i64 x1)∧w'.cell? ⟨pb,2,none⟩=some (.int .i64 x2)∧w'.cell? ⟨pb,3,none⟩=some (.int .i64 x3)∧w'.cell? ⟨pb,4,none⟩=some (.string x4)∧w'.cell? ⟨pb,5,none⟩=some (.bool x5))∧w'.cell? ⟨gb,1,none⟩=some (.map (some eb))∧w'.cell? ⟨gb,0,none⟩=some (.pointer (some ⟨rb,0,none⟩))∧w'.cell? ⟨rb,0,none⟩=some (.map (some nm))∧(Builtin.len_ #[58] 3 #[.map (some eb)]).run Tryz.prog w'=.ok (.int .i64 (E6:Int)) w'∧(Builtin.len_ #[63] 3 #[.map (some nm)]).run Tryz.prog w'=.ok (.int .i64 (T6:Int)) w') (fun _ h => h.1) _ _ _ _ ?_
       have hHeld2:=HS2.out _ HT.out
       clear hHeld
       refine wpAnyH_take (i:=12) (oi:=({ dst:=some 112,op:=Op.unOp UnOp.not 4 (Operand.tmp 111),type:=4,pos:="law.go:487",after:=#[{ on:=11,ground:=Ground.data }],guard:=none }:Oper)) (v:=?v12a) rfl (by kernel_rfl) (by kernel_rfl) (by kernel_rfl) (fun _ _ _ h => h) (Or.inl ⟨by rfl,?y12a⟩) (by assumption) ?r12a
       case y12a => ((intro w hSw; (try dsimp only at hSw); go_simp) <;> with_reducible rfl)
       try simp only [Act.put,List.setIfInBounds_toArray,List.set_cons_zero,List.set_cons_succ]
       refine wpAnyH_take (i:=13) (oi:=({ dst:=some 113,op:=Op.move (Operand.tmp 112),type:=4,pos:="law.go:487",after:=#[{ on:=12,ground:=Ground.data },{ on:=11,ground:=Ground.chain }],guard:=none }:Oper)) (v:=?v13a) rfl (by kernel_rfl) (by kernel_rfl) (by kernel_rfl) (fun _ _ _ h => h) (Or.inl ⟨by rfl,?y13a⟩) (by assumption) ?r13a
       case y13a => ((intro w hSw; (try dsimp only at hSw); go_simp) <;> with_reducible rfl)
       try simp only [Act.put,List.setIfInBounds_toArray,List.set_cons_zero,List.set_cons_succ]
       refine wpAnyH_take (i:=14) (oi:=({ dst:=some 114,op:=Op.move (Operand.tmp 9),type:=42,pos:="law.go:487",after:=#[{ on:=13,ground:=Ground.guard }],guard:=some (13,false) }:Oper)) (v:=?v14a) rfl (by kernel_rfl) (by kernel_rfl) (by kernel_rfl) (fun _ _ _ h => h) (Or.inl ⟨by rfl,?y14a⟩) (by assumption) ?r14a
       case y14a => ((intro w hSw; (try dsimp only at hSw); go_simp) <;> with_reducible rfl)
       try simp only [Act.put,List.setIfInBounds_toArray,List.set_cons_zero,List.set_cons_succ]
       refine wpAnyH_take (i:=15) (oi:=({ dst:=some 115,op:=Op.move (Operand.tmp 13),type:=3,pos:="law.go:487",after:=#[{ on:=13,ground:=Ground.guard }],guard:=some (13,false) }:Oper)) (v:=?v15a) rfl (by kernel_rfl) (by kernel_rfl) (by kernel_rfl) (fun _ _ _ h => h) (Or.inl ⟨by rfl,?y15a⟩) (by assumption) ?r15a
       case y15a => ((intro w hSw; (try dsimp only at hSw); go_simp) <;> with_reducible rfl)
       try simp only [Act.put,List.setIfInBounds_toArray,List.set_cons_zero,List.set_cons_succ]
       refine wpAnyH_take (i:=16) (oi:=({ dst:=some 116,op:=Op.indexAddr 42 (Operand.tmp 114) (Operand.tmp 115),type:=0,pos:="law.go:487",after:=#[{ on:=14,ground:=Ground.data },{ on:=15,ground:=Ground.data },{ on:=13,ground:=Ground.guard }],guard:=some (13,false) }:Oper)) (v:=?v16a) rfl (by kernel_rfl) (by kernel_rfl) (by kernel_rfl) (fun _ _ _ h => h) (Or.inl ⟨by rfl,?y16a⟩) (by assumption) ?r16a
       case y16a => ((intro w hSw; (try dsimp only at hSw); go_simp) <;> with_reducible rfl)
       try simp only [Act.put,List.setIfInBounds_toArray,List.set_cons_zero,List.set_cons_succ]
       refine wpAnyH_take (i:=17) (oi:=({ dst:=some 117,op:=Op.load 36 (Operand.tmp 116),type:=36,pos:="law.go:487",after:=#[{ on:=16,ground:=Ground.data },{ on:=13,ground:=Ground.guard }],guard:=some (13,false) }:Oper)) (v:=?v17a) rfl (by kernel_rfl) (by kernel_rfl) (by kernel_rfl) (fun _ _ _ h => h) (Or.inl ⟨by rfl,?y17a⟩) (by assumption) ?r17a
       case y17a => ((intro w hSw; (try dsimp only at hSw); go_simp) <;> with_reducible rfl)
       try simp only [Act.put,List.setIfInBounds_toArray,List.set_cons_zero,List.set_cons_succ]
       refine wpAnyH_take (i:=19) (oi:=({ dst:=some 119,op:=Op.move (Operand.tmp 10),type:=48,pos:="law.go:487",after:=#[{ on:=13,ground:=Ground.guard }],guard:=some (13,false) }:Oper)) (v:=?v19a) rfl (by kernel_rfl) (by kernel_rfl) (by kernel_rfl) (fun _ _ _ h => h) (Or.inl ⟨by rfl,?y19a⟩) (by assumption) ?r19a
       case y19a => ((intro w hSw; (try dsimp only at hSw); go_simp) <;> with_reducible rfl)
       try simp only [Act.put,List.setIfInBounds_toArray,List.set_cons_zero,List.set_cons_succ]
       refine wpAnyH_take (i:=20) (oi:=({ dst:=some 120,op:=Op.move (Operand.tmp 13),type:=3,pos:="law.go:487",after:=#[{ on:=13,ground:=Ground.guard }],guard:=some (13,false) }:Oper)) (v:=?v20a) rfl (by kernel_rfl) (by kernel_rfl) (by kernel_rfl) (fun _ _ _ h => h) (Or.inl ⟨by rfl,?y20a⟩) (by assumption) ?r20a
       case y20a => ((intro w hSw; (try dsimp only at hSw); go_simp) <;> with_reducible rfl)
       try simp only [Act.put,List.setIfInBounds_toArray,List.set_cons_zero,List.set_cons_succ]
       refine wpAnyH_take (i:=21) (oi:=({ dst:=some 121,op:=Op.indexAddr 48 (Operand.tmp 119) (Operand.tmp 120),type:=0,pos:="law.go:487",after:=#[{ on:=19,ground:=Ground.data },{ on:=20,ground:=Ground.data },{ on:=13,ground:=Ground.guard }],guard:=some (13,false) }:Oper)) (v:=?v21a) rfl (by kernel_rfl) (by kernel_rfl) (by kernel_rfl) (fun _ _ _ h => h) (Or.inl ⟨by rfl,?y21a⟩) (by assumption) ?r21a
       case y21a => ((intro w hSw; (try dsimp only at hSw); go_simp) <;> with_reducible rfl)
       try simp only [Act.put,List.setIfInBounds_toArray,List.set_cons_zero,List.set_cons_succ]
       refine wpAnyH_take (i:=22) (oi:=({ dst:=some 122,op:=Op.load 43 (Operand.tmp 121),type:=43,pos:="law.go:487",after:=#[{ on:=21,ground:=Ground.data },{ on:=13,ground:=Ground.guard }],guard:=some (13,false) }:Oper)) (v:=?v22a) rfl (by kernel_rfl) (by kernel_rfl) (by kernel_rfl) (fun _ _ _ h => h) (Or.inl ⟨by rfl,?y22a⟩) (by assumption) ?r22a
       case y22a => ((intro w hSw; (try dsimp only at hSw); go_simp) <;> with_reducible rfl)
       try simp only [Act.put,List.setIfInBounds_toArray,List.set_cons_zero,List.set_cons_succ]
       refine wpAnyH_ready (rs:=[18]) (by kernel_rfl) (by simp) ?_
       refine AllReadyH.cons (o:=({ dst:=some 118,op:=Op.call { callee:=Callee.value (Operand.func 12),args:=#[Operand.tmp 117],argTypes:=#[36] },type:=3,pos:="law.go:487",after:=#[{ on:=17,ground:=Ground.data },{ on:=13,ground:=Ground.chain },{ on:=13,ground:=Ground.guard }],guard:=some (13,false) }:Oper)) rfl (fun K hK => ?_) AllReadyH.nil
       go_simp
       refine (HU.out _ HT.out).mono ?_
       rintro e w7 ⟨rfl,t7⟩
       have HT:=hid (HT.out.trans t7)
       clear t7
       go_wp2_with fail
       refine hK.out _ _ ?_ (fun hHeld => ?_)
       ·exact HS2.out _ HT.out
       clear hK K
       try simp only [Act.put,List.setIfInBounds_toArray,List.set_cons_zero,List.set_cons_succ]
       refine wpAnyH_ready (rs:=[23]) (by kernel_rfl) (by simp) ?_
       refine AllReadyH.cons (o:=({ dst:=some 123,op:=Op.call { callee:=Callee.value (Operand.func 13),args:=#[Operand.tmp 122],argTypes:=#[43] },type:=3,pos:="law.go:487",after:=#[{ on:=22,ground:=Ground.data },{ on:=18,ground:=Ground.chain },{ on:=13,ground:=Ground.guard }],guard:=some (13,false) }:Oper)) rfl (fun K hK => ?_) AllReadyH.nil
       go_simp
       refine (HRU.out _ HT.out).mono ?_
       rintro e w7 ⟨rfl,t7⟩
       have HT:=hid (HT.out.trans t7)
       clear t7
       go_wp2_with fail
       refine hK.out _ _ ?_ (fun hHeld => ?_)
       ·exact HS2.out _ HT.out
       clear hK K
       try simp only [Act.put,List.setIfInBounds_toArray,List.set_cons_zero,List.set_cons_succ]
       refine wpAnyH_take (i:=24) (oi:=({ dst:=some 124,op:=Op.binOp BinOp.neq 3 (Operand.tmp 118) (Operand.tmp 123) 3,type:=4,pos:="law.go:487",after:=#[{ on:=18,ground:=Ground.data },{ on:=23,ground:=Ground.data },{ on:=13,ground:=Ground.guard }],guard:=some (13,false) }:Oper)) (v:=?v24a) rfl (by kernel_rfl) (by kernel_rfl) (by kernel_rfl) (fun _ _ _ h => h) (Or.inl ⟨by rfl,?y24a⟩) (by assumption) ?r24a
       case y24a => ((intro w hSw; (try dsimp only at hSw); go_simp) <;> with_reducible rfl)
       try simp only [Act.put,List.setIfInBounds_toArray,List.set_cons_zero,List.set_cons_succ]
       refine wpAnyH_take (i:=25) (oi:=({ dst:=some 125,op:=Op.pick (Operand.tmp 113) (Operand.const (Value.bool true)) (Operand.tmp 124),type:=4,pos:="law.go:487",after:=#[{ on:=13,ground:=Ground.data },{ on:=24,ground:=Ground.data }],guard:=none }:Oper)) (v:=?v25a) rfl (by kernel_rfl) (by kernel_rfl) (by kernel_rfl) (fun _ _ _ h => h) (Or.inl ⟨by rfl,?y25a⟩) (by assumption) ?r25a
       case y25a => ((intro w hSw; (try dsimp only at hSw); go_simp) <;> with_reducible rfl)
       try simp only [Act.put,List.setIfInBounds_toArray,List.set_cons_zero,List.set_cons_succ]
       refine wpAnyH_take (i:=26) (oi:=({ dst:=some 126,op:=Op.move (Operand.tmp 125),type:=4,pos:="law.go:487",after:=#[{ on:=25,ground:=Ground.data },{ on:=23,ground:=Ground.chain }],guard:=none }:Oper)) (v:=?v26a) rfl (by kernel_rfl) (by kernel_rfl) (by kernel_rfl) (fun _ _ _ h => h) (Or.inl ⟨by rfl,?y26a⟩) (by assumption) ?r26a
       case y26a => ((intro w hSw; (try dsimp only at hSw); go_simp) <;> with_reducible rfl)
       try simp only [Act.put,List.setIfInBounds_toArray,List.set_cons_zero,List.set_cons_succ]
       refine wpAnyH_take (i:=27) (oi:=({ dst:=some 127,op:=Op.move (Operand.tmp 5),type:=29,pos:="law.go:487",after:=#[{ on:=26,ground:=Ground.guard }],guard:=some (26,false) }:Oper)) (v:=?v27a) rfl (by kernel_rfl) (by kernel_rfl) (by kernel_rfl) (fun _ _ _ h => h) (Or.inl ⟨by rfl,?y27a⟩) (by assumption) ?r27a
       case y27a => ((intro w hSw; (try dsimp only at hSw); go_simp) <;> with_reducible rfl)
       try simp only [Act.put,List.setIfInBounds_toArray,List.set_cons_zero,List.set_cons_succ]
       refine wpAnyH_take (i:=28) (oi:=({ dst:=some 128,op:=Op.move (Operand.tmp 9),type:=42,pos:="law.go:487",after:=#[{ on:=26,ground:=Ground.guard }],guard:=some (26,false) }:Oper)) (v:=?v28a) rfl (by kernel_rfl) (by kernel_rfl) (by kernel_rfl) (fun _ _ _ h => h) (Or.inl ⟨by rfl,?y28a⟩) (by assumption) ?r28a
       case y28a => ((intro w hSw; (try dsimp only at hSw); go_simp) <;> with_reducible rfl)
       try simp only [Act.put,List.setIfInBounds_toArray,List.set_cons_zero,List.set_cons_succ]
       refine wpAnyH_take (i:=29) (oi:=({ dst:=some 129,op:=Op.move (Operand.tmp 13),type:=3,pos:="law.go:487",after:=#[{ on:=26,ground:=Ground.guard }],guard:=some (26,false) }:Oper)) (v:=?v29a) rfl (by kernel_rfl) (by kernel_rfl) (by kernel_rfl) (fun _ _ _ h => h) (Or.inl ⟨by rfl,?y29a⟩) (by assumption) ?r29a
       case y29a => ((intro w hSw; (try dsimp only at hSw); go_simp) <;> with_reducible rfl)
       try simp only [Act.put,List.setIfInBounds_toArray,List.set_cons_zero,List.set_cons_succ]
       refine wpAnyH_take (i:=30) (oi:=({ dst:=some 130,op:=Op.indexAddr 42 (Operand.tmp 128) (Operand.tmp 129),type:=0,pos:="law.go:487",after:=#[{ on:=28,ground:=Ground.data },{ on:=29,ground:=Ground.data },{ on:=26,ground:=Ground.guard }],guard:=some (26,false) }:Oper)) (v:=?v30a) rfl (by kernel_rfl) (by kernel_rfl) (by kernel_rfl) (fun _ _ _ h => h) (Or.inl ⟨by rfl,?y30a⟩) (by assumption) ?r30a
       case y30a => ((intro w hSw; (try dsimp only at hSw); go_simp) <;> with_reducible rfl)
       try simp only [Act.put,List.setIfInBounds_toArray,List.set_cons_zero,List.set_cons_succ]
       refine wpAnyH_take (i:=31) (oi:=({ dst:=some 131,op:=Op.load 36 (Operand.tmp 130),type:=36,pos:="law.go:487",after:=#[{ on:=30,ground:=Ground.data },{ on:=26,ground:=Ground.guard }],guard:=some (26,false) }:Oper)) (v:=?v31a) rfl (by kernel_rfl) (by kernel_rfl) (by kernel_rfl) (fun _ _ _ h => h) (Or.inl ⟨by rfl,?y31a⟩) (by assumption) ?r31a
       case y31a => ((intro w hSw; (try dsimp only at hSw); go_simp) <;> with_reducible rfl)
       try simp only [Act.put,List.setIfInBounds_toArray,List.set_cons_zero,List.set_cons_succ]
       refine wpAnyH_take (i:=32) (oi:=({ dst:=some 132,op:=Op.fieldAddr 50 (Operand.tmp 12) 2,type:=0,pos:="law.go:487",after:=#[{ on:=26,ground:=Ground.guard }],guard:=some (26,false) }:Oper)) (v:=?v32a) rfl (by kernel_rfl) (by kernel_rfl) (by kernel_rfl) (fun _ _ _ h => h) (Or.inl ⟨by rfl,?y32a⟩) (by assumption) ?r32a
       case y32a => ((intro w hSw; (try dsimp only at hSw); go_simp) <;> with_reducible rfl)
       try simp only [Act.put,List.setIfInBounds_toArray,List.set_cons_zero,List.set_cons_succ]
       refine wpAnyH_take (i:=33) (oi:=({ dst:=some 133,op:=Op.load 3 (Operand.tmp 132),type:=3,pos:="law.go:487",after:=#[{ on:=32,ground:=Ground.data },{ on:=26,ground:=Ground.guard }],guard:=some (26,false) }:Oper)) (v:=?v33a) rfl (by kernel_rfl) (by kernel_rfl) (by kernel_rfl) (fun _ _ _ h => h) (Or.inl ⟨by rfl,?y33a⟩) (by assumption) ?r33a
       case y33a => ((intro w hSw; (try dsimp only at hSw); go_simp) <;> with_reducible rfl)
       try simp only [Act.put,List.setIfInBounds_toArray,List.set_cons_zero,List.set_cons_succ]
       refine wpAnyH_take (i:=35) (oi:=({ dst:=some 135,op:=Op.move (Operand.tmp 10),type:=48,pos:="law.go:487",after:=#[{ on:=26,ground:=Ground.guard }],guard:=some (26,false) }:Oper)) (v:=?v35a) rfl (by kernel_rfl) (by kernel_rfl) (by kernel_rfl) (fun _ _ _ h => h) (Or.inl ⟨by rfl,?y35a⟩) (by assumption) ?r35a
       case y35a => ((intro w hSw; (try dsimp only at hSw); go_simp) <;> with_reducible rfl)
       try simp only [Act.put,List.setIfInBounds_toArray,List.set_cons_zero,List.set_cons_succ]
       refine wpAnyH_take (i:=36) (oi:=({ dst:=some 136,op:=Op.move (Operand.tmp 13),type:=3,pos:="law.go:487",after:=#[{ on:=26,ground:=Ground.guard }],guard:=some (26,false) }:Oper)) (v:=?v36a) rfl (by kernel_rfl) (by kernel_rfl) (by kernel_rfl) (fun _ _ _ h => h) (Or.inl ⟨by rfl,?y36a⟩) (by assumption) ?r36a
       case y36a => ((intro w hSw; (try dsimp only at hSw); go_simp) <;> with_reducible rfl)
       try simp only [Act.put,List.setIfInBounds_toArray,List.set_cons_zero,List.set_cons_succ]
       refine wpAnyH_take (i:=37) (oi:=({ dst:=some 137,op:=Op.indexAddr 48 (Operand.tmp 135) (Operand.tmp 136),type:=0,pos:="law.go:487",after:=#[{ on:=35,ground:=Ground.data },{ on:=36,ground:=Ground.data },{ on:=26,ground:=Ground.guard }],guard:=some (26,false) }:Oper)) (v:=?v37a) rfl (by kernel_rfl) (by kernel_rfl) (by kernel_rfl) (fun _ _ _ h => h) (Or.inl ⟨by rfl,?y37a⟩) (by assumption) ?r37a
       case y37a => ((intro w hSw; (try dsimp only at hSw); go_simp) <;> with_reducible rfl)
       try simp only [Act.put,List.setIfInBounds_toArray,List.set_cons_zero,List.set_cons_succ]
       refine wpAnyH_take (i:=38) (oi:=({ dst:=some 138,op:=Op.load 43 (Operand.tmp 137),type:=43,pos:="law.go:487",after:=#[{ on:=37,ground:=Ground.data },{ on:=26,ground:=Ground.guard }],guard:=some (26,false) }:Oper)) (v:=?v38a) rfl (by kernel_rfl) (by kernel_rfl) (by kernel_rfl) (fun _ _ _ h => h) (Or.inl ⟨by rfl,?y38a⟩) (by assumption) ?r38a
       case y38a => ((intro w hSw; (try dsimp only at hSw); go_simp) <;> with_reducible rfl)
       try simp only [Act.put,List.setIfInBounds_toArray,List.set_cons_zero,List.set_cons_succ]
       refine wpAnyH_take (i:=39) (oi:=({ dst:=some 139,op:=Op.fieldAddr 50 (Operand.tmp 12) 2,type:=0,pos:="law.go:487",after:=#[{ on:=26,ground:=Ground.guard }],guard:=some (26,false) }:Oper)) (v:=?v39a) rfl (by kernel_rfl) (by kernel_rfl) (by kernel_rfl) (fun _ _ _ h => h) (Or.inl ⟨by rfl,?y39a⟩) (by assumption) ?r39a
       case y39a => ((intro w hSw; (try dsimp only at hSw); go_simp) <;> with_reducible rfl)
       try simp only [Act.put,List.setIfInBounds_toArray,List.set_cons_zero,List.set_cons_succ]
       refine wpAnyH_take (i:=40) (oi:=({ dst:=some 140,op:=Op.load 3 (Operand.tmp 139),type:=3,pos:="law.go:487",after:=#[{ on:=39,ground:=Ground.data },{ on:=26,ground:=Ground.guard }],guard:=some (26,false) }:Oper)) (v:=?v40a) rfl (by kernel_rfl) (by kernel_rfl) (by kernel_rfl) (fun _ _ _ h => h) (Or.inl ⟨by rfl,?y40a⟩) (by assumption) ?r40a
       case y40a => ((intro w hSw; (try dsimp only at hSw); go_simp) <;> with_reducible rfl)
       try simp only [Act.put,List.setIfInBounds_toArray,List.set_cons_zero,List.set_cons_succ]
       refine wpAnyH_ready (rs:=[34]) (by kernel_rfl) (by simp) ?_
       refine AllReadyH.cons (o:=({ dst:=some 134,op:=Op.call { callee:=Callee.value (Operand.func 14),args:=#[Operand.tmp 127,Operand.tmp 131,Operand.tmp 133],argTypes:=#[29,36,3] },type:=4,pos:="law.go:487",after:=#[{ on:=27,ground:=Ground.data },{ on:=31,ground:=Ground.data },{ on:=33,ground:=Ground.data },{ on:=26,ground:=Ground.chain },{ on:=26,ground:=Ground.guard }],guard:=some (26,false) }:Oper)) rfl (fun K hK => ?_) AllReadyH.nil
       go_simp
       refine (HH.out _ HT.out).mono ?_
       rintro e w7 ⟨rfl,t7⟩
       have HT:=hid (HT.out.trans t7)
       clear t7
       go_wp2_with fail
       refine hK.out _ _ ?_ (fun hHeld => ?_)
       ·exact HS2.out _ HT.out
       clear hK K
       try simp only [Act.put,List.setIfInBounds_toArray,List.set_cons_zero,List.set_cons_succ]
       refine wpAnyH_ready (rs:=[41]) (by kernel_rfl) (by simp) ?_
       refine AllReadyH.cons (o:=({ dst:=some 141,op:=Op.call { callee:=Callee.value (Operand.func 15),args:=#[Operand.tmp 138,Operand.tmp 140],argTypes:=#[43,3] },type:=4,pos:="law.go:487",after:=#[{ on:=38,ground:=Ground.data },{ on:=40,ground:=Ground.data },{ on:=34,ground:=Ground.chain },{ on:=26,ground:=Ground.guard }],guard:=some (26,false) }:Oper)) rfl (fun K hK => ?_) AllReadyH.nil
       go_simp
       refine (HRH.out _ HT.out).mono ?_
       rintro e w7 ⟨rfl,t7⟩
       have HT:=hid (HT.out.trans t7)
       clear t7
       go_wp2_with fail
       refine hK.out _ _ ?_ (fun hHeld => ?_)
       ·exact HS2.out _ HT.out
       clear hK K
       try simp only [Act.put,List.setIfInBounds_toArray,List.set_cons_zero,List.set_cons_succ]
       refine wpAnyH_take (i:=42) (oi:=({ dst:=some 142,op:=Op.binOp BinOp.neq 4 (Operand.tmp 134) (Operand.tmp 141) 4,type:=4,pos:="law.go:487",after:=#[{ on:=34,ground:=Ground.data },{ on:=41,ground:=Ground.data },{ on:=26,ground:=Ground.guard }],guard:=some (26,false) }:Oper)) (v:=?v42a) rfl (by kernel_rfl) (by kernel_rfl) (by kernel_rfl) (fun _ _ _ h => h) (Or.inl ⟨by rfl,?y42a⟩) (by assumption) ?r42a
       case y42a => ((intro w hSw; (try dsimp only at hSw); go_simp) <;> with_reducible rfl)
       try simp only [Act.put,List.setIfInBounds_toArray,List.set_cons_zero,List.set_cons_succ]
       refine wpAnyH_take (i:=43) (oi:=({ dst:=some 143,op:=Op.pick (Operand.tmp 126) (Operand.const (Value.bool true)) (Operand.tmp 142),type:=4,pos:="law.go:487",after:=#[{ on:=26,ground:=Ground.data },{ on:=42,ground:=Ground.data }],guard:=none }:Oper)) (v:=?v43a) rfl (by kernel_rfl) (by kernel_rfl) (by kernel_rfl) (fun _ _ _ h => h) (Or.inl ⟨by rfl,?y43a⟩) (by assumption) ?r43a
       case y43a => ((intro w hSw; (try dsimp only at hSw); go_simp) <;> with_reducible rfl)
       try simp only [Act.put,List.setIfInBounds_toArray,List.set_cons_zero,List.set_cons_succ]
       refine wpAnyH_take (i:=44) (oi:=({ dst:=some 144,op:=Op.move (Operand.tmp 143),type:=4,pos:="law.go:487",after:=#[{ on:=43,ground:=Ground.data },{ on:=41,ground:=Ground.chain }],guard:=none }:Oper)) (v:=?v44a) rfl (by kernel_rfl) (by kernel_rfl) (by kernel_rfl) (fun _ _ _ h => h) (Or.inl ⟨by rfl,?y44a⟩) (by assumption) ?r44a
       case y44a => ((intro w hSw; (try dsimp only at hSw); go_simp) <;> with_reducible rfl)
       try simp only [Act.put,List.setIfInBounds_toArray,List.set_cons_zero,List.set_cons_succ]
       refine wpAnyH_take (i:=45) (oi:=({ dst:=some 145,op:=Op.move (Operand.tmp 5),type:=29,pos:="law.go:487",after:=#[{ on:=44,ground:=Ground.guard }],guard:=some (44,false) }:Oper)) (v:=?v45a) rfl (by kernel_rfl) (by kernel_rfl) (by kernel_rfl) (fun _ _ _ h => h) (Or.inl ⟨by rfl,?y45a⟩) (by assumption) ?r45a
       case y45a => ((intro w hSw; (try dsimp only at hSw); go_simp) <;> with_reducible rfl)
       try simp only [Act.put,List.setIfInBounds_toArray,List.set_cons_zero,List.set_cons_succ]
       refine wpAnyH_take (i:=47) (oi:=({ dst:=some 147,op:=Op.move (Operand.tmp 4),type:=25,pos:="law.go:487",after:=#[{ on:=44,ground:=Ground.guard }],guard:=some (44,false) }:Oper)) (v:=?v47a) rfl (by kernel_rfl) (by kernel_rfl) (by kernel_rfl) (fun _ _ _ h => h) (Or.inl ⟨by rfl,?y47a⟩) (by assumption) ?r47a
       case y47a => ((intro w hSw; (try dsimp only at hSw); go_simp) <;> with_reducible rfl)
       try simp only [Act.put,List.setIfInBounds_toArray,List.set_cons_zero,List.set_cons_succ]
       refine wpAnyH_take (i:=48) (oi:=({ dst:=some 148,op:=Op.nilCheck (Operand.tmp 147),type:=0,pos:="law.go:487",after:=#[{ on:=47,ground:=Ground.data },{ on:=44,ground:=Ground.guard }],guard:=some (44,false) }:Oper)) (v:=?v48a) rfl (by kernel_rfl) (by kernel_rfl) (by kernel_rfl) (fun _ _ _ h => h) (Or.inl ⟨by rfl,?y48a⟩) (by assumption) ?r48a
       case y48a => ((intro w hSw; (try dsimp only at hSw); go_simp) <;> with_reducible rfl)
       try simp only [Act.put,List.setIfInBounds_toArray,List.set_cons_zero,List.set_cons_succ]
       refine wpAnyH_take (i:=49) (oi:=({ dst:=some 149,op:=Op.fieldAddr 62 (Operand.tmp 148) 1,type:=0,pos:="law.go:487",after:=#[{ on:=48,ground:=Ground.data },{ on:=44,ground:=Ground.guard }],guard:=some (44,false) }:Oper)) (v:=?v49a) rfl (by kernel_rfl) (by kernel_rfl) (by kernel_rfl) (fun _ _ _ h => h) (Or.inl ⟨by rfl,?y49a⟩) (by assumption) ?r49a
       case y49a => ((intro w hSw; (try dsimp only at hSw); go_simp) <;> with_reducible rfl)
       try simp only [Act.put,List.setIfInBounds_toArray,List.set_cons_zero,List.set_cons_succ]
       refine wpAnyH_take (i:=50) (oi:=({ dst:=some 150,op:=Op.load 58 (Operand.tmp 149),type:=58,pos:="law.go:487",after:=#[{ on:=49,ground:=Ground.data },{ on:=44,ground:=Ground.guard }],guard:=some (44,false) }:Oper)) (v:=?v50a) rfl (by kernel_rfl) (by kernel_rfl) (by kernel_rfl) (fun _ _ _ h => h) (Or.inl ⟨by rfl,?y50a⟩) (by assumption) ?r50a
       case y50a => ((intro w hSw; (try dsimp only at hSw); go_simp) <;> with_reducible rfl)
       try simp only [Act.put,List.setIfInBounds_toArray,List.set_cons_zero,List.set_cons_succ]
       refine wpAnyH_ready (rs:=[46]) (by kernel_rfl) (by simp) ?_
       refine AllReadyH.cons (o:=({ dst:=some 146,op:=Op.call { callee:=Callee.value (Operand.func 16),args:=#[Operand.tmp 145],argTypes:=#[29] },type:=3,pos:="law.go:487",after:=#[{ on:=45,ground:=Ground.data },{ on:=44,ground:=Ground.chain },{ on:=44,ground:=Ground.guard }],guard:=some (44,false) }:Oper)) rfl (fun K hK => ?_) AllReadyH.nil
       go_simp
       refine (HO.out _ HT.out).mono ?_
       rintro e w7 ⟨rfl,t7⟩
       have HT:=hid (HT.out.trans t7)
       clear t7
       go_wp2_with fail
       refine hK.out _ _ ?_ (fun hHeld => ?_)
       ·exact HS2.out _ HT.out
       clear hK K
       try simp only [Act.put,List.setIfInBounds_toArray,List.set_cons_zero,List.set_cons_succ]
       refine wpAnyH_take (i:=51) (oi:=({ dst:=some 151,op:=Op.call { callee:=Callee.builtin Builtin.len,args:=#[Operand.tmp 150],argTypes:=#[58] },type:=3,pos:="law.go:487",after:=#[{ on:=50,ground:=Ground.data },{ on:=46,ground:=Ground.chain },{ on:=44,ground:=Ground.guard }],guard:=some (44,false) }:Oper)) (v:=?v51a) rfl (by kernel_rfl) (by kernel_rfl) (by kernel_rfl) (fun _ _ _ h => h) (Or.inl ⟨by rfl,?y51a⟩) (by assumption) ?r51a
       case y51a => ((intro w hSw; (try dsimp only at hSw); go_simp) <;> with_reducible rfl)
       try simp only [Act.put,List.setIfInBounds_toArray,List.set_cons_zero,List.set_cons_succ]
       refine wpAnyH_take (i:=52) (oi:=({ dst:=some 152,op:=Op.binOp BinOp.neq 3 (Operand.tmp 146) (Operand.tmp 151) 3,type:=4,pos:="law.go:487",after:=#[{ on:=46,ground:=Ground.data },{ on:=51,ground:=Ground.data },{ on:=44,ground:=Ground.guard }],guard:=some (44,false) }:Oper)) (v:=?v52a) rfl (by kernel_rfl) (by kernel_rfl) (by kernel_rfl) (fun _ _ _ h => h) (Or.inl ⟨by rfl,?y52a⟩) (by assumption) ?r52a
       case y52a => ((intro w hSw; (try dsimp only at hSw); go_simp) <;> with_reducible rfl)
       try simp only [Act.put,List.setIfInBounds_toArray,List.set_cons_zero,List.set_cons_succ]
       refine wpAnyH_take (i:=53) (oi:=({ dst:=some 153,op:=Op.pick (Operand.tmp 144) (Operand.const (Value.bool true)) (Operand.tmp 152),type:=4,pos:="law.go:487",after:=#[{ on:=44,ground:=Ground.data },{ on:=52,ground:=Ground.data }],guard:=none }:Oper)) (v:=?v53a) rfl (by kernel_rfl) (by kernel_rfl) (by kernel_rfl) (fun _ _ _ h => h) (Or.inl ⟨by rfl,?y53a⟩) (by assumption) ?r53a
       case y53a => ((intro w hSw; (try dsimp only at hSw); go_simp) <;> with_reducible rfl)
       try simp only [Act.put,List.setIfInBounds_toArray,List.set_cons_zero,List.set_cons_succ]
       refine wpAnyH_take (i:=54) (oi:=({ dst:=some 154,op:=Op.move (Operand.tmp 153),type:=4,pos:="law.go:487",after:=#[{ on:=53,ground:=Ground.data },{ on:=51,ground:=Ground.chain }],guard:=none }:Oper)) (v:=?v54a) rfl (by kernel_rfl) (by kernel_rfl) (by kernel_rfl) (fun _ _ _ h => h) (Or.inl ⟨by rfl,?y54a⟩) (by assumption) ?r54a
       case y54a => ((intro w hSw; (try dsimp only at hSw); go_simp) <;> with_reducible rfl)
       try simp only [Act.put,List.setIfInBounds_toArray,List.set_cons_zero,List.set_cons_succ]
       refine wpAnyH_take (i:=55) (oi:=({ dst:=some 155,op:=Op.move (Operand.tmp 3),type:=23,pos:="law.go:487",after:=#[{ on:=54,ground:=Ground.guard }],guard:=some (54,false) }:Oper)) (v:=?v55a) rfl (by kernel_rfl) (by kernel_rfl) (by kernel_rfl) (fun _ _ _ h => h) (Or.inl ⟨by rfl,?y55a⟩) (by assumption) ?r55a
       case y55a => ((intro w hSw; (try dsimp only at hSw); go_simp) <;> with_reducible rfl)
       try simp only [Act.put,List.setIfInBounds_toArray,List.set_cons_zero,List.set_cons_succ]
       refine wpAnyH_take (i:=57) (oi:=({ dst:=some 157,op:=Op.move (Operand.tmp 4),type:=25,pos:="law.go:487",after:=#[{ on:=54,ground:=Ground.guard }],guard:=some (54,false) }:Oper)) (v:=?v57a) rfl (by kernel_rfl) (by kernel_rfl) (by kernel_rfl) (fun _ _ _ h => h) (Or.inl ⟨by rfl,?y57a⟩) (by assumption) ?r57a
       case y57a => ((intro w hSw; (try dsimp only at hSw); go_simp) <;> with_reducible rfl)
       try simp only [Act.put,List.setIfInBounds_toArray,List.set_cons_zero,List.set_cons_succ]
       refine wpAnyH_take (i:=58) (oi:=({ dst:=some 158,op:=Op.nilCheck (Operand.tmp 157),type:=0,pos:="law.go:487",after:=#[{ on:=57,ground:=Ground.data },{ on:=54,ground:=Ground.guard }],guard:=some (54,false) }:Oper)) (v:=?v58a) rfl (by kernel_rfl) (by kernel_rfl) (by kernel_rfl) (fun _ _ _ h => h) (Or.inl ⟨by rfl,?y58a⟩) (by assumption) ?r58a
       case y58a => ((intro w hSw; (try dsimp only at hSw); go_simp) <;> with_reducible rfl)
       try simp only [Act.put,List.setIfInBounds_toArray,List.set_cons_zero,List.set_cons_succ]
       refine wpAnyH_take (i:=59) (oi:=({ dst:=some 159,op:=Op.fieldAddr 62 (Operand.tmp 158) 0,type:=0,pos:="law.go:487",after:=#[{ on:=58,ground:=Ground.data },{ on:=54,ground:=Ground.guard }],guard:=some (54,false) }:Oper)) (v:=?v59a) rfl (by kernel_rfl) (by kernel_rfl) (by kernel_rfl) (fun _ _ _ h => h) (Or.inl ⟨by rfl,?y59a⟩) (by assumption) ?r59a
       case y59a => ((intro w hSw; (try dsimp only at hSw); go_simp) <;> with_reducible rfl)
       try simp only [Act.put,List.setIfInBounds_toArray,List.set_cons_zero,List.set_cons_succ]
       refine wpAnyH_take (i:=60) (oi:=({ dst:=some 160,op:=Op.load 27 (Operand.tmp 159),type:=27,pos:="law.go:487",after:=#[{ on:=59,ground:=Ground.data },{ on:=54,ground:=Ground.guard }],guard:=some (54,false) }:Oper)) (v:=?v60a) rfl (by kernel_rfl) (by kernel_rfl) (by kernel_rfl) (fun _ _ _ h => h) (Or.inl ⟨by rfl,?y60a⟩) (by assumption) ?r60a
       case y60a => ((intro w hSw; (try dsimp only at hSw); go_simp) <;> with_reducible rfl)
       try simp only [Act.put,List.setIfInBounds_toArray,List.set_cons_zero,List.set_cons_succ]
       refine wpAnyH_take (i:=61) (oi:=({ dst:=some 161,op:=Op.nilCheck (Operand.tmp 160),type:=0,pos:="law.go:487",after:=#[{ on:=60,ground:=Ground.data },{ on:=54,ground:=Ground.guard }],guard:=some (54,false) }:Oper)) (v:=?v61a) rfl (by kernel_rfl) (by kernel_rfl) (by kernel_rfl) (fun _ _ _ h => h) (Or.inl ⟨by rfl,?y61a⟩) (by assumption) ?r61a
       case y61a => ((intro w hSw; (try dsimp only at hSw); go_simp) <;> with_reducible rfl)
       try simp only [Act.put,List.setIfInBounds_toArray,List.set_cons_zero,List.set_cons_succ]
       refine wpAnyH_take (i:=62) (oi:=({ dst:=some 162,op:=Op.fieldAddr 65 (Operand.tmp 161) 0,type:=0,pos:="law.go:487",after:=#[{ on:=61,ground:=Ground.data },{ on:=54,ground:=Ground.guard }],guard:=some (54,false) }:Oper)) (v:=?v62a) rfl (by kernel_rfl) (by kernel_rfl) (by kernel_rfl) (fun _ _ _ h => h) (Or.inl ⟨by rfl,?y62a⟩) (by assumption) ?r62a
       case y62a => ((intro w hSw; (try dsimp only at hSw); go_simp) <;> with_reducible rfl)
       try simp only [Act.put,List.setIfInBounds_toArray,List.set_cons_zero,List.set_cons_succ]
       refine wpAnyH_take (i:=63) (oi:=({ dst:=some 163,op:=Op.load 63 (Operand.tmp 162),type:=63,pos:="law.go:487",after:=#[{ on:=62,ground:=Ground.data },{ on:=54,ground:=Ground.guard }],guard:=some (54,false) }:Oper)) (v:=?v63a) rfl (by kernel_rfl) (by kernel_rfl) (by kernel_rfl) (fun _ _ _ h => h) (Or.inl ⟨by rfl,?y63a⟩) (by assumption) ?r63a
       case y63a => ((intro w hSw; (try dsimp only at hSw); go_simp) <;> with_reducible rfl)
       try simp only [Act.put,List.setIfInBounds_toArray,List.set_cons_zero,List.set_cons_succ]
       refine wpAnyH_ready (rs:=[56]) (by kernel_rfl) (by simp) ?_
       refine AllReadyH.cons (o:=({ dst:=some 156,op:=Op.call { callee:=Callee.value (Operand.func 17),args:=#[Operand.tmp 155],argTypes:=#[23] },type:=3,pos:="law.go:487",after:=#[{ on:=55,ground:=Ground.data },{ on:=54,ground:=Ground.chain },{ on:=54,ground:=Ground.guard }],guard:=some (54,false) }:Oper)) rfl (fun K hK => ?_) AllReadyH.nil
       go_simp
       refine (HNo.out _ HT.out).mono ?_
       rintro e w7 ⟨rfl,t7⟩
       have HT:=hid (HT.out.trans t7)
       clear t7
       go_wp2_with fail
       refine hK.out _ _ ?_ (fun hHeld => ?_)
       ·exact HS2.out _ HT.out
       clear hK K
       try simp only [Act.put,List.setIfInBounds_toArray,List.set_cons_zero,List.set_cons_succ]
       refine wpAnyH_take (i:=64) (oi:=({ dst:=some 164,op:=Op.call { callee:=Callee.builtin Builtin.len,args:=#[Operand.tmp 163],argTypes:=#[63] },type:=3,pos:="law.go:487",after:=#[{ on:=63,ground:=Ground.data },{ on:=56,ground:=Ground.chain },{ on:=54,ground:=Ground.guard }],guard:=some (54,false) }:Oper)) (v:=?v64a) rfl (by kernel_rfl) (by kernel_rfl) (by kernel_rfl) (fun _ _ _ h => h) (Or.inl ⟨by rfl,?y64a⟩) (by assumption) ?r64a
       case y64a => ((intro w hSw; (try dsimp only at hSw); go_simp) <;> with_reducible rfl)
       try simp only [Act.put,List.setIfInBounds_toArray,List.set_cons_zero,List.set_cons_succ]
       refine wpAnyH_take (i:=65) (oi:=({ dst:=some 165,op:=Op.binOp BinOp.neq 3 (Operand.tmp 156) (Operand.tmp 164) 3,type:=4,pos:="law.go:487",after:=#[{ on:=56,ground:=Ground.data },{ on:=64,ground:=Ground.data },{ on:=54,ground:=Ground.guard }],guard:=some (54,false) }:Oper)) (v:=?v65a) rfl (by kernel_rfl) (by kernel_rfl) (by kernel_rfl) (fun _ _ _ h => h) (Or.inl ⟨by rfl,?y65a⟩) (by assumption) ?r65a
       case y65a => ((intro w hSw; (try dsimp only at hSw); go_simp) <;> with_reducible rfl)
       try simp only [Act.put,List.setIfInBounds_toArray,List.set_cons_zero,List.set_cons_succ]
       refine wpAnyH_take (i:=66) (oi:=({ dst:=some 166,op:=Op.pick (Operand.tmp 154) (Operand.const (Value.bool true)) (Operand.tmp 165),type:=4,pos:="law.go:487",after:=#[{ on:=54,ground:=Ground.data },{ on:=65,ground:=Ground.data }],guard:=none }:Oper)) (v:=?v66a) rfl (by kernel_rfl) (by kernel_rfl) (by kernel_rfl) (fun _ _ _ h => h) (Or.inl ⟨by rfl,?y66a⟩) (by assumption) ?r66a
       case y66a => ((intro w hSw; (try dsimp only at hSw); go_simp) <;> with_reducible rfl)
       try simp only [Act.put,List.setIfInBounds_toArray,List.set_cons_zero,List.set_cons_succ]
       refine wpAnyH_done (by kernel_rfl) ?_ _
       go_wp2_with fail
       go_meet
       exact ⟨rfl,S',L',hid (H6.out.still HT.out),HI6⟩
       --END21
     case rest =>
      obtain ⟨rfl,S',L',h6,hI6⟩:=hcut
      clear q1 q2 c0 c1 c2 c3 c4 c5
      have hi6:(s.step S' kk t u L').ts[kk]?=some (t,L'):=get_set HTk.out
      have hu6:(s.step S' kk t u L').us[kk]?=some (u,L'):=get_set HUk.out
      have HFin:Hid (∀ (s2:DS) (w':World),s2.ts=(s.step S' kk t u L').ts→s2.us=(s.step S' kk t u L').us→TDb K s2 s2 (6 * (j:Int)+6) false false w'→DInv s2 (1+4 * j+4)→LawD W fb tb gb rb (.slice (some ⟨g,0,none⟩) LN gcap) (.slice (some ⟨g2,0,none⟩) LN gcap2) s2 (6 * ((j+1:Nat):Int)) (1+4 * (j+1)) w'∧1≤s2.ts.length):=hid (fun s2 w' e1 e2 h7 h8 => by
       have h9:=h7.law h8 (by rw [← HKeq.out,e1]; exact (map_set_tptr HTk.out L').symm) (by rw [← HKeq.out,e2]; exact (map_set_tptr HUk.out L').symm)
       rw [← HKeq.out] at h9
       refine ⟨h9.mono (by omega) (by omega),?_⟩
       rw [e1]
       show 1≤(s.ts.set kk _).length
       rw [List.length_set,HLN.out.1]; exact hl1)
      obtain ⟨s6,hs6⟩:∃ s6,s.step S' kk t u L'=s6:=⟨_,rfl⟩
      rw [hs6] at h6 hI6 hi6 hu6 HFin
      have HI6:=hI6
      have hA:=ask_unlink (K:=K) (nx:=6 * (j:Int)+3) hI6.out h6.out.tok (by omega) (by omega) hi6 hu6 (by rw [← HKeq.out]; exact HL.out) x4 (by omega)
      obtain ⟨a1,a2,a3⟩:=hA
      rw [HKn.out.2.1] at a1
      rw [HKn.out.2.2.2] at a2
      have A1:=hid a1
      have A2:=hid a2
      have A3:=hid a3
      have HPl:Hid (∀ (s1 s2:DS) (nx:Int) (a:Bool) (w':World),TDb K s1 s2 nx a false w'→w'.cell? ⟨gb,0,none⟩=some (.pointer (some ⟨rb,0,none⟩))∧w'.cell? ⟨pb,0,none⟩=some (.int .i64 x0)∧w'.cell? ⟨pb,4,none⟩=some (.string x4)):=hid (fun s1 s2 nx a w' h => by
       obtain ⟨eb,nm,y1,y2,y3,y4,y5⟩:=tdb_lens h
       have h5:=h.at_ (p:=pb) (by rw [← HKeq.out]; exact List.mem_cons_self)
       rw [HKn.out.2.2.1,HKn.out.2.2.2] at y2
       rw [← HKeq.out] at h5
       obtain ⟨d0,d1,d2,d3,d4,d5⟩:=h5
       exact ⟨y2,d0,d4⟩)
      have H6:=h6
      obtain ⟨p1,p2,p3⟩:=HPl.out _ _ _ _ _ (h6.out.still (Turn.refl _ _).drew)
      obtain ⟨zu,hzu⟩:∃ zu,unlinkE s6.S.T x4=zu:=⟨_,rfl⟩
      rw [hzu] at A1 A2
      have HBr:=hid (fun w' (t:Turn (fun _ => False) W w') => bareT zu w' (HL.out.turned0 t))
      clear h6 hI6 hi6 hu6 hs6 a1 a2 a3 hzu HFds HRowc HTD
      go_upto_region 23 with fail
      by_cases h12:x0=12
      ·subst h12
       --REG23
       refine wp_region_held_drew (S:=fun w' => w'.cell? ⟨gb,0,none⟩=some (.pointer (some ⟨rb,0,none⟩))∧w'.cell? ⟨pb,0,none⟩=some (.int .i64 12)∧w'.cell? ⟨pb,4,none⟩=some (.string x4)) (by kernel_rfl) (⟨p1,p2,p3⟩) (fun hHeld => ?_)
       have HD6:=hid (H6.out.still (Turn.refl (fun _ => False) _).drew)
       refine wpAnyH_take (i:=0) (oi:=({ dst:=some 167,op:=Op.fieldAddr 50 (Operand.tmp 12) 0,type:=0,pos:="law.go:490",after:=#[],guard:=none }:Oper)) (v:=?v0b) rfl (by kernel_rfl) (by kernel_rfl) (by kernel_rfl) (fun _ _ _ h => h) (Or.inl ⟨by rfl,?y0b⟩) (by assumption) ?r0b
       case y0b => ((intro w hSw; (try dsimp only at hSw); go_simp) <;> with_reducible rfl)
       try simp only [Act.put,List.setIfInBounds_toArray,List.set_cons_zero,List.set_cons_succ]
       refine wpAnyH_take (i:=1) (oi:=({ dst:=some 168,op:=Op.load 3 (Operand.tmp 167),type:=3,pos:="law.go:490",after:=#[{ on:=0,ground:=Ground.data }],guard:=none }:Oper)) (v:=?v1b) rfl (by kernel_rfl) (by kernel_rfl) (by kernel_rfl) (fun _ _ _ h => h) (Or.inl ⟨by rfl,?y1b⟩) (by assumption) ?r1b
       case y1b => ((intro w hSw; (try dsimp only at hSw); go_simp) <;> with_reducible rfl)
       try simp only [Act.put,List.setIfInBounds_toArray,List.set_cons_zero,List.set_cons_succ]
       refine wpAnyH_take (i:=2) (oi:=({ dst:=some 169,op:=Op.binOp BinOp.eql 3 (Operand.tmp 168) (Operand.const (Value.int IntKind.i64 12)) 3,type:=4,pos:="law.go:490",after:=#[{ on:=1,ground:=Ground.data }],guard:=none }:Oper)) (v:=?v2b) rfl (by kernel_rfl) (by kernel_rfl) (by kernel_rfl) (fun _ _ _ h => h) (Or.inl ⟨by rfl,?y2b⟩) (by assumption) ?r2b
       case y2b => ((intro w hSw; (try dsimp only at hSw); go_simp) <;> with_reducible rfl)
       try simp only [Act.put,List.setIfInBounds_toArray,List.set_cons_zero,List.set_cons_succ]
       refine wpAnyH_take (i:=3) (oi:=({ dst:=some 170,op:=Op.move (Operand.tmp 169),type:=4,pos:="law.go:490",after:=#[{ on:=2,ground:=Ground.data }],guard:=none }:Oper)) (v:=?v3b) rfl (by kernel_rfl) (by kernel_rfl) (by kernel_rfl) (fun _ _ _ h => h) (Or.inl ⟨by rfl,?y3b⟩) (by assumption) ?r3b
       case y3b => ((intro w hSw; (try dsimp only at hSw); go_simp) <;> with_reducible rfl)
       try simp only [Act.put,List.setIfInBounds_toArray,List.set_cons_zero,List.set_cons_succ]
       refine wpAnyH_take (i:=4) (oi:=({ dst:=some 171,op:=Op.move (Operand.tmp 3),type:=23,pos:="law.go:490",after:=#[{ on:=3,ground:=Ground.guard }],guard:=some (3,true) }:Oper)) (v:=?v4b) rfl (by kernel_rfl) (by kernel_rfl) (by kernel_rfl) (fun _ _ _ h => h) (Or.inl ⟨by rfl,?y4b⟩) (by assumption) ?r4b
       case y4b => ((intro w hSw; (try dsimp only at hSw); go_simp) <;> with_reducible rfl)
       try simp only [Act.put,List.setIfInBounds_toArray,List.set_cons_zero,List.set_cons_succ]
       refine wpAnyH_take (i:=5) (oi:=({ dst:=some 172,op:=Op.fieldAddr 50 (Operand.tmp 12) 4,type:=0,pos:="law.go:490",after:=#[{ on:=3,ground:=Ground.guard }],guard:=some (3,true) }:Oper)) (v:=?v5b) rfl (by kernel_rfl) (by kernel_rfl) (by kernel_rfl) (fun _ _ _ h => h) (Or.inl ⟨by rfl,?y5b⟩) (by assumption) ?r5b
       case y5b => ((intro w hSw; (try dsimp only at hSw); go_simp) <;> with_reducible rfl)
       try simp only [Act.put,List.setIfInBounds_toArray,List.set_cons_zero,List.set_cons_succ]
       refine wpAnyH_take (i:=6) (oi:=({ dst:=some 173,op:=Op.load 9 (Operand.tmp 172),type:=9,pos:="law.go:490",after:=#[{ on:=5,ground:=Ground.data },{ on:=3,ground:=Ground.guard }],guard:=some (3,true) }:Oper)) (v:=?v6b) rfl (by kernel_rfl) (by kernel_rfl) (by kernel_rfl) (fun _ _ _ h => h) (Or.inl ⟨by rfl,?y6b⟩) (by assumption) ?r6b
       case y6b => ((intro w hSw; (try dsimp only at hSw); go_simp) <;> with_reducible rfl)
       try simp only [Act.put,List.setIfInBounds_toArray,List.set_cons_zero,List.set_cons_succ]
       refine wpAnyH_take (i:=8) (oi:=({ dst:=some 175,op:=Op.move (Operand.tmp 4),type:=25,pos:="law.go:490",after:=#[{ on:=3,ground:=Ground.guard }],guard:=some (3,true) }:Oper)) (v:=?v8b) rfl (by kernel_rfl) (by kernel_rfl) (by kernel_rfl) (fun _ _ _ h => h) (Or.inl ⟨by rfl,?y8b⟩) (by assumption) ?r8b
       case y8b => ((intro w hSw; (try dsimp only at hSw); go_simp) <;> with_reducible rfl)
       try simp only [Act.put,List.setIfInBounds_toArray,List.set_cons_zero,List.set_cons_succ]
       refine wpAnyH_take (i:=9) (oi:=({ dst:=some 176,op:=Op.nilCheck (Operand.tmp 175),type:=0,pos:="law.go:490",after:=#[{ on:=8,ground:=Ground.data },{ on:=3,ground:=Ground.guard }],guard:=some (3,true) }:Oper)) (v:=?v9b) rfl (by kernel_rfl) (by kernel_rfl) (by kernel_rfl) (fun _ _ _ h => h) (Or.inl ⟨by rfl,?y9b⟩) (by assumption) ?r9b
       case y9b => ((intro w hSw; (try dsimp only at hSw); go_simp) <;> with_reducible rfl)
       try simp only [Act.put,List.setIfInBounds_toArray,List.set_cons_zero,List.set_cons_succ]
       refine wpAnyH_take (i:=10) (oi:=({ dst:=some 177,op:=Op.fieldAddr 62 (Operand.tmp 176) 0,type:=0,pos:="law.go:490",after:=#[{ on:=9,ground:=Ground.data },{ on:=3,ground:=Ground.guard }],guard:=some (3,true) }:Oper)) (v:=?v10b) rfl (by kernel_rfl) (by kernel_rfl) (by kernel_rfl) (fun _ _ _ h => h) (Or.inl ⟨by rfl,?y10b⟩) (by assumption) ?r10b
       case y10b => ((intro w hSw; (try dsimp only at hSw); go_simp) <;> with_reducible rfl)
       try simp only [Act.put,List.setIfInBounds_toArray,List.set_cons_zero,List.set_cons_succ]
       refine wpAnyH_take (i:=11) (oi:=({ dst:=some 178,op:=Op.load 27 (Operand.tmp 177),type:=27,pos:="law.go:490",after:=#[{ on:=10,ground:=Ground.data },{ on:=3,ground:=Ground.guard }],guard:=some (3,true) }:Oper)) (v:=?v11b) rfl (by kernel_rfl) (by kernel_rfl) (by kernel_rfl) (fun _ _ _ h => h) (Or.inl ⟨by rfl,?y11b⟩) (by assumption) ?r11b
       case y11b => ((intro w hSw; (try dsimp only at hSw); go_simp) <;> with_reducible rfl)
       try simp only [Act.put,List.setIfInBounds_toArray,List.set_cons_zero,List.set_cons_succ]
       refine wpAnyH_take (i:=12) (oi:=({ dst:=some 179,op:=Op.fieldAddr 50 (Operand.tmp 12) 4,type:=0,pos:="law.go:490",after:=#[{ on:=3,ground:=Ground.guard }],guard:=some (3,true) }:Oper)) (v:=?v12b) rfl (by kernel_rfl) (by kernel_rfl) (by kernel_rfl) (fun _ _ _ h => h) (Or.inl ⟨by rfl,?y12b⟩) (by assumption) ?r12b
       case y12b => ((intro w hSw; (try dsimp only at hSw); go_simp) <;> with_reducible rfl)
       try simp only [Act.put,List.setIfInBounds_toArray,List.set_cons_zero,List.set_cons_succ]
       refine wpAnyH_take (i:=13) (oi:=({ dst:=some 180,op:=Op.load 9 (Operand.tmp 179),type:=9,pos:="law.go:490",after:=#[{ on:=12,ground:=Ground.data },{ on:=3,ground:=Ground.guard }],guard:=some (3,true) }:Oper)) (v:=?v13b) rfl (by kernel_rfl) (by kernel_rfl) (by kernel_rfl) (fun _ _ _ h => h) (Or.inl ⟨by rfl,?y13b⟩) (by assumption) ?r13b
       case y13b => ((intro w hSw; (try dsimp only at hSw); go_simp) <;> with_reducible rfl)
       try simp only [Act.put,List.setIfInBounds_toArray,List.set_cons_zero,List.set_cons_succ]
       refine wpAnyH_ready (rs:=[7]) (by kernel_rfl) (by simp) ?_
       refine AllReadyH.cons (o:=({ dst:=some 174,op:=Op.call { callee:=Callee.value (Operand.func 18),args:=#[Operand.tmp 171,Operand.tmp 173],argTypes:=#[23,9] },type:=31,pos:="law.go:490",after:=#[{ on:=4,ground:=Ground.data },{ on:=6,ground:=Ground.data },{ on:=3,ground:=Ground.chain },{ on:=3,ground:=Ground.guard }],guard:=some (3,true) }:Oper)) rfl (fun K hK => ?_) AllReadyH.nil
       go_simp
       refine (A1.out _ _ (HD6.out.none _)).mono ?_
       rintro e w7 ⟨rfl,h7⟩
       have H7:=hid h7
       clear h7
       go_wp2_with fail
       refine hK.out _ _ ?_ (fun hHeld => ?_)
       ·exact HPl.out _ _ _ _ _ H7.out
       clear hK K
       try simp only [Act.put,List.setIfInBounds_toArray,List.set_cons_zero,List.set_cons_succ]
       refine wpAnyH_ready (rs:=[14]) (by kernel_rfl) (by simp) ?_
       refine AllReadyH.cons (o:=({ dst:=some 181,op:=Op.call { callee:=Callee.value (Operand.func 19),args:=#[Operand.tmp 178,Operand.tmp 180],argTypes:=#[27,9] },type:=35,pos:="law.go:490",after:=#[{ on:=11,ground:=Ground.data },{ on:=13,ground:=Ground.data },{ on:=7,ground:=Ground.chain },{ on:=3,ground:=Ground.guard }],guard:=some (3,true) }:Oper)) rfl (fun K hK => ?_) AllReadyH.nil
       go_simp
       refine (A2.out _ _ H7.out).mono ?_
       rintro e w8 ⟨rfl,h8⟩
       have H8:=hid h8.both
       clear h8
       have HB8:=hid (HBr.out _ (by have h:=H8.out.turn; rw [← HKeq.out] at h; exact h))
       go_wp2_with fail
       refine hK.out _ _ ?_ (fun hHeld => ?_)
       ·exact HPl.out _ _ _ _ _ H8.out
       clear hK K
       try simp only [Act.put,List.setIfInBounds_toArray,List.set_cons_zero,List.set_cons_succ]
       refine wpAnyH_ready (rs:=[15]) (by kernel_rfl) (by simp) ?_
       refine AllReadyH.cons (o:=({ dst:=some 182,op:=Op.call { callee:=Callee.value (Operand.func 8),args:=#[Operand.tmp 174,Operand.tmp 181],argTypes:=#[31,35] },type:=4,pos:="law.go:490",after:=#[{ on:=7,ground:=Ground.data },{ on:=14,ground:=Ground.data },{ on:=14,ground:=Ground.chain },{ on:=3,ground:=Ground.guard }],guard:=some (3,true) }:Oper)) rfl (fun K hK => ?_) AllReadyH.nil
       go_simp
       refine HB8.out.mono ?_
       rintro e w9 ⟨rfl,t9⟩
       have H9:=hid (H8.out.still t9)
       clear t9
       go_wp2_with fail
       refine hK.out _ _ ?_ (fun hHeld => ?_)
       ·exact HPl.out _ _ _ _ _ H9.out
       clear hK K
       try simp only [Act.put,List.setIfInBounds_toArray,List.set_cons_zero,List.set_cons_succ]
       refine wpAnyH_take (i:=16) (oi:=({ dst:=some 183,op:=Op.unOp UnOp.not 4 (Operand.tmp 182),type:=4,pos:="law.go:490",after:=#[{ on:=15,ground:=Ground.data },{ on:=3,ground:=Ground.guard }],guard:=some (3,true) }:Oper)) (v:=?v16b) rfl (by kernel_rfl) (by kernel_rfl) (by kernel_rfl) (fun _ _ _ h => h) (Or.inl ⟨by rfl,?y16b⟩) (by assumption) ?r16b
       case y16b => ((intro w hSw; (try dsimp only at hSw); go_simp) <;> with_reducible rfl)
       try simp only [Act.put,List.setIfInBounds_toArray,List.set_cons_zero,List.set_cons_succ]
       refine wpAnyH_take (i:=17) (oi:=({ dst:=some 184,op:=Op.pick (Operand.tmp 170) (Operand.tmp 183) (Operand.const (Value.bool false)),type:=4,pos:="law.go:490",after:=#[{ on:=3,ground:=Ground.data },{ on:=16,ground:=Ground.data }],guard:=none }:Oper)) (v:=?v17b) rfl (by kernel_rfl) (by kernel_rfl) (by kernel_rfl) (fun _ _ _ h => h) (Or.inl ⟨by rfl,?y17b⟩) (by assumption) ?r17b
       case y17b => ((intro w hSw; (try dsimp only at hSw); go_simp) <;> with_reducible rfl)
       try simp only [Act.put,List.setIfInBounds_toArray,List.set_cons_zero,List.set_cons_succ]
       refine wpAnyH_done (by kernel_rfl) ?_ _
       go_wp2_with fail
       go_roundg (gk - 1)
       case measure => omega
       case rel =>
        obtain ⟨f1,f2⟩:=HFin.out (unlinkS s6 x4) _ rfl rfl (H9.out.mono (by omega)) A3.out
        exact ⟨j+1,_,by omega,by go_num,hid f1,hid f2⟩
       --END23
      ·have h12b:(x0 == 12)=false:=by simpa using h12
       --REGNO
       refine wp_region_held_drew (S:=fun w' => w'.cell? ⟨gb,0,none⟩=some (.pointer (some ⟨rb,0,none⟩))∧w'.cell? ⟨pb,0,none⟩=some (.int .i64 x0)∧w'.cell? ⟨pb,4,none⟩=some (.string x4)) (by kernel_rfl) (⟨p1,p2,p3⟩) (fun hHeld => ?_)
       refine wpAnyH_take (i:=0) (oi:=({ dst:=some 167,op:=Op.fieldAddr 50 (Operand.tmp 12) 0,type:=0,pos:="law.go:490",after:=#[],guard:=none }:Oper)) (v:=?v0n) rfl (by kernel_rfl) (by kernel_rfl) (by kernel_rfl) (fun _ _ _ h => h) (Or.inl ⟨by rfl,?y0n⟩) (by assumption) ?r0n
       case y0n => ((intro w hSw; (try dsimp only at hSw); go_simp) <;> with_reducible rfl)
       try simp only [Act.put,List.setIfInBounds_toArray,List.set_cons_zero,List.set_cons_succ]
       refine wpAnyH_take (i:=1) (oi:=({ dst:=some 168,op:=Op.load 3 (Operand.tmp 167),type:=3,pos:="law.go:490",after:=#[{ on:=0,ground:=Ground.data }],guard:=none }:Oper)) (v:=?v1n) rfl (by kernel_rfl) (by kernel_rfl) (by kernel_rfl) (fun _ _ _ h => h) (Or.inl ⟨by rfl,?y1n⟩) (by assumption) ?r1n
       case y1n => ((intro w hSw; (try dsimp only at hSw); go_simp) <;> with_reducible rfl)
       try simp only [Act.put,List.setIfInBounds_toArray,List.set_cons_zero,List.set_cons_succ]
       refine wpAnyH_take (i:=2) (oi:=({ dst:=some 169,op:=Op.binOp BinOp.eql 3 (Operand.tmp 168) (Operand.const (Value.int IntKind.i64 12)) 3,type:=4,pos:="law.go:490",after:=#[{ on:=1,ground:=Ground.data }],guard:=none }:Oper)) (v:=?v2n) rfl (by kernel_rfl) (by kernel_rfl) (by kernel_rfl) (fun _ _ _ h => h) (Or.inl ⟨by rfl,?y2n⟩) (by assumption) ?r2n
       case y2n => ((intro w hSw; (try dsimp only at hSw); go_simp) <;> with_reducible rfl)
       try simp only [Act.put,List.setIfInBounds_toArray,List.set_cons_zero,List.set_cons_succ]
       refine wpAnyH_take (i:=3) (oi:=({ dst:=some 170,op:=Op.move (Operand.tmp 169),type:=4,pos:="law.go:490",after:=#[{ on:=2,ground:=Ground.data }],guard:=none }:Oper)) (v:=?v3n) rfl (by kernel_rfl) (by kernel_rfl) (by kernel_rfl) (fun _ _ _ h => h) (Or.inl ⟨by rfl,?y3n⟩) (by assumption) ?r3n
       case y3n => ((intro w hSw; (try dsimp only at hSw); go_simp) <;> with_reducible rfl)
       try simp only [Act.put,List.setIfInBounds_toArray,List.set_cons_zero,List.set_cons_succ]
       refine wpAnyH_take (i:=4) (oi:=({ dst:=some 171,op:=Op.move (Operand.tmp 3),type:=23,pos:="law.go:490",after:=#[{ on:=3,ground:=Ground.guard }],guard:=some (3,true) }:Oper)) (v:=undef) rfl (by kernel_rfl) (by kernel_rfl) (by kernel_rfl) (fun _ _ _ h => h) (Or.inr ⟨by rfl,rfl⟩) (by assumption) ?_
       try simp only [Act.put,List.setIfInBounds_toArray,List.set_cons_zero,List.set_cons_succ]
       refine wpAnyH_take (i:=5) (oi:=({ dst:=some 172,op:=Op.fieldAddr 50 (Operand.tmp 12) 4,type:=0,pos:="law.go:490",after:=#[{ on:=3,ground:=Ground.guard }],guard:=some (3,true) }:Oper)) (v:=undef) rfl (by kernel_rfl) (by kernel_rfl) (by kernel_rfl) (fun _ _ _ h => h) (Or.inr ⟨by rfl,rfl⟩) (by assumption) ?_
       try simp only [Act.put,List.setIfInBounds_toArray,List.set_cons_zero,List.set_cons_succ]
       refine wpAnyH_take (i:=6) (oi:=({ dst:=some 173,op:=Op.load 9 (Operand.tmp 172),type:=9,pos:="law.go:490",after:=#[{ on:=5,ground:=Ground.data },{ on:=3,ground:=Ground.guard }],guard:=some (3,true) }:Oper)) (v:=undef) rfl (by kernel_rfl) (by kernel_rfl) (by kernel_rfl) (fun _ _ _ h => h) (Or.inr ⟨by rfl,rfl⟩) (by assumption) ?_
       try simp only [Act.put,List.setIfInBounds_toArray,List.set_cons_zero,List.set_cons_succ]
       refine wpAnyH_take (i:=7) (oi:=({ dst:=some 174,op:=Op.call { callee:=Callee.value (Operand.func 18),args:=#[Operand.tmp 171,Operand.tmp 173],argTypes:=#[23,9] },type:=31,pos:="law.go:490",after:=#[{ on:=4,ground:=Ground.data },{ on:=6,ground:=Ground.data },{ on:=3,ground:=Ground.chain },{ on:=3,ground:=Ground.guard }],guard:=some (3,true) }:Oper)) (v:=undef) rfl (by kernel_rfl) (by kernel_rfl) (by kernel_rfl) (fun _ _ _ h => h) (Or.inr ⟨by rfl,rfl⟩) (by assumption) ?_
       try simp only [Act.put,List.setIfInBounds_toArray,List.set_cons_zero,List.set_cons_succ]
       refine wpAnyH_take (i:=8) (oi:=({ dst:=some 175,op:=Op.move (Operand.tmp 4),type:=25,pos:="law.go:490",after:=#[{ on:=3,ground:=Ground.guard }],guard:=some (3,true) }:Oper)) (v:=undef) rfl (by kernel_rfl) (by kernel_rfl) (by kernel_rfl) (fun _ _ _ h => h) (Or.inr ⟨by rfl,rfl⟩) (by assumption) ?_
       try simp only [Act.put,List.setIfInBounds_toArray,List.set_cons_zero,List.set_cons_succ]
       refine wpAnyH_take (i:=9) (oi:=({ dst:=some 176,op:=Op.nilCheck (Operand.tmp 175),type:=0,pos:="law.go:490",after:=#[{ on:=8,ground:=Ground.data },{ on:=3,ground:=Ground.guard }],guard:=some (3,true) }:Oper)) (v:=undef) rfl (by kernel_rfl) (by kernel_rfl) (by kernel_rfl) (fun _ _ _ h => h) (Or.inr ⟨by rfl,rfl⟩) (by assumption) ?_
       try simp only [Act.put,List.setIfInBounds_toArray,List.set_cons_zero,List.set_cons_succ]
       refine wpAnyH_take (i:=10) (oi:=({ dst:=some 177,op:=Op.fieldAddr 62 (Operand.tmp 176) 0,type:=0,pos:="law.go:490",after:=#[{ on:=9,ground:=Ground.data },{ on:=3,ground:=Ground.guard }],guard:=some (3,true) }:Oper)) (v:=undef) rfl (by kernel_rfl) (by kernel_rfl) (by kernel_rfl) (fun _ _ _ h => h) (Or.inr ⟨by rfl,rfl⟩) (by assumption) ?_
       try simp only [Act.put,List.setIfInBounds_toArray,List.set_cons_zero,List.set_cons_succ]
       refine wpAnyH_take (i:=11) (oi:=({ dst:=some 178,op:=Op.load 27 (Operand.tmp 177),type:=27,pos:="law.go:490",after:=#[{ on:=10,ground:=Ground.data },{ on:=3,ground:=Ground.guard }],guard:=some (3,true) }:Oper)) (v:=undef) rfl (by kernel_rfl) (by kernel_rfl) (by kernel_rfl) (fun _ _ _ h => h) (Or.inr ⟨by rfl,rfl⟩) (by assumption) ?_
       try simp only [Act.put,List.setIfInBounds_toArray,List.set_cons_zero,List.set_cons_succ]
       refine wpAnyH_take (i:=12) (oi:=({ dst:=some 179,op:=Op.fieldAddr 50 (Operand.tmp 12) 4,type:=0,pos:="law.go:490",after:=#[{ on:=3,ground:=Ground.guard }],guard:=some (3,true) }:Oper)) (v:=undef) rfl (by kernel_rfl) (by kernel_rfl) (by kernel_rfl) (fun _ _ _ h => h) (Or.inr ⟨by rfl,rfl⟩) (by assumption) ?_
       try simp only [Act.put,List.setIfInBounds_toArray,List.set_cons_zero,List.set_cons_succ]
       refine wpAnyH_take (i:=13) (oi:=({ dst:=some 180,op:=Op.load 9 (Operand.tmp 179),type:=9,pos:="law.go:490",after:=#[{ on:=12,ground:=Ground.data },{ on:=3,ground:=Ground.guard }],guard:=some (3,true) }:Oper)) (v:=undef) rfl (by kernel_rfl) (by kernel_rfl) (by kernel_rfl) (fun _ _ _ h => h) (Or.inr ⟨by rfl,rfl⟩) (by assumption) ?_
       try simp only [Act.put,List.setIfInBounds_toArray,List.set_cons_zero,List.set_cons_succ]
       refine wpAnyH_take (i:=14) (oi:=({ dst:=some 181,op:=Op.call { callee:=Callee.value (Operand.func 19),args:=#[Operand.tmp 178,Operand.tmp 180],argTypes:=#[27,9] },type:=35,pos:="law.go:490",after:=#[{ on:=11,ground:=Ground.data },{ on:=13,ground:=Ground.data },{ on:=7,ground:=Ground.chain },{ on:=3,ground:=Ground.guard }],guard:=some (3,true) }:Oper)) (v:=undef) rfl (by kernel_rfl) (by kernel_rfl) (by kernel_rfl) (fun _ _ _ h => h) (Or.inr ⟨by rfl,rfl⟩) (by assumption) ?_
       try simp only [Act.put,List.setIfInBounds_toArray,List.set_cons_zero,List.set_cons_succ]
       refine wpAnyH_take (i:=15) (oi:=({ dst:=some 182,op:=Op.call { callee:=Callee.value (Operand.func 8),args:=#[Operand.tmp 174,Operand.tmp 181],argTypes:=#[31,35] },type:=4,pos:="law.go:490",after:=#[{ on:=7,ground:=Ground.data },{ on:=14,ground:=Ground.data },{ on:=14,ground:=Ground.chain },{ on:=3,ground:=Ground.guard }],guard:=some (3,true) }:Oper)) (v:=undef) rfl (by kernel_rfl) (by kernel_rfl) (by kernel_rfl) (fun _ _ _ h => h) (Or.inr ⟨by rfl,rfl⟩) (by assumption) ?_
       try simp only [Act.put,List.setIfInBounds_toArray,List.set_cons_zero,List.set_cons_succ]
       refine wpAnyH_take (i:=16) (oi:=({ dst:=some 183,op:=Op.unOp UnOp.not 4 (Operand.tmp 182),type:=4,pos:="law.go:490",after:=#[{ on:=15,ground:=Ground.data },{ on:=3,ground:=Ground.guard }],guard:=some (3,true) }:Oper)) (v:=undef) rfl (by kernel_rfl) (by kernel_rfl) (by kernel_rfl) (fun _ _ _ h => h) (Or.inr ⟨by rfl,rfl⟩) (by assumption) ?_
       try simp only [Act.put,List.setIfInBounds_toArray,List.set_cons_zero,List.set_cons_succ]
       refine wpAnyH_take (i:=17) (oi:=({ dst:=some 184,op:=Op.pick (Operand.tmp 170) (Operand.tmp 183) (Operand.const (Value.bool false)),type:=4,pos:="law.go:490",after:=#[{ on:=3,ground:=Ground.data },{ on:=16,ground:=Ground.data }],guard:=none }:Oper)) (v:=?v17n) rfl (by kernel_rfl) (by kernel_rfl) (by kernel_rfl) (fun _ _ _ h => h) (Or.inl ⟨by rfl,?y17n⟩) (by assumption) ?r17n
       case y17n => ((intro w hSw; (try dsimp only at hSw); go_simp) <;> with_reducible rfl)
       try simp only [Act.put,List.setIfInBounds_toArray,List.set_cons_zero,List.set_cons_succ]
       refine wpAnyH_done (by kernel_rfl) ?_ _
       go_wp2_with fail
       go_roundg (gk - 1)
       case measure => omega
       case rel =>
        obtain ⟨f1,f2⟩:=HFin.out s6 _ rfl rfl ((H6.out.mono (by omega)).still (Turn.refl _ _).drew) { HI6.out with bnd:=HI6.out.bnd.mono (by omega) }
        exact ⟨j+1,_,by omega,by go_num,hid f1,hid f2⟩
       --ENDNO
  ·have hlt':¬ (j:Int) < xs.length:=by omega
   go_wp2_with fail
   go_ret
   exact ⟨rfl,hS.out.1.turn⟩
end Go.Proofs.YtncfmlifponjdaaGreatDoor
