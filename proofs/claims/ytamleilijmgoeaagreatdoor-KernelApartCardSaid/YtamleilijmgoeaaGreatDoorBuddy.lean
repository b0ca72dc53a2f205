/- Package buddy: what a pool is in memory; Left. Conditions: each theorem's own premises. Package buddy: out, a free block taken out of its list. Conditions: each theorem's own premises. Package buddy: Give. Conditions: each theorem's own premises. Package buddy: Alloc keeps a pool good; what it takes; when it is refused. Conditions: each theorem's own premises. Package buddy: New makes a good pool. Conditions: each theorem's own premises. A block: its first frame, and its order. No condition. The free blocks of a pool, list by list. No program in sight. Conditions: each theorem's own premises. Frames are counted: of a good pool, those of free blocks and of taken ones are all, each once. No program in sight. Conditions: each theorem's own premises. The contracts of package frames: a memory lies in two blocks and reads as a function of frame and word; each method does to that function what its name says. Conditions: each theorem's own premises. How many of the first numbers are so. No program in sight. Conditions: each theorem's own premises. -/
import Derived.Test.YtamleilijmgoeaaGreatDoorBase
import Derived.Outline
import Derived.Test.YtamleilijmgoeaaGreatDoorBuddyPlain
import Derived.Deep.RegionWith
import Derived.Deep.RegionHeld3
import Derived.Deep.RegionLaw
import Derived.Test.YtamleilijmgoeaaGreatDoorProg
import Derived.BigRegion
namespace Go.Proofs.YtamleilijmgoeaaGreatDoor
open Go.RowKit
set_option linter.unusedVariables false
set_option maxHeartbeats 4000000
set_option maxRecDepth 100000
structure Pl where
  n:Int
  fr:Nat→List Int
  tk:List (Int×Nat)
structure PoolAt (w:World) (p mb:Nat) (vs:Nat→Value) (q:Pl):Prop where
  c0:w.cell? ⟨p,0,none⟩=some (.int .i64 q.n)
  cf:∀ k,k < 7→w.cell? ⟨p,1+k,none⟩=some (vs k)
  fi:∀ k,k < 7→IntsAt w (vs k) (q.fr k)
  cm:w.cell? ⟨p,8,none⟩=some (.map (some mb))
  mp:MapIs w mb (.int .i64) encI (fun n:Nat => Value.int .i64 (n:Int)) q.tk
  fz:∀ i,w.frozen? ⟨p,i,none⟩=false
  ap:∀ k j,k < 7→j < 7→k≠j→∀ g,(vs k).ownBlock=some g→(vs j).ownBlock≠some g
  nm:p≠mb
  np:∀ k,k < 7→∀ g,(vs k).ownBlock=some g→g≠p∧g≠mb
def Foot (p mb:Nat) (vs:Nat→Value) (k:Nat):Prop:=k=p∨k=mb∨∃ j,j < 7∧(vs j).ownBlock=some k
theorem PoolAt.lt {w:World} {p mb:Nat} {vs:Nat→Value} {q:Pl} (h:PoolAt w p mb vs q):p < w.heap.size:=lt_of_cell h.c0
theorem PoolAt.turned {S:Nat→Prop} {w w':World} {p mb:Nat} {vs:Nat→Value} {q:Pl} (h:PoolAt w p mb vs q) (t:Turn S w w') (hn:∀ k,Foot p mb vs k→¬ S k):PoolAt w' p mb vs q :=
  ⟨(t.cell (a:=⟨p,0,none⟩) h.lt (hn p (.inl rfl))).trans h.c0,
   fun k hk => (t.cell (a:=⟨p,1+k,none⟩) h.lt (hn p (.inl rfl))).trans (h.cf k hk),
   fun k hk => (h.fi k hk).turned t (fun g hg => hn g (.inr (.inr ⟨k,hk,hg⟩))),
   (t.cell (a:=⟨p,8,none⟩) h.lt (hn p (.inl rfl))).trans h.cm,
   h.mp.turned t (hn mb (.inr (.inl rfl))),
   fun i => (t.frozen (a:=⟨p,i,none⟩) h.lt (hn p (.inl rfl))).trans (h.fz i),
   h.ap,h.nm,h.np⟩
def updV (vs:Nat→Value) (k:Nat) (v:Value):Nat→Value:=fun j => if j=k then v else vs j
def updF (fr:Nat→List Int) (k:Nat) (l:List Int):Nat→List Int:=fun j => if j=k then l else fr j
theorem PoolAt.swap {w w1:World} {p mb:Nat} {vs:Nat→Value} {q:Pl} (h:PoolAt w p mb vs q) (k:Nat) (hk:k < 7) (t:Turn (fun j => (vs k).ownBlock=some j) w w1) (v':Value) (ys:List Int) (hi:IntsAt w1 v' ys)
    (ho:∀ g,v'.ownBlock=some g→(vs k).ownBlock=some g∨w.heap.size≤g) :
    PoolAt (w1.setCell ⟨p,1+k,none⟩ v') p mb (updV vs k v') ⟨q.n,updF q.fr k ys,q.tk⟩∧Turn (Foot p mb vs) w (w1.setCell ⟨p,1+k,none⟩ v')∧∀ j,Foot p mb (updV vs k v') j→Foot p mb vs j∨w.heap.size≤j:=by
  have hlt:=h.lt
  have hpk:¬ (vs k).ownBlock=some p:=fun e => ((h.np k hk) p e).1 rfl
  have hmk:¬ (vs k).ownBlock=some mb:=fun e => ((h.np k hk) mb e).2 rfl
  have hcp:∀ i,w1.cell? ⟨p,i,none⟩=w.cell? ⟨p,i,none⟩:=fun i => t.cell (a:=⟨p,i,none⟩) hlt hpk
  have hfp:∀ i,w1.frozen? ⟨p,i,none⟩=w.frozen? ⟨p,i,none⟩:=fun i => t.frozen (a:=⟨p,i,none⟩) hlt hpk
  have ts:Turn (fun j => j=p) w1 (w1.setCell ⟨p,1+k,none⟩ v'):=(Turn.refl _ _).setCell _ _ (fun _ => rfl)
  have ho':∀ g,v'.ownBlock=some g→g≠p∧g≠mb:=fun g hg => by
    rcases ho g hg with e | e
    · exact h.np k hk g e
    · have:=h.mp.lt; exact ⟨by omega,by omega⟩
  refine ⟨⟨?_,?_,?_,?_,?_,?_,?_,h.nm,?_⟩,?_,?_⟩
  · rw [World.cell?_setCell_other _ _ _ _ (by intro e; injection e with _ e; omega),hcp]; exact h.c0
  · intro j hj
    unfold updV
    split
    · rename_i e; subst e
      exact World.cell?_setCell_same _ _ _ ((hcp _).trans (h.cf j hj))
    · rw [World.cell?_setCell_other _ _ _ _ (by intro e; injection e with _ e; omega),hcp]; exact h.cf j hj
  · intro j hj
    show IntsAt _ (updV vs k v' j) (updF q.fr k ys j)
    unfold updV updF
    by_cases e:j=k
    · rw [if_pos e,if_pos e]
      exact hi.turned ts (fun g hg e => (ho' g hg).1 e)
    · rw [if_neg e,if_neg e]
      exact ((h.fi j hj).turned t (fun g hg e2 => h.ap j k hj hk e g hg e2)).turned ts (fun g hg e => ((h.np j hj) g hg).1 e)
  · rw [World.cell?_setCell_other _ _ _ _ (by intro e; injection e with _ e; omega),hcp]; exact h.cm
  · exact (h.mp.turned t hmk).turned ts (fun e => h.nm e.symm)
  · intro i
    rw [World.frozen?_setCell,hfp]; exact h.fz i
  · intro i j hi' hj hne g hg
    unfold updV at hg ⊢
    split at hg
    · rename_i e; subst e
      rw [if_neg (fun e => hne e.symm)]
      rcases ho g hg with e2 | e2
      · exact fun e3 => h.ap i j hi' hj hne g e2 e3
      · intro e3
        have:=((h.fi j hj).lt g e3).2; omega
    · split
      · rename_i e; subst e
        intro e3
        rcases ho g e3 with e2 | e2
        · exact h.ap i j hi' hj hne g hg e2
        · have:=((h.fi i hi').lt g hg).2; omega
      · exact h.ap i j hi' hj hne g hg
  · intro j hj g hg
    unfold updV at hg
    split at hg
    · exact ho' g hg
    · exact h.np j hj g hg
  · exact (t.mono (fun j hj e => .inr (.inr ⟨k,hk,e⟩))).setCell _ _ (fun _ => .inl rfl)
  · intro j hj
    rcases hj with rfl | rfl | ⟨i,hi',hg⟩
    · exact .inl (.inl rfl)
    · exact .inl (.inr (.inl rfl))
    · unfold updV at hg
      split at hg
      · rcases ho j hg with e | e
        · exact .inl (.inr (.inr ⟨k,hk,e⟩))
        · exact .inr e
      · exact .inl (.inr (.inr ⟨i,hi',hg⟩))
def leftOf (fr:Nat→List Int):Int:=(fr 0).length+(fr 1).length * 2+(fr 2).length * 4+(fr 3).length * 8+(fr 4).length * 16+(fr 5).length * 32+(fr 6).length * 64
theorem IntsAt.slice {w:World} {v:Value} {xs:List Int} (h:IntsAt w v xs):∃ a cap,v=.slice a xs.length cap:=by
  rcases h.shape with ⟨rfl,rfl⟩ | ⟨g,cap,rfl,_⟩
  · exact ⟨none,0,rfl⟩
  · exact ⟨_,cap,rfl⟩
theorem seven_at (x0 x1 x2 x3 x4 x5 x6:Value) (w:World) :
    (Instr.index 329 (.agg #[x0,x1,x2,x3,x4,x5,x6]) (.int .i64 0)).run Tryz.prog w=.ok x0 w ∧
    (Instr.index 329 (.agg #[x0,x1,x2,x3,x4,x5,x6]) (.int .i64 1)).run Tryz.prog w=.ok x1 w ∧
    (Instr.index 329 (.agg #[x0,x1,x2,x3,x4,x5,x6]) (.int .i64 2)).run Tryz.prog w=.ok x2 w ∧
    (Instr.index 329 (.agg #[x0,x1,x2,x3,x4,x5,x6]) (.int .i64 3)).run Tryz.prog w=.ok x3 w ∧
    (Instr.index 329 (.agg #[x0,x1,x2,x3,x4,x5,x6]) (.int .i64 4)).run Tryz.prog w=.ok x4 w ∧
    (Instr.index 329 (.agg #[x0,x1,x2,x3,x4,x5,x6]) (.int .i64 5)).run Tryz.prog w=.ok x5 w ∧
    (Instr.index 329 (.agg #[x0,x1,x2,x3,x4,x5,x6]) (.int .i64 6)).run Tryz.prog w=.ok x6 w:=⟨by kernel_rfl,by kernel_rfl,by kernel_rfl,by kernel_rfl,by kernel_rfl,by kernel_rfl,by kernel_rfl⟩
theorem left_is {w:World} {p mb:Nat} {vs:Nat→Value} {q:Pl} (h:PoolAt w p mb vs q) (hl:∀ k,k < 7→(q.fr k).length≤1000) :
    Calls Tryz.prog 163 #[.pointer (some ⟨p,0,none⟩)] w fun e w' => e=.returned (.int .i64 (leftOf q.fr))∧w=w':=by
  have c0:=h.cf 0 (by decide)
  have c1:=h.cf 1 (by decide)
  have c2:=h.cf 2 (by decide)
  have c3:=h.cf 3 (by decide)
  have c4:=h.cf 4 (by decide)
  have c5:=h.cf 5 (by decide)
  have c6:=h.cf 6 (by decide)
  have l0:=hl 0 (by decide)
  have l1:=hl 1 (by decide)
  have l2:=hl 2 (by decide)
  have l3:=hl 3 (by decide)
  have l4:=hl 4 (by decide)
  have l5:=hl 5 (by decide)
  have l6:=hl 6 (by decide)
  simp only [Nat.add_zero] at c0 c1 c2 c3 c4 c5 c6
  obtain ⟨a0,z0,e0⟩:=(h.fi 0 (by decide)).slice
  obtain ⟨a1,z1,e1⟩:=(h.fi 1 (by decide)).slice
  obtain ⟨a2,z2,e2⟩:=(h.fi 2 (by decide)).slice
  obtain ⟨a3,z3,e3⟩:=(h.fi 3 (by decide)).slice
  obtain ⟨a4,z4,e4⟩:=(h.fi 4 (by decide)).slice
  obtain ⟨a5,z5,e5⟩:=(h.fi 5 (by decide)).slice
  obtain ⟨a6,z6,e6⟩:=(h.fi 6 (by decide)).slice
  rw [e0] at c0
  rw [e1] at c1
  rw [e2] at c2
  rw [e3] at c3
  rw [e4] at c4
  rw [e5] at c5
  rw [e6] at c6
  unfold leftOf
  generalize (q.fr 0).length=n0 at *
  generalize (q.fr 1).length=n1 at *
  generalize (q.fr 2).length=n2 at *
  generalize (q.fr 3).length=n3 at *
  generalize (q.fr 4).length=n4 at *
  generalize (q.fr 5).length=n5 at *
  generalize (q.fr 6).length=n6 at *
  clear h hl e0 e1 e2 e3 e4 e5 e6
  obtain ⟨i0,i1,i2,i3,i4,i5,i6⟩:=seven_at (.slice a0 n0 z0) (.slice a1 n1 z1) (.slice a2 n2 z2) (.slice a3 n3 z3) (.slice a4 n4 z4) (.slice a5 n5 z5) (.slice a6 n6 z6) w
  go_enter Tryz.func163,Tryz.ntmps163
  go_wp2_with fail
  refine wp_loop_rounds 8 ?_
  rw [rounds_succ]
  go_wp2_with fail
  rw [rounds_succ]
  go_wp2_with fail
  rw [rounds_succ]
  go_wp2_with fail
  rw [rounds_succ]
  go_wp2_with fail
  rw [rounds_succ]
  go_wp2_with fail
  rw [rounds_succ]
  go_wp2_with fail
  rw [rounds_succ]
  go_wp2_with fail
  rw [rounds_succ]
  go_wp2_with fail
  go_ret
  exact ⟨rfl,rfl⟩
def PoolAfter (p mb:Nat) (vs:Nat→Value) (w w':World) (q:Pl):Prop :=
 ∃ vs',PoolAt w' p mb vs' q∧Turn (Foot p mb vs) w w'∧∀ j,Foot p mb vs' j→Foot p mb vs j∨w.heap.size≤j
theorem outClosure (b0:Nat) (b x:Int) (w:World) (h:w.cell? ⟨b0,0,none⟩=some (.int .i64 b)) :
  Calls Tryz.prog 272 #[.int .i64 x,.pointer (some ⟨b0,0,none⟩)] w fun e w' => e=.returned (.bool (x == b))∧w=w':=by
 go_enter Tryz.func272,Tryz.ntmps272
 go_wp2
 go_ret
 exact ⟨rfl,rfl⟩
theorem enter_outClosure (args:Array Value) (w:World):(callFunc 272 args).run Tryz.prog w=.ok (.enter 272 args) w:=by kernel_rfl
theorem out_any {w:World} {p mb:Nat} {vs:Nat→Value} {q:Pl} (h:PoolAt w p mb vs q) (k:Nat) (hk:k < 7) (b:Int) (hl:(q.fr k).length≤1000) :
  Calls Tryz.prog 238 #[.pointer (some ⟨p,0,none⟩),.int .i64 k,.int .i64 b] w fun e w' => e=.returned (.tuple #[])∧PoolAfter p mb vs w w' ⟨q.n,outOf q.fr k b,q.tk⟩:=by
 have hlt:=h.lt
 have hc:=h.cf k hk
 have hk':(k:Int) < 7:=by omega
 have hf:=h.fz (1+k)
 have T0:Turn (fun _ => False) w (w.alloc (.cells #[.int .i64 b] 3)).drew:=((Turn.refl _ _).alloc _).drew
 have HI:Hid (IntsAt (w.alloc (.cells #[.int .i64 b] 3)).drew (vs k) (q.fr k)):=hid ((h.fi k hk).turned T0 (fun _ _ => id))
 have HR:Hid (Reads1 (w.alloc (.cells #[.int .i64 b] 3)).drew (fun j => (vs k).ownBlock=some j) 272 #[.pointer (some ⟨w.heap.size,0,none⟩)] (fun x => x == b)):=hid (fun w1 x t => by
  refine (outClosure w.heap.size b x w1 ?_).mono ?_
  ·rw [t.cell (a:=⟨w.heap.size,0,none⟩) (by simp) (fun e => by have:=((h.fi k hk).lt _ e).2; simp only at this; omega)]
   simp
  ·rintro e w' ⟨rfl,rfl⟩
   exact ⟨rfl,Turn.refl _ _⟩)
 have HCK:∀ w1,Turn (fun j => (vs k).ownBlock=some j) (w.alloc (.cells #[.int .i64 b] 3)).drew w1→w1.cell? ⟨p,1+k,none⟩=some (vs k)∧w1.frozen? ⟨p,1+k,none⟩=false:=fun w1 t =>
  ⟨((T0.mono fun _ _ h => h.elim).trans t |>.cell (a:=⟨p,1+k,none⟩) h.lt (fun e => ((h.np k hk) p e).1 rfl)).trans hc,((T0.mono fun _ _ h => h.elim).trans t |>.frozen (a:=⟨p,1+k,none⟩) h.lt (fun e => ((h.np k hk) p e).1 rfl)).trans hf⟩
 have HCK:=hid HCK
 have HD:=hid (deleteFunc_ints HI.out (by omega) _ _ _ enter_outClosure HR.out)
 have H:=hid h
 clear h
 go_enter Tryz.func238,Tryz.ntmps238
 go_wp2_with fail
 go_region_with (go_at_call 176; refine HD.out.mono ?_; rintro e w1 ⟨v',rfl,hi,ho,t1⟩; obtain ⟨a1,z1,rfl⟩:=hi.slice; have HI1:=hid hi; have HO1:=hid ho; have HT1:=hid t1; obtain ⟨hc1,hf1⟩:=HCK.out w1 t1; clear hi ho t1)
 all_goals go_wp2_with fail
 all_goals go_end0
 all_goals (refine ⟨rfl,?_⟩)
 all_goals
  have hs:=H.out.swap k hk ((T0.mono fun _ _ h => h.elim).trans HT1.out) _ _ HI1.out (fun g hg => .inl (by rw [← HO1.out]; exact hg))
  exact ⟨_,hs.1,hs.2⟩
theorem PoolAfter.refl {w:World} {p mb:Nat} {vs:Nat→Value} {q:Pl} (h:PoolAt w p mb vs q):PoolAfter p mb vs w w q:=⟨vs,h,Turn.refl _ _,fun _ h => .inl h⟩
theorem PoolAfter.trans {w w1 w2:World} {p mb:Nat} {vs vs1:Nat→Value} {q:Pl} (t1:Turn (Foot p mb vs) w w1) (g1:∀ j,Foot p mb vs1 j→Foot p mb vs j∨w.heap.size≤j) (h:PoolAfter p mb vs1 w1 w2 q):PoolAfter p mb vs w w2 q:=by
  obtain ⟨vs2,h2,t2,g2⟩:=h
  refine ⟨vs2,h2,t1.trans' t2 (fun k hk hf => ?_),fun j hj => ?_⟩
  · rcases g1 k hf with h | h
    · exact h
    · omega
  · rcases g2 j hj with h | h
    · exact g1 j h
    · exact .inr (Nat.le_trans t1.size h)
theorem len_le_nat:∀ (n:Nat) (l:List Int),l.Nodup→(∀ x∈l,0≤x∧x < n)→l.length≤n
  | 0,l,_,h => by
    cases l with
    | nil => exact Nat.le_refl _
    | cons a l => have:=h a (by simp); omega
  | n+1,l,hn,h => by
    have h1:=len_le_nat n (l.erase n) (hn.erase _) (fun x hx => by
      have h2:=h x (List.mem_of_mem_erase hx)
      have h3:x≠n:=fun e => by subst e; exact (hn.not_mem_erase) hx
      omega)
    have h2:l.length≤(l.erase (n:Int)).length+1:=by rw [List.length_erase]; split <;> omega
    omega
theorem Good.len {n:Int} {fr:Fr} {tk:List (Int×Nat)} (h:Good n fr tk) (hn:n≤256) (k:Nat) (hk:k < 7):(fr k).length≤256:=by
  refine len_le_nat 256 _ (h.nd k hk) (fun x hx => ?_)
  have:=h.okF k x hk hx
  have hp:=sz_pos k
  obtain ⟨_,a,_,b⟩:=this
  exact ⟨a,by omega⟩
theorem PoolAt.lays {w:World} {p mb:Nat} {vs:Nat→Value} {q:Pl} (h:PoolAt w p mb vs q) (k:Nat) (hk:k < 7) (c:Int) :
    IntsAt (w.alloc (.cells #[.int .i64 c] 3)).drew (vs k) (q.fr k)∧(w.alloc (.cells #[.int .i64 c] 3)).drew.cell? ⟨w.heap.size,0,none⟩=some (.int .i64 c) ∧
    ∀ w1,Turn (fun j => (vs k).ownBlock=some j) (w.alloc (.cells #[.int .i64 c] 3)).drew w1→w1.cell? ⟨p,1+k,none⟩=some (vs k)∧w1.frozen? ⟨p,1+k,none⟩=false:=by
  have T0:Turn (fun _ => False) w (w.alloc (.cells #[.int .i64 c] 3)).drew:=((Turn.refl _ _).alloc _).drew
  refine ⟨(h.fi k hk).turned T0 (fun _ _ => id),by simp,fun w1 t => ?_⟩
  have tt:=(T0.mono (S':=fun j => (vs k).ownBlock=some j) fun _ _ h => h.elim).trans t
  exact ⟨(tt.cell (a:=⟨p,1+k,none⟩) h.lt (fun e => ((h.np k hk) p e).1 rfl)).trans (h.cf k hk),(tt.frozen (a:=⟨p,1+k,none⟩) h.lt (fun e => ((h.np k hk) p e).1 rfl)).trans (h.fz _)⟩
theorem PoolAt.appended {w w1:World} {p mb:Nat} {vs:Nat→Value} {q:Pl} (h:PoolAt w p mb vs q) (k:Nat) (hk:k < 7) {c:Int} {g z:Nat} (t:Turn (fun j => (vs k).ownBlock=some j) (w.alloc (.cells #[.int .i64 c] 3)).drew w1)
    (hi:IntsAt w1 (.slice (some ⟨g,0,none⟩) ((q.fr k).length+1) z) (q.fr k ++ [c])) (ho:(vs k).ownBlock=some g∨(w.alloc (.cells #[.int .i64 c] 3)).drew.heap.size≤g) :
    PoolAfter p mb vs w (w1.setCell ⟨p,1+k,none⟩ (.slice (some ⟨g,0,none⟩) ((q.fr k).length+1) z)) ⟨q.n,addTo q.fr k c,q.tk⟩:=by
  have T0:Turn (fun _ => False) w (w.alloc (.cells #[.int .i64 c] 3)).drew:=((Turn.refl _ _).alloc _).drew
  have hs:=h.swap k hk ((T0.mono fun _ _ h => h.elim).trans t) _ _ hi (fun g' hg => by
    cases hg
    rcases ho with h | h
    · exact .inl h
    · right
      have:w.heap.size≤(w.alloc (.cells #[.int .i64 c] 3)).drew.heap.size:=T0.size
      exact Nat.le_trans this h)
  exact ⟨_,hs.1,hs.2⟩
theorem PoolAt.mapped {w w1:World} {p mb:Nat} {vs:Nat→Value} {q:Pl} (h:PoolAt w p mb vs q) (t:Turn (fun k => k=mb) w w1) (m:List (Int×Nat)) (hm:MapIs w1 mb (.int .i64) encI (fun n:Nat => Value.int .i64 (n:Int)) m):PoolAt w1 p mb vs ⟨q.n,q.fr,m⟩ :=
  ⟨(t.cell (a:=⟨p,0,none⟩) h.lt h.nm).trans h.c0,
   fun k hk => (t.cell (a:=⟨p,1+k,none⟩) h.lt h.nm).trans (h.cf k hk),
   fun k hk => (h.fi k hk).turned t (fun g hg => (h.np k hk g hg).2),
   (t.cell (a:=⟨p,8,none⟩) h.lt h.nm).trans h.cm,
   hm,
   fun i => (t.frozen (a:=⟨p,i,none⟩) h.lt h.nm).trans (h.fz i),
   h.ap,h.nm,h.np⟩
theorem xor_all:∀ c:Fin 256,∀ j:Fin 6,(c.val:Int) % sz j.val=0→bits BinOp.xor IntKind.i64 (c.val:Int) (wrap64 (2 ^ j.val))=bud j.val (c.val:Int):=by decide +kernel
theorem xor_bud {c:Int} {j:Nat} (h0:0≤c) (h1:c < 256) (hj:j < 6) (ha:c % sz j=0):bits BinOp.xor IntKind.i64 c (wrap64 (2 ^ j))=bud j c:=by
  obtain ⟨m,rfl⟩:=Int.eq_ofNat_of_zero_le h0
  exact xor_all ⟨m,by omega⟩ ⟨j,hj⟩ ha
theorem mdel_put {tk:List (Int×Nat)} (hn:MNodup tk) {b:Int} {k:Nat} (h:mget tk b=some k):tk.Perm ((b,k) :: mdel tk b):=by
  have hm:=mem_of_mget h
  induction tk with
  | nil => cases hm
  | cons t tk ih =>
    simp only [MNodup,List.map_cons,List.nodup_cons] at hn
    rcases List.mem_cons.1 hm with e | e
    · subst e
      have:mdel ((b,k) :: tk) b=tk:=by
        have h0:mdel tk b=tk:=mdel_none (mget_none (fun p hp e2 => hn.1 (List.mem_map.2 ⟨p,hp,e2⟩)))
        unfold mdel at h0 ⊢
        rw [List.filter_cons_of_neg (by simp),h0]
      rw [this]
    · have hne:t.1≠b:=fun e2 => hn.1 (List.mem_map.2 ⟨(b,k),e,e2.symm⟩)
      have h1:mget tk b=some k:=mget_mem hn.2 e
      have:mdel (t :: tk) b=t :: mdel tk b:=by
        unfold mdel
        rw [List.filter_cons_of_pos (by simpa using hne)]
      rw [this]
      exact ((ih hn.2 h1 e).cons t).trans (List.Perm.swap ..)
theorem give_ok {w:World} {p mb:Nat} {vs:Nat→Value} {q:Pl} (h:PoolAt w p mb vs q) (b:Int) (k:Nat) (hm:mget q.tk b=some k) (hg:Good q.n q.fr q.tk) (hn:q.n≤256) :
    Calls Tryz.prog 240 #[.pointer (some ⟨p,0,none⟩),.int .i64 b,.int .i64 k] w fun e w' => e=.returned .nilIface∧∃ fr',Good q.n fr' (mdel q.tk b)∧PoolAfter p mb vs w w' ⟨q.n,fr',mdel q.tk b⟩:=by
  have hc:=h.cm
  have HM:=hid h.mp
  have HG:=hid hm
  have hne:((k:Int) != k)=false:=by simp
  have H:=hid h
  have HGood:=hid hg
  clear h hm hg
  go_enter Tryz.func240,Tryz.ntmps240
  go_wp2_with (first | (at_lookup; refine wpList_lookok_hit rfl _ _ 53 3 3 rfl Tryz.underlying53 Tryz.underlying3 keyI _ zeroI mb rfl HM.out b rfl k HG.out ?_) | (at_delete; refine wpList_mapdel rfl _ _ 53 3 3 rfl Tryz.underlying53 Tryz.underlying3 keyI mb rfl HM.out b rfl ?_; intro w1 hm1 t1))
  go_frame
  have hp1:=hid (H.out.mapped t1 _ hm1)
  have ht1:=hid t1
  clear t1 hm1 HM
  have hk6:=(HGood.out.okT (b,k) (mem_of_mget HG.out)).1
  simp only at hk6
  go_loopw [1,2,9] (fun b' k' _ wr => ∃ (c:Int) (j:Nat) (fr:Fr),b'=.int .i64 c∧k'=.int .i64 j∧j < 7∧Hid (Good q.n fr ((c,j) :: mdel q.tk b))∧Hid (PoolAfter p mb vs w wr ⟨q.n,fr,mdel q.tk b⟩)) (fun _ k' _ _ => 7 - (intOf k').toNat)
  case atStart => exact ⟨b,k,q.fr,rfl,rfl,hk6,hid (HGood.out.perm (mdel_put H.out.mp.nodup HG.out)),hid ⟨vs,hp1.out,ht1.out.mono (fun j _ e => .inr (.inl e)),fun j hj => .inl hj⟩⟩
  case round =>
    clear hp1 ht1
    obtain ⟨c,j,fr,rfl,rfl,hj,hG,hP⟩:=hrel
    obtain ⟨_,hc0,hca,hcn⟩:=hG.out.okT (c,j) (List.mem_cons_self ..)
    simp only at hc0 hca hcn
    have hsp:=sz_pos j
    have hc256:c < 256:=by omega
    have HCA:=hid hca
    clear hca hcn hsp
    obtain ⟨vs1,hp,t2,g2⟩:=hP.out
    have hcf:=hp.cf j hj
    have hl:=hG.out.len hn j hj
    have HP1:=hid hp
    have HT2:=hid t2
    have HG2:=hid g2
    clear hp t2 g2
    have HL:=hid (HP1.out.lays j hj c)
    have hltp:=HP1.out.lt
    have hj7:(j:Int) < 7:=by omega
    have hfz:=HP1.out.fz (1+j)
    by_cases hlt:j < 6
    · have hlt':(j:Int) < 6:=by omega
      have hx:=xor_bud hc0 hc256 hlt HCA.out
      by_cases hm:bud j c∈fr j
      · have HM:=hid hm
        clear hm
        go_wp2_with fail
        refine (contains_yes (HP1.out.fi j hj) (bud j c) (by show (fr j).length≤_; omega) HM.out).mono ?_
        rintro e w2 ⟨rfl,rfl⟩
        go_wp2_with fail
        refine (out_any HP1.out j hj (bud j c) (by show (fr j).length≤_; omega)).mono ?_
        rintro e w2 ⟨rfl,hp2⟩
        have HP2:=hid hp2
        clear hp2
        go_wp2_with fail
        go_roundw
        case rel => exact ⟨min c (bud j c),j+1,_,congrArg (Value.int IntKind.i64) (by omega),by go_num,by omega,hid (hG.out.merge hlt HM.out),hid (PoolAfter.trans HT2.out HG2.out HP2.out)⟩
        case measure => simp [intOf]; omega
      · have HM:=hid hm
        clear hm
        go_wp2_with fail
        refine (contains_no (HP1.out.fi j hj) (bud j c) (by show (fr j).length≤_; omega) HM.out).mono ?_
        rintro e w2 ⟨rfl,rfl⟩
        go_wp2_with fail
        go_region_law (refine step_append_int rfl _ _ rfl (vs1 j) (fr j) rfl HL.out.1 wr.heap.size 1 c rfl HL.out.2.1 (by omega) ?_; intro g3 z3 w3 hi3 t3 ho3; obtain ⟨hc3,hf3⟩:=HL.out.2.2 w3 t3; have HI3:=hid hi3; have HT3:=hid t3; have HO3:=hid ho3; clear hi3 t3 ho3)
        all_goals go_wp2_with fail
        all_goals go_ret
        all_goals (refine ⟨rfl,?_⟩)
        all_goals exact ⟨_,hG.out.putBud (.inr HM.out),PoolAfter.trans HT2.out HG2.out (HP1.out.appended j hj (c:=c) HT3.out HI3.out HO3.out)⟩
    · have hj6:¬ (j:Int) < 6:=by omega
      go_wp2_with fail
      go_region_law (refine step_append_int rfl _ _ rfl (vs1 j) (fr j) rfl HL.out.1 wr.heap.size 1 c rfl HL.out.2.1 (by omega) ?_; intro g3 z3 w3 hi3 t3 ho3; obtain ⟨hc3,hf3⟩:=HL.out.2.2 w3 t3; have HI3:=hid hi3; have HT3:=hid t3; have HO3:=hid ho3; clear hi3 t3 ho3)
      all_goals go_wp2_with fail
      all_goals go_ret
      all_goals (refine ⟨rfl,?_⟩)
      all_goals exact ⟨_,hG.out.putBud (.inl (by omega)),PoolAfter.trans HT2.out HG2.out (HP1.out.appended j hj (c:=c) HT3.out HI3.out HO3.out)⟩
theorem leastOf_mem (x:Int) (xs:List Int):leastOf x xs∈x :: xs∧∀ y∈x :: xs,leastOf x xs≤y:=by
 induction xs generalizing x with
 | nil => exact ⟨by simp [leastOf],by simp [leastOf]⟩
 | cons y xs ih =>
  have e:leastOf x (y :: xs)=leastOf (if y < x then y else x) xs:=rfl
  rw [e]
  obtain ⟨h1,h2⟩:=ih (if y < x then y else x)
  have h3:=h2 _ (List.mem_cons_self ..)
  have h4:(if y < x then y else x)≤x∧(if y < x then y else x)≤y:=by split <;> constructor <;> omega
  refine ⟨?_,fun z hz => ?_⟩
  ·rcases List.mem_cons.1 h1 with h | h
   ·rw [h]; split <;> simp
   ·simp [h]
  ·rcases List.mem_cons.1 hz with rfl | hz
   ·exact Int.le_trans h3 h4.1
   ·rcases List.mem_cons.1 hz with rfl | hz
    ·exact Int.le_trans h3 h4.2
    ·exact h2 z (List.mem_cons_of_mem _ hz)
theorem wrap_sz:∀ k:Fin 7,IntKind.i64.wrap (2 ^ k.val)=sz k.val:=by decide +kernel
theorem mget_fresh {n:Int} {fr:Fr} {tk:List (Int×Nat)} {b:Int} {k:Nat} (h:Good n fr ((b,k) :: tk)):mget tk b=none:=mget_none (fun t ht e => by
 have:=(List.pairwise_cons.1 h.tt).1 t ht
 have h1:=sz_pos k
 have h2:=sz_pos t.2
 simp only [Ov,not_and] at this
 omega)
theorem mput_perm {tk:List (Int×Nat)} {b:Int} {k:Nat} (h:mget tk b=none):((b,k) :: tk).Perm (mput tk b k):=by
 unfold mput
 rw [h]
 exact (List.perm_append_singleton _ _).symm
theorem alloc_arg {w:World} (p:Nat) (o:Int) (h:o < 0∨6 < o) :
  Calls Tryz.prog 165 #[.pointer (some ⟨p,0,none⟩),.int .i64 o] w fun e w' => e=.returned (.tuple #[.int .i64 0,.iface 36 (.int .i64 1)])∧w=w':=by
 rcases h with h | h
 ·go_enter Tryz.func165,Tryz.ntmps165
  go_wp2_with fail
  go_ret2
  exact ⟨rfl,rfl⟩
 ·have h':¬ o < 0:=by omega
  go_enter Tryz.func165,Tryz.ntmps165
  go_wp2_with fail
  go_ret2
  exact ⟨rfl,rfl⟩
def AllocFull (q:Pl) (o:Nat) (w:World) (e:Ending) (w':World):Prop :=
 e=.returned (.tuple #[.int .i64 0,.iface 36 (.int .i64 12)])∧w=w'∧∀ k,o≤k→k < 7→q.fr k=[]
def AllocGot (p mb:Nat) (vs:Nat→Value) (q:Pl) (o:Nat) (w:World) (e:Ending) (w':World):Prop :=
 ∃ (k:Nat) (base:Int) (fr':Fr),o≤k∧k < 7∧(∀ j,o≤j→j < k→q.fr j=[])∧base∈q.fr k∧(∀ c∈q.fr k,base≤c)∧e=.returned (.tuple #[.int .i64 base,.nilIface]) ∧
  mget q.tk base=none∧Good q.n fr' (mput q.tk base o)∧PoolAfter p mb vs w w' ⟨q.n,fr',mput q.tk base o⟩
def AllocRes (p mb:Nat) (vs:Nat→Value) (q:Pl) (o:Nat) (w:World) (e:Ending) (w':World):Prop:=AllocFull q o w e w'∨AllocGot p mb vs q o w e w'
theorem alloc_any {w:World} {p mb:Nat} {vs:Nat→Value} {q:Pl} (h:PoolAt w p mb vs q) (o:Nat) (ho:o≤6) (hg:Good q.n q.fr q.tk) (hn:q.n≤256) :
  Calls Tryz.prog 165 #[.pointer (some ⟨p,0,none⟩),.int .i64 o] w (AllocRes p mb vs q o w):=by
 have H:=hid h
 have HG:=hid hg
 have ho':(o:Int)≤6:=by omega
 have hltp:=h.lt
 clear h hg
 go_enter Tryz.func165,Tryz.ntmps165
 go_wp2_with fail
 go_loop [6] (fun k' => ∃ k:Nat,o≤k∧k≤7∧k'=.int .i64 k∧Hid (∀ j,o≤j→j < k→q.fr j=[])) (fun k' => 7 - (intOf k').toNat)
 case atStart => exact ⟨o,Nat.le_refl _,by omega,rfl,hid (fun j h1 h2 => by omega)⟩
 case round =>
  obtain ⟨k,hk1,hk2,rfl,hE⟩:=hrel
  by_cases hk7:k < 7
  ·have hk7':(k:Int) < 7:=by omega
   have hk6':(k:Int)≤6:=by omega
   have hcf:=H.out.cf k hk7
   obtain ⟨a1,z1,e1⟩:=(H.out.fi k hk7).slice
   have hl:=HG.out.len hn k hk7
   rw [e1] at hcf
   have HE1:=hid e1
   clear e1
   by_cases he:q.fr k=[]
   ·have hle:(q.fr k).length=0:=by rw [he]; rfl
    have HEm:=hid he
    clear he
    rw [hle] at hcf
    clear hle
    go_wp2_with fail
    go_round
    case rel => exact ⟨k+1,by omega,by omega,by go_num,hid (fun j h1 h2 => by
     by_cases e:j=k
     ·rw [e]; exact HEm.out
     ·exact hE.out j h1 (by omega))⟩
    case measure => simp [intOf]; omega
   ·obtain ⟨x,xs,hx⟩:∃ x xs,q.fr k=x :: xs:=by
     cases hf:q.fr k with
     | nil => exact absurd hf he
     | cons x xs => exact ⟨x,xs,rfl⟩
    have hpos:((q.fr k).length == 0)=false:=by rw [hx]; rfl
    have hpos':0 < (q.fr k).length:=by rw [hx]; simp
    have hpi:(((q.fr k).length:Int) == 0)=false:=beq_eq_false_iff_ne.2 (by omega)
    clear hpos
    obtain ⟨hbm,hbl⟩:=leastOf_mem x xs
    have HX:=hid hx
    rw [← hx] at hbm hbl
    obtain ⟨_,hb0,hba,hbn⟩:=HG.out.okF k _ hk7 hbm
    have hsp:=sz_pos k
    have HB:=hid (And.intro hbm hbl)
    have HBA:=hid (And.intro hba hbn)
    have hb1:leastOf x xs < 256:=by omega
    clear hx hbm hbl hba hbn hsp
    have hmin:=min_ints (xs:=xs) (by rw [← HX.out]; exact H.out.fi k hk7) (by have:=congrArg List.length HX.out; simp at this; omega)
    rw [HE1.out] at hmin
    have HMin:=hid hmin
    clear hmin
    generalize leastOf x xs=base at *
    go_wp2_with fail
    refine HMin.out.mono ?_
    rintro e w1 ⟨rfl,rfl⟩
    go_wp2_with fail
    refine (out_any H.out k hk7 base (by omega)).mono ?_
    rintro e w1 ⟨rfl,hp1⟩
    have HP1:=hid hp1
    clear hp1 hcf
    go_wp2_with fail
    go_loopw [6] (fun k' wr => ∃ (j:Nat) (fr:Fr),k'=.int .i64 j∧o≤j∧j < 7∧Hid (Good q.n fr ((base,j) :: q.tk))∧Hid (PoolAfter p mb vs w wr ⟨q.n,fr,q.tk⟩)) (fun k' _ => (intOf k').toNat)
    case atStart => exact ⟨k,_,rfl,hk1,hk7,hid (HG.out.take hk7 HB.out.1),HP1⟩
    case round =>
     clear HP1
     obtain ⟨j,fr,rfl,hj1,hj2,hGj,hPj⟩:=hrel
     by_cases hjo:o < j
     ·obtain ⟨i,rfl⟩:∃ i,j=i+1:=⟨j - 1,by omega⟩
      obtain ⟨vs1,hp,t2,g2⟩:=hPj.out
      have hx:=wrap_sz ⟨i,by omega⟩
      simp only at hx
      have hs1:=sz_pos i
      have hs2:=sz_le (k:=i) (by omega)
      have hi7:(i:Int) < 7:=by omega
      have hx3:IntKind.i64.wrap (base+sz i)=base+sz i:=IntWalk.i64_in _ (by omega)
      have hwi:IntKind.i64.wrap (i:Int)=i:=IntWalk.i64_in _ (by omega)
      have hcf:=hp.cf i (by omega)
      have hl1:=hGj.out.len hn i (by omega)
      have HP1:=hid hp
      have HT2:=hid t2
      have HG2:=hid g2
      have HL:=hid (HP1.out.lays i (by omega) (base+sz i))
      have hltp:=HP1.out.lt
      have hfz:=HP1.out.fz (1+i)
      clear hp t2 g2
      go_wp2_with fail
      go_region_law (refine step_append_int rfl _ _ rfl (vs1 i) (fr i) rfl HL.out.1 wr.heap.size 1 (base+sz i) rfl HL.out.2.1 (by omega) ?_; intro g3 z3 w3 hi3 t3 ho3; obtain ⟨hc3,hf3⟩:=HL.out.2.2 w3 t3; have HI3:=hid hi3; have HT3:=hid t3; have HO3:=hid ho3; clear hi3 t3 ho3)
      all_goals
       go_wp2_with fail
       go_roundw
       case rel => exact ⟨i,_,rfl,by omega,by omega,hid hGj.out.split,hid (PoolAfter.trans HT2.out HG2.out (HP1.out.appended i (by omega) (c:=base+sz i) HT3.out HI3.out HO3.out))⟩
       case measure => first | (simp [intOf]; done) | (simp [intOf]; omega)
     ·obtain rfl:j=o:=by omega
      obtain ⟨vs1,hp,t2,g2⟩:=hPj.out
      have hcm:=hp.cm
      have HP1:=hid hp
      have HT2:=hid t2
      have HG2:=hid g2
      clear hp t2 g2
      have hno:=hid (mget_fresh hGj.out)
      go_wp2_with (at_mapUpdate; refine wpList_mapput rfl _ _ _ 53 3 3 rfl Tryz.underlying53 Tryz.underlying3 keyI mb rfl HP1.out.mp base rfl j rfl ?_; intro w3 hm3 t3; have HM3:=hid hm3; have HT3:=hid t3; clear hm3 t3)
      go_ret2
      refine .inr ⟨k,base,fr,hk1,hk7,hE.out,HB.out.1,HB.out.2,rfl,hno.out,hGj.out.perm (mput_perm hno.out),?_⟩
      exact PoolAfter.trans HT2.out HG2.out ⟨vs1,HP1.out.mapped HT3.out _ HM3.out,HT3.out.mono (fun _ _ e => .inr (.inl e)),fun _ h => .inl h⟩
  ·have hk:k=7:=by omega
   subst hk
   go_wp2_with fail
   go_ret2
   exact .inl ⟨rfl,rfl,fun k h1 h2 => hE.out k h1 h2⟩
structure Part (n B:Int) (fr:Fr):Prop where
 okF:∀ k b,k < 7→b∈fr k→Ok n k b∧b+sz k≤B
 nd:∀ k,k < 7→(fr k).Nodup
 ff:∀ k b j c,k < 7→j < 7→b∈fr k→c∈fr j→Ov k b j c→k=j∧b=c
 cov:∀ f,0≤f→f < B→∃ k b,k < 7∧b∈fr k∧b≤f∧f < b+sz k
 top:∀ k b,k < 6→b∈fr k→b % sz (k+1)=0→n < b+sz (k+1)
theorem Part.start (n:Int):Part n 0 (fun _ => []):=⟨fun _ _ _ h => by simp at h,fun _ _ => List.nodup_nil,fun _ _ _ _ _ _ h => by simp at h,fun _ _ _ => by omega,fun _ _ _ h => by simp at h⟩
theorem Part.step {n B:Int} {fr:Fr} (h:Part n B fr) {k:Nat} (hk:k < 7) (hB:0≤B) (ha:B % sz k=0) (hn:B+sz k≤n) (ht:k=6∨¬ (B % sz (k+1)=0∧B+sz (k+1)≤n)):Part n (B+sz k) (addTo fr k B) where
 okF j c hj hc:=by
  have hp:=sz_pos k
  rcases mem_add.1 hc with c1 | ⟨rfl,rfl⟩
  ·exact ⟨(h.okF j c hj c1).1,by have:=(h.okF j c hj c1).2; omega⟩
  ·exact ⟨⟨hj,hB,ha,hn⟩,Int.le_refl _⟩
 nd j hj:=by
  unfold addTo
  split
  ·rename_i e
   subst e
   rw [List.nodup_append]
   refine ⟨h.nd j hj,by simp,?_⟩
   intro x hx y hy e
   simp only [List.mem_singleton] at hy
   subst hy
   subst e
   have:=(h.okF j x hj hx).2
   have:=sz_pos j
   omega
  ·exact h.nd j hj
 ff i c j d hi hj hc hd ho:=by
  have hpi:=sz_pos i
  have hpj:=sz_pos j
  rcases mem_add.1 hc with c1 | ⟨rfl,rfl⟩
  ·rcases mem_add.1 hd with d1 | ⟨rfl,rfl⟩
   ·exact h.ff i c j d hi hj c1 d1 ho
   ·have:=(h.okF i c hi c1).2; have:=ho.2; omega
  ·rcases mem_add.1 hd with d1 | ⟨rfl,rfl⟩
   ·have:=(h.okF j d hj d1).2; have:=ho.1; omega
   ·exact ⟨rfl,rfl⟩
 cov f h0 h1:=by
  by_cases hf:f < B
  ·obtain ⟨j,c,hj,hc,r⟩:=h.cov f h0 hf
   exact ⟨j,c,hj,mem_add.2 (.inl hc),r⟩
  ·exact ⟨k,B,hk,mem_add.2 (.inr ⟨rfl,rfl⟩),by omega,h1⟩
 top j c hj hc he:=by
  rcases mem_add.1 hc with c1 | ⟨rfl,rfl⟩
  ·exact h.top j c hj c1 he
  ·rcases ht with ht | ht
   ·omega
   ·have:=sz_succ j; simp only [not_and] at ht; have:=ht he; omega
theorem Part.len {n B:Int} {fr:Fr} (h:Part n B fr) (hn:n≤256) (k:Nat) (hk:k < 7):(fr k).length≤256:=by
 refine len_le_nat 256 _ (h.nd k hk) (fun x hx => ?_)
 have:=(h.okF k x hk hx).1
 have hp:=sz_pos k
 obtain ⟨_,a,_,b⟩:=this
 exact ⟨a,by omega⟩
theorem wrap_2sz:∀ k:Fin 7,wrap64 (2 * 2 ^ k.val)=sz (k.val+1):=by decide +kernel
theorem wrap_sz64:∀ k:Fin 7,wrap64 (2 ^ k.val)=sz k.val:=by decide +kernel
theorem Part.good {n:Int} {fr:Fr} (h:Part n n fr):Good n fr [] where
 okF k b hk hb:=(h.okF k b hk hb).1
 okT t ht:=by simp at ht
 nd:=h.nd
 ff:=h.ff
 tt:=List.Pairwise.nil
 ft _ _ _ _ t ht:=by simp at ht
 cov f h0 h1:=.inl (h.cov f h0 h1)
 nb k b hk ha hb hm:=by
  have h1:=h.top k b hk hb ha
  have h2:=(h.okF k _ (by omega) hm).2
  have:=sz_succ k
  omega
theorem new_range (n:Int) (w:World) (h:n < 1∨256 < n) :
  Calls Tryz.prog 132 #[.int .i64 n] w fun e w' => e=.returned (.tuple #[.pointer none,.iface 36 (.int .i64 2)])∧w=w':=by
 rcases h with h | h
 ·go_enter Tryz.func132,Tryz.ntmps132
  go_wp2_with fail
  go_ret2
  exact ⟨rfl,rfl⟩
 ·have h':¬ n < 1:=by omega
  go_enter Tryz.func132,Tryz.ntmps132
  go_wp2_with fail
  go_ret2
  exact ⟨rfl,rfl⟩
def NewPool (n:Int) (w:World) (e:Ending) (w':World):Prop :=
 ∃ p mb vs fr,e=.returned (.tuple #[.pointer (some ⟨p,0,none⟩),.nilIface])∧PoolAt w' p mb vs ⟨n,fr,[]⟩∧Good n fr []∧Turn (fun _ => False) w w'∧∀ k,Foot p mb vs k→w.heap.size≤k
theorem PoolAt.fresh (n:Int) (w:World):PoolAt ((w.alloc (.map #[] 0)).alloc (.cells #[.int .i64 n,.slice none 0 0,.slice none 0 0,.slice none 0 0,.slice none 0 0,.slice none 0 0,.slice none 0 0,.slice none 0 0,.map (some w.heap.size)] 331)) (w.heap.size+1) w.heap.size (fun _ => .slice none 0 0) ⟨n,fun _ => [],[]⟩:=by
 have hz:(w.alloc (.map #[] 0)).heap.size=w.heap.size+1:=World.size_alloc _ _
 have hB:∀ j,((w.alloc (.map #[] 0)).alloc (.cells #[.int .i64 n,.slice none 0 0,.slice none 0 0,.slice none 0 0,.slice none 0 0,.slice none 0 0,.slice none 0 0,.slice none 0 0,.map (some w.heap.size)] 331)).cell? ⟨w.heap.size+1,j,none⟩=(#[.int .i64 n,.slice none 0 0,.slice none 0 0,.slice none 0 0,.slice none 0 0,.slice none 0 0,.slice none 0 0,.slice none 0 0,.map (some w.heap.size)]:Array Value)[j]?:=fun j => by rw [← hz]; exact World.cell?_alloc_new _ _ _ _
 refine ⟨hB 0,fun k hk => ?_,fun k hk => World.ownsRow_nil _ _ _ _,hB 8,?_,fun i => ?_,fun _ _ _ _ _ g h => (by cases h),(by omega),fun _ _ g h => (by cases h)⟩
 ·rw [hB]
  match k,hk with
  | 0,_ => rfl
  | 1,_ => rfl
  | 2,_ => rfl
  | 3,_ => rfl
  | 4,_ => rfl
  | 5,_ => rfl
  | 6,_ => rfl
 ·exact (MapIs.made w).turned ((Turn.refl (fun _ => False) _).alloc _) id
 ·rw [← hz]; simp
theorem new_any (n:Int) (w:World) (h1:1≤n) (h2:n≤256):Calls Tryz.prog 132 #[.int .i64 n] w (NewPool n w):=by
 have hmm:=@run_makeMap Tryz.prog
 go_enter Tryz.func132,Tryz.ntmps132
 go_wp2_with fail
 have HP0:=hid (PoolAt.fresh n w)
 have HT0:Hid (Turn (fun _ => False) w ((w.alloc (.map #[] 0)).alloc (.cells #[.int .i64 n,.slice none 0 0,.slice none 0 0,.slice none 0 0,.slice none 0 0,.slice none 0 0,.slice none 0 0,.slice none 0 0,.map (some w.heap.size)] 331))):=hid (((Turn.refl _ _).alloc _).alloc _)
 generalize (w.alloc (.map #[] 0)).alloc (.cells #[.int .i64 n,.slice none 0 0,.slice none 0 0,.slice none 0 0,.slice none 0 0,.slice none 0 0,.slice none 0 0,.slice none 0 0,.map (some w.heap.size)] 331)=W0 at *
 obtain ⟨p,hp⟩:∃ p,w.heap.size+1=p:=⟨_,rfl⟩
 rw [hp] at HP0
 rw [hp]
 obtain ⟨mb,hmb⟩:∃ mb,w.heap.size=mb:=⟨_,rfl⟩
 rw [hmb] at HP0
 rw [hmb]
 have HPM:=hid (And.intro hp hmb)
 clear hp hmb
 go_loopw [5,6] (fun b' _ wr => ∃ (B:Int) (fr:Fr),b'=.int .i64 B∧0≤B∧B≤n∧Hid (Part n B fr)∧Hid True∧Hid (PoolAfter p mb (fun _ => .slice none 0 0) W0 wr ⟨n,fr,[]⟩)) (fun b' _ _ => (n - intOf b').toNat)
 case atStart => exact ⟨0,_,rfl,Int.le_refl _,by omega,hid (Part.start n),hid trivial,hid (PoolAfter.refl HP0.out)⟩
 case round =>
  obtain ⟨B,fr,rfl,hB0,hBn,hPart,_,hP⟩:=hrel
  by_cases hlt:B < n
  ·go_wp2_with fail
   obtain ⟨wo,rfl⟩:∃ wo:World,wo=wr:=⟨_,rfl⟩
   go_loop [6] (fun k' => ∃ k:Nat,k'=.int .i64 k∧k≤6∧Hid (B % sz k=0∧B+sz k≤n)) (fun k' => (7 - intOf k').toNat)
   case atStart => exact ⟨0,rfl,by omega,hid ⟨by simp [sz,Int.emod_one],by simp [sz]; omega⟩⟩
   case round =>
    obtain ⟨k,rfl,hk6,hk⟩:=hrel
    have hkn:B+sz k≤n:=hk.out.2
    have hsp:=sz_pos k
    have hsp1:=sz_pos (k+1)
    have hsl1:sz k≤64:=sz_le hk6
    have hsu:=hid (sz_succ k)
    have hx:=wrap_2sz ⟨k,by omega⟩
    have hx1:=wrap_sz64 ⟨k,by omega⟩
    simp only at hx hx1
    have hS:sz (k+1)≤128:=by have:=hsu.out; omega
    obtain ⟨vs1,hpx,tx,gx⟩:=hP.out
    have hl:=hPart.out.len (by omega) k (by omega)
    have HPx:=hid hpx
    have HTx:=hid tx
    have HGx:=hid gx
    clear hpx tx gx
    by_cases hc:k < 6∧B % sz (k+1)=0∧B+sz (k+1)≤n
    ·obtain ⟨hk5,hm,hle⟩:=hc
     have hk5':(k:Int) < 6:=by omega
     have hmb:(B % sz (k+1) == 0)=true:=beq_iff_eq.2 hm
     have HM:=hid hm
     clear hm
     go_wp2_with fail
     go_round
     case rel => exact ⟨k+1,by go_num,by omega,hid ⟨HM.out,hle⟩⟩
     case measure => simp [intOf]; omega
    ·have htop:Hid (k=6∨¬ (B % sz (k+1)=0∧B+sz (k+1)≤n)):=hid (by
      by_cases e:k=6
      ·exact .inl e
      ·exact .inr (fun h => hc ⟨by omega,h⟩))
     have hways:(¬ (k:Int) < 6)∨((k:Int) < 6∧(B % sz (k+1) == 0)=false)∨((k:Int) < 6∧(B % sz (k+1) == 0)=true∧¬ B+sz (k+1)≤n):=by
      by_cases e:(k:Int) < 6
      ·by_cases e2:B % sz (k+1)=0
       ·exact .inr (.inr ⟨e,beq_iff_eq.2 e2,fun h => hc ⟨by omega,e2,h⟩⟩)
       ·exact .inr (.inl ⟨e,beq_eq_false_iff_ne.2 e2⟩)
      ·exact .inl e
     clear hc
     rcases hways with e | ⟨e,e2⟩ | ⟨e,e2,e3⟩
     ·go_wp2_with fail
      have HL:=hid (HPx.out.lays k (by omega) B)
      have hltp:=HPx.out.lt
      have hfz:=HPx.out.fz (1+k)
      have hk7:(k:Int) < 7:=by omega
      have hcf:=HPx.out.cf k (by omega)
      go_region_law (refine step_append_int rfl _ _ rfl (vs1 k) (fr k) rfl HL.out.1 wo.heap.size 1 B rfl HL.out.2.1 (by omega) ?_; intro g3 z3 w3 hi3 t3 ho3; obtain ⟨hc3,hf3⟩:=HL.out.2.2 w3 t3; have HI3:=hid hi3; have HT3:=hid t3; have HO3:=hid ho3; clear hi3 t3 ho3)
      all_goals
       go_wp2_with fail
       go_roundw
       case rel => exact ⟨B+sz k,_,rfl,by omega,hkn,hid (hPart.out.step (by omega) hB0 hk.out.1 hkn htop.out),hid trivial,hid (PoolAfter.trans HTx.out HGx.out (HPx.out.appended k (by omega) (c:=B) HT3.out HI3.out HO3.out))⟩
       case measure => first | (simp [intOf]; done) | (simp [intOf]; omega)
     ·go_wp2_with fail
      have HL:=hid (HPx.out.lays k (by omega) B)
      have hltp:=HPx.out.lt
      have hfz:=HPx.out.fz (1+k)
      have hk7:(k:Int) < 7:=by omega
      have hcf:=HPx.out.cf k (by omega)
      go_region_law (refine step_append_int rfl _ _ rfl (vs1 k) (fr k) rfl HL.out.1 wo.heap.size 1 B rfl HL.out.2.1 (by omega) ?_; intro g3 z3 w3 hi3 t3 ho3; obtain ⟨hc3,hf3⟩:=HL.out.2.2 w3 t3; have HI3:=hid hi3; have HT3:=hid t3; have HO3:=hid ho3; clear hi3 t3 ho3)
      all_goals
       go_wp2_with fail
       go_roundw
       case rel => exact ⟨B+sz k,_,rfl,by omega,hkn,hid (hPart.out.step (by omega) hB0 hk.out.1 hkn htop.out),hid trivial,hid (PoolAfter.trans HTx.out HGx.out (HPx.out.appended k (by omega) (c:=B) HT3.out HI3.out HO3.out))⟩
       case measure => first | (simp [intOf]; done) | (simp [intOf]; omega)
     ·go_wp2_with fail
      have HL:=hid (HPx.out.lays k (by omega) B)
      have hltp:=HPx.out.lt
      have hfz:=HPx.out.fz (1+k)
      have hk7:(k:Int) < 7:=by omega
      have hcf:=HPx.out.cf k (by omega)
      go_region_law (refine step_append_int rfl _ _ rfl (vs1 k) (fr k) rfl HL.out.1 wo.heap.size 1 B rfl HL.out.2.1 (by omega) ?_; intro g3 z3 w3 hi3 t3 ho3; obtain ⟨hc3,hf3⟩:=HL.out.2.2 w3 t3; have HI3:=hid hi3; have HT3:=hid t3; have HO3:=hid ho3; clear hi3 t3 ho3)
      all_goals
       go_wp2_with fail
       go_roundw
       case rel => exact ⟨B+sz k,_,rfl,by omega,hkn,hid (hPart.out.step (by omega) hB0 hk.out.1 hkn htop.out),hid trivial,hid (PoolAfter.trans HTx.out HGx.out (HPx.out.appended k (by omega) (c:=B) HT3.out HI3.out HO3.out))⟩
       case measure => first | (simp [intOf]; done) | (simp [intOf]; omega)
  ·have hBe:B=n:=by omega
   obtain ⟨vs1,hpx,tx,gx⟩:=hP.out
   have HPx:=hid hpx
   have HTx:=hid tx
   have HGx:=hid gx
   clear hpx tx gx
   go_wp2_with fail
   go_ret2
   have hp2:=hPart.out
   rw [hBe] at hp2
   refine ⟨p,mb,vs1,fr,rfl,HPx.out,hp2.good,HT0.out.trans' HTx.out (fun k hk hf => ?_),fun k hk => ?_⟩
   ·rcases hf with e | e | ⟨j,_,e⟩
    ·have:=HPM.out.1; omega
    ·have:=HPM.out.2; omega
    ·cases e
   ·rcases HGx.out k hk with hf | hf
    ·rcases hf with e | e | ⟨j,_,e⟩
     ·have:=HPM.out.1; omega
     ·have:=HPM.out.2; omega
     ·cases e
    ·have:=HT0.out.size; omega
abbrev Bk:=Int×Nat
def listTo (fr:Fr):Nat→List Bk
 | 0 => []
 | k+1 => listTo fr k ++ (fr k).map fun b => (b,k)
theorem mem_listTo {fr:Fr}:∀ {k:Nat} {t:Bk},t∈listTo fr k ↔ t.2 < k∧t.1∈fr t.2
 | 0,t => by simp [listTo]
 | k+1,t => by
  unfold listTo
  rw [List.mem_append,mem_listTo,List.mem_map]
  constructor
  ·rintro (⟨h1,h2⟩ | ⟨b,hb,rfl⟩)
   ·exact ⟨by omega,h2⟩
   ·exact ⟨by simp,hb⟩
  ·rintro ⟨h1,h2⟩
   by_cases e:t.2=k
   ·exact .inr ⟨t.1,by rw [← e]; exact h2,by rw [← e]⟩
   ·exact .inl ⟨by omega,h2⟩
def framesOf (l:List Bk):List Int:=l.flatMap fun t => (List.range (sz t.2).toNat).map fun i:Nat => t.1+(i:Int)
def sumSz (l:List Bk):Int:=(l.map fun t => sz t.2).sum
theorem sumSz_append (l m:List Bk):sumSz (l ++ m)=sumSz l+sumSz m:=by simp [sumSz]
theorem mem_frames1 (t:Bk) (f:Int):f∈(List.range (sz t.2).toNat).map (fun i:Nat => t.1+(i:Int)) ↔ t.1≤f∧f < t.1+sz t.2:=by
 have hp:=sz_pos t.2
 rw [List.mem_map]
 constructor
 ·rintro ⟨i,hi,rfl⟩
  rw [List.mem_range] at hi
  omega
 ·rintro ⟨h1,h2⟩
  exact ⟨(f - t.1).toNat,by rw [List.mem_range]; omega,by omega⟩
theorem mem_frames {l:List Bk} {f:Int}:f∈framesOf l ↔ ∃ t∈l,t.1≤f∧f < t.1+sz t.2:=by
 unfold framesOf
 rw [List.mem_flatMap]
 constructor
 ·rintro ⟨t,ht,h⟩; exact ⟨t,ht,(mem_frames1 t f).1 h⟩
 ·rintro ⟨t,ht,h⟩; exact ⟨t,ht,(mem_frames1 t f).2 h⟩
theorem len_frames (l:List Bk):((framesOf l).length:Int)=sumSz l:=by
 induction l with
 | nil => rfl
 | cons t l ih =>
  have hp:=sz_pos t.2
  unfold framesOf sumSz at *
  simp only [List.flatMap_cons,List.length_append,List.length_map,List.length_range,List.map_cons,List.sum_cons]
  omega
theorem nodup_frames {l:List Bk} (h:l.Pairwise fun s t => ¬ Ov s.2 s.1 t.2 t.1):(framesOf l).Nodup:=by
 induction l with
 | nil => exact List.nodup_nil
 | cons t l ih =>
  obtain ⟨h1,h2⟩:=List.pairwise_cons.1 h
  have e:framesOf (t :: l)=(List.range (sz t.2).toNat).map (fun i:Nat => t.1+(i:Int)) ++ framesOf l:=by simp [framesOf]
  rw [e,List.nodup_append]
  refine ⟨?_,ih h2,?_⟩
  ·rw [List.Nodup,List.pairwise_map]
   exact (List.nodup_range (n:=(sz t.2).toNat)).imp (fun hne e => hne (by omega))
  ·intro a ha b hb e
   subst e
   obtain ⟨s,hs,r⟩:=mem_frames.1 hb
   have ha:=(mem_frames1 t a).1 ha
   exact h1 s hs ⟨by omega,by omega⟩
theorem Good.apart {n:Int} {fr:Fr} {tk:List Bk} (h:Good n fr tk):(tk ++ listTo fr 7).Pairwise fun s t => ¬ Ov s.2 s.1 t.2 t.1:=by
 rw [List.pairwise_append]
 refine ⟨h.tt,?_,fun t ht s hs ho => ?_⟩
 ·have:∀ k,k≤7→(listTo fr k).Pairwise fun s t => ¬ Ov s.2 s.1 t.2 t.1:=by
   intro k
   induction k with
   | zero => intro _; exact List.Pairwise.nil
   | succ k ih =>
    intro hk
    unfold listTo
    rw [List.pairwise_append]
    refine ⟨ih (by omega),?_,fun s hs t ht ho => ?_⟩
    ·rw [List.pairwise_map]
     refine (h.nd k (by omega)).imp_of_mem ?_
     intro a b ha hb hne ho
     exact hne (h.ff k a k b (by omega) (by omega) ha hb ho).2
    ·obtain ⟨h1,h2⟩:=mem_listTo.1 hs
     obtain ⟨b,hb,rfl⟩:=List.mem_map.1 ht
     have:=(h.ff s.2 s.1 k b (by omega) (by omega) h2 hb ho).1
     omega
  exact this 7 (Nat.le_refl _)
 ·obtain ⟨h1,h2⟩:=mem_listTo.1 hs
  exact h.ft s.2 s.1 h1 h2 t ht ho.symm
theorem Good.frames {n:Int} {fr:Fr} {tk:List Bk} (h:Good n fr tk) (f:Int):f∈framesOf (tk ++ listTo fr 7) ↔ 0≤f∧f < n:=by
 rw [mem_frames]
 constructor
 ·rintro ⟨t,ht,r1,r2⟩
  have hok:Ok n t.2 t.1:=by
   rcases List.mem_append.1 ht with h1 | h1
   ·exact h.okT t h1
   ·obtain ⟨h2,h3⟩:=mem_listTo.1 h1
    exact h.okF t.2 t.1 h2 h3
  obtain ⟨_,a,_,b⟩:=hok
  omega
 ·rintro ⟨h0,h1⟩
  rcases h.cov f h0 h1 with ⟨k,b,hk,hb,r⟩ | ⟨t,ht,r⟩
  ·exact ⟨(b,k),List.mem_append_right _ (mem_listTo.2 ⟨hk,hb⟩),r⟩
  ·exact ⟨t,List.mem_append_left _ ht,r⟩
theorem Good.sum {n:Int} {fr:Fr} {tk:List Bk} (h:Good n fr tk) (hn:0≤n):sumSz tk+sumSz (listTo fr 7)=n:=by
 have hp:(framesOf (tk ++ listTo fr 7)).Perm ((List.range n.toNat).map fun i:Nat => (i:Int)):=by
  rw [List.perm_ext_iff_of_nodup (nodup_frames h.apart)]
  ·intro f
   rw [h.frames,List.mem_map]
   constructor
   ·rintro ⟨h0,h1⟩; exact ⟨f.toNat,by rw [List.mem_range]; omega,by omega⟩
   ·rintro ⟨i,hi,rfl⟩; rw [List.mem_range] at hi; omega
  ·rw [List.Nodup,List.pairwise_map]
   exact (List.nodup_range (n:=n.toNat)).imp (fun hne e => hne (by omega))
 have hl:=hp.length_eq
 simp only [List.length_map,List.length_range] at hl
 have:=len_frames (tk ++ listTo fr 7)
 rw [sumSz_append] at this
 omega
theorem sumSz_map (l:List Int) (k:Nat):sumSz (l.map fun b => (b,k))=l.length * sz k:=by
 induction l with
 | nil => simp [sumSz]
 | cons a l ih =>
  unfold sumSz at *
  simp only [List.map_cons,List.sum_cons,List.length_cons]
  rw [ih]
  have:((l.length+1:Nat):Int) * sz k=l.length * sz k+sz k:=by
   rw [Int.natCast_add,Int.add_mul]; simp
  omega
theorem left_sum (fr:Fr):leftOf fr=sumSz (listTo fr 7):=by
 unfold leftOf
 simp only [listTo,List.nil_append,sumSz_append,sumSz_map]
 have e0:sz 0=1:=rfl
 have e1:sz 1=2:=rfl
 have e2:sz 2=4:=rfl
 have e3:sz 3=8:=rfl
 have e4:sz 4=16:=rfl
 have e5:sz 5=32:=rfl
 have e6:sz 6=64:=rfl
 rw [e0,e1,e2,e3,e4,e5,e6]
 omega
theorem Good.left {n:Int} {fr:Fr} {tk:List Bk} (h:Good n fr tk) (hn:0≤n):leftOf fr=n - sumSz tk:=by
 have:=h.sum hn
 rw [left_sum]; omega
structure MemIs (w:World) (mb wb n:Nat) (m:Nat→Nat→Int):Prop where
  hdr:w.cell? ⟨mb,0,none⟩=some (.slice (some ⟨wb,0,none⟩) n n)
  cell:∀ f k,f < n→k < 8→w.cell? ⟨wb,f * 8+k,none⟩=some (.int .i64 (m f k))
  free:∀ i,w.frozen? ⟨wb,i,none⟩=false
  ne:mb≠wb
  pos:1≤n
  most:n≤256
theorem MemIs.lt_mb {w:World} {mb wb n:Nat} {m:Nat→Nat→Int} (h:MemIs w mb wb n m):mb < w.heap.size:=lt_of_cell h.hdr
theorem MemIs.lt_wb {w:World} {mb wb n:Nat} {m:Nat→Nat→Int} (h:MemIs w mb wb n m):wb < w.heap.size:=lt_of_cell (h.cell 0 0 h.pos (by decide))
theorem MemIs.turned {w w':World} {mb wb n:Nat} {m:Nat→Nat→Int} {S:Nat→Prop} (h:MemIs w mb wb n m) (t:Turn S w w') (h1:¬ S mb) (h2:¬ S wb):MemIs w' mb wb n m :=
  ⟨(t.cell (a:=⟨mb,0,none⟩) h.lt_mb h1).trans h.hdr,fun f k hf hk => (t.cell (a:=⟨wb,f * 8+k,none⟩) h.lt_wb h2).trans (h.cell f k hf hk),
   fun i => (t.frozen (a:=⟨wb,i,none⟩) h.lt_wb h2).trans (h.free i),h.ne,h.pos,h.most⟩
def memSet (m:Nat→Nat→Int) (f k:Nat) (v:Int):Nat→Nat→Int:=fun g j => if g=f∧j=k then v else m g j
def memZero (m:Nat→Nat→Int) (f:Nat):Nat→Nat→Int:=fun g j => if g=f then 0 else m g j
def memCopy (m:Nat→Nat→Int) (to src:Nat):Nat→Nat→Int:=fun g j => if g=to then m src j else m g j
theorem right_yes (mb wb n:Nat) (f k:Int) (w:World) (hm:w.cell? ⟨mb,0,none⟩=some (.slice (some ⟨wb,0,none⟩) n n)) (hf0:0≤f) (hf:f < n) (hk0:0≤k) (hk:k < 8) :
    Calls Tryz.prog 239 #[.pointer (some ⟨mb,0,none⟩),.int .i64 f,.int .i64 k] w fun e w' => e=.returned (.bool true)∧w=w':=by
  go_enter Tryz.func239,Tryz.ntmps239
  go_wp2
  go_ret
  exact ⟨rfl,rfl⟩
theorem get_yes {mb wb n:Nat} {m:Nat→Nat→Int} {w:World} (hm:MemIs w mb wb n m) (f k:Int) (hf0:0≤f) (hf:f < n) (hk0:0≤k) (hk:k < 8) :
    Calls Tryz.prog 175 #[.pointer (some ⟨mb,0,none⟩),.int .i64 f,.int .i64 k] w fun e w' => e=.returned (.tuple #[.int .i64 (m f.toNat k.toNat),.nilIface])∧w=w':=by
  have hh:=hm.hdr
  have hc:=hm.cell f.toNat k.toNat (by omega) (by omega)
  clear hm
  go_enter Tryz.func175,Tryz.ntmps175
  go_wp2_with (go_at_call 239; refine (right_yes mb wb n _ _ _ hh hf0 hf hk0 hk).mono ?_; rintro e w' ⟨rfl,rfl⟩)
  go_ret2
  exact ⟨rfl,rfl⟩
theorem MemIs.set {w:World} {mb wb n:Nat} {m:Nat→Nat→Int} (h:MemIs w mb wb n m) (f k:Nat) (v:Int) (hf:f < n) (hk:k < 8) :
    MemIs (w.setCell ⟨wb,f * 8+k,none⟩ (.int .i64 v)) mb wb n (memSet m f k v):=by
  refine ⟨?_,?_,?_,h.ne,h.pos,h.most⟩
  · rw [World.cell?_setCell_other _ _ _ _ (by intro e; injection e with e; exact h.ne e.symm)]; exact h.hdr
  · intro g j hg hj
    unfold memSet
    by_cases e:g=f∧j=k
    · obtain ⟨rfl,rfl⟩:=e
      rw [if_pos ⟨rfl,rfl⟩]
      exact World.cell?_setCell_same _ _ _ (h.cell g j hf hk)
    · rw [if_neg e,World.cell?_setCell_other _ _ _ _ (by intro e2; injection e2 with e3 e4; omega)]
      exact h.cell g j hg hj
  · intro i; rw [World.frozen?_setCell]; exact h.free i
theorem set_yes {mb wb n:Nat} {m:Nat→Nat→Int} {w:World} (hm:MemIs w mb wb n m) (f k v:Int) (hf0:0≤f) (hf:f < n) (hk0:0≤k) (hk:k < 8) :
    Calls Tryz.prog 169 #[.pointer (some ⟨mb,0,none⟩),.int .i64 f,.int .i64 k,.int .i64 v] w fun e w' => e=.returned .nilIface∧MemIs w' mb wb n (memSet m f.toNat k.toNat v)∧Turn (fun b => b=wb) w w':=by
  have hh:=hm.hdr
  have hc:=hm.cell f.toNat k.toNat (by omega) (by omega)
  have hz:=hm.free (f.toNat * 8+k.toNat)
  have HM:=hid hm
  clear hm
  go_enter Tryz.func169,Tryz.ntmps169
  go_wp2_with (go_at_call 239; refine (right_yes mb wb n _ _ _ hh hf0 hf hk0 hk).mono ?_; rintro e w' ⟨rfl,rfl⟩)
  go_ret
  exact ⟨rfl,HM.out.set _ _ _ (by omega) (by omega),(Turn.refl _ _).setCell _ _ (fun _ => rfl)⟩
theorem MemIs.there {w:World} {mb wb n:Nat} {m:Nat→Nat→Int} (h:MemIs w mb wb n m) (f:Nat) (hf:f < n):w.there wb (f * 8) 8:=fun j hj =>
  ⟨by rw [h.cell f j hf hj]; rfl,h.free _⟩
theorem MemIs.setAll {w:World} {mb wb n:Nat} {m:Nat→Nat→Int} (h:MemIs w mb wb n m) (f:Nat) (hf:f < n) (vs:Nat→Int) (cs:List Value) (hcs:cs=(List.range 8).map fun j => Value.int .i64 (vs j)) :
    MemIs (w.setCells wb (f * 8) cs) mb wb n (fun g j => if g=f then vs j else m g j):=by
  have hl:cs.length=8:=by rw [hcs]; simp
  refine ⟨?_,?_,?_,h.ne,h.pos,h.most⟩
  · rw [World.cell?_setCells_out wb cs _ w ⟨mb,0,none⟩ (fun e => absurd e h.ne)]; exact h.hdr
  · intro g j hg hj
    by_cases e:g=f
    · subst e
      have:=World.cell?_setCells_in wb cs (g * 8) w (fun i hi => (h.there g hf i (by omega)).1) j (by omega)
      rw [if_pos rfl,this]
      simp [hcs]
    · rw [if_neg e,World.cell?_setCells_out wb cs _ w ⟨wb,g * 8+j,none⟩ (fun _ _ => by show g * 8+j < f * 8∨f * 8+cs.length≤g * 8+j; omega)]
      exact h.cell g j hg hj
  · intro i; rw [World.frozen?_setCells]; exact h.free i
def wordsOf (m:Nat→Nat→Int) (f:Nat):List Value:=(List.range 8).map fun j => Value.int .i64 (m f j)
theorem wordsOf_one (m:Nat→Nat→Int) (f:Nat):(wordsOf m f).toArray.all (·.oneCell')=true:=all_oneCell_toArray (fun v hv => by
  unfold wordsOf at hv
  simp only [List.mem_map] at hv
  obtain ⟨j,_,rfl⟩:=hv
  rfl)
def noughts:Array Value:=#[.int .i64 0,.int .i64 0,.int .i64 0,.int .i64 0,.int .i64 0,.int .i64 0,.int .i64 0,.int .i64 0]
theorem noughts_is:noughts=(wordsOf (fun _ _ => 0) 0).toArray:=rfl
theorem noughts_one:noughts.all (·.oneCell')=true:=by rw [noughts_is]; exact wordsOf_one _ _
theorem info_words:(Tryz.prog.info? 293).map (·.size)=some 8:=by kernel_rfl
theorem zero_yes {mb wb n:Nat} {m:Nat→Nat→Int} {w:World} (hm:MemIs w mb wb n m) (f:Int) (hf0:0≤f) (hf:f < n) :
    Calls Tryz.prog 166 #[.pointer (some ⟨mb,0,none⟩),.int .i64 f] w fun e w' => e=.returned .nilIface∧MemIs w' mb wb n (memZero m f.toNat)∧Turn (fun b => b=wb) w w':=by
  have hh:=hm.hdr
  have ht:=hid (hm.there f.toNat (by omega))
  have HM:=hid hm
  clear hm
  go_enter Tryz.func166,Tryz.ntmps166
  go_wp2_with (first | (go_at_call 239; refine (right_yes mb wb n _ _ _ hh hf0 hf (by decide) (by decide)).mono ?_; rintro e w' ⟨rfl,rfl⟩) | (refine wpList_store_mid rfl 293 _ _ rfl wb (f.toNat * 8) noughts rfl rfl ht.out info_words noughts_one ?_))
  go_ret
  exact ⟨rfl,HM.out.setAll _ (by omega) (fun _ => 0) _ rfl,(Turn.refl _ _).setCells _ _ _ (fun _ => rfl)⟩
theorem MemIs.eight {w:World} {mb wb n:Nat} {m:Nat→Nat→Int} (h:MemIs w mb wb n m) (f:Nat) (hf:f < n) :
    w.cell? ⟨wb,f * 8,none⟩=some (.int .i64 (m f 0))∧w.cell? ⟨wb,f * 8+1,none⟩=some (.int .i64 (m f 1))∧w.cell? ⟨wb,f * 8+2,none⟩=some (.int .i64 (m f 2))∧w.cell? ⟨wb,f * 8+3,none⟩=some (.int .i64 (m f 3))
   ∧w.cell? ⟨wb,f * 8+4,none⟩=some (.int .i64 (m f 4))∧w.cell? ⟨wb,f * 8+5,none⟩=some (.int .i64 (m f 5))∧w.cell? ⟨wb,f * 8+6,none⟩=some (.int .i64 (m f 6))∧w.cell? ⟨wb,f * 8+7,none⟩=some (.int .i64 (m f 7)) :=
  ⟨h.cell f 0 hf (by decide),h.cell f 1 hf (by decide),h.cell f 2 hf (by decide),h.cell f 3 hf (by decide),h.cell f 4 hf (by decide),h.cell f 5 hf (by decide),h.cell f 6 hf (by decide),h.cell f 7 hf (by decide)⟩
def put8 (w:World) (b o:Nat) (v0 v1 v2 v3 v4 v5 v6 v7:Value):World :=
  ((((((((w.setCell ⟨b,o,none⟩ v0).setCell ⟨b,o+1,none⟩ v1).setCell ⟨b,o+2,none⟩ v2).setCell ⟨b,o+3,none⟩ v3).setCell ⟨b,o+4,none⟩ v4).setCell ⟨b,o+5,none⟩ v5).setCell ⟨b,o+6,none⟩ v6).setCell ⟨b,o+7,none⟩ v7)
theorem put8_eq (w:World) (b o:Nat) (v0 v1 v2 v3 v4 v5 v6 v7:Value):put8 w b o v0 v1 v2 v3 v4 v5 v6 v7=w.setCells b o [v0,v1,v2,v3,v4,v5,v6,v7]:=rfl
theorem MemIs.drewn {w:World} {mb wb n:Nat} {m:Nat→Nat→Int} (h:MemIs w mb wb n m):MemIs w.drew mb wb n m:=⟨h.hdr,h.cell,h.free,h.ne,h.pos,h.most⟩
theorem MemIs.copied {w:World} {mb wb n:Nat} {m:Nat→Nat→Int} (h:MemIs w mb wb n m) (f g:Nat) (hf:f < n) :
    MemIs (put8 w wb (f * 8) (.int .i64 (m g 0)) (.int .i64 (m g 1)) (.int .i64 (m g 2)) (.int .i64 (m g 3)) (.int .i64 (m g 4)) (.int .i64 (m g 5)) (.int .i64 (m g 6)) (.int .i64 (m g 7))).drew mb wb n (memCopy m f g):=by
  rw [put8_eq]
  exact (h.setAll f hf (fun j => m g j) [.int .i64 (m g 0),.int .i64 (m g 1),.int .i64 (m g 2),.int .i64 (m g 3),.int .i64 (m g 4),.int .i64 (m g 5),.int .i64 (m g 6),.int .i64 (m g 7)] rfl).drewn
theorem turn_put8 (w:World) (b o:Nat) (v0 v1 v2 v3 v4 v5 v6 v7:Value):Turn (fun k => k=b) w (put8 w b o v0 v1 v2 v3 v4 v5 v6 v7).drew:=by
  rw [put8_eq]
  exact Turn.drew (Turn.setCells (S:=fun k => k=b) (Turn.refl _ _) b _ o (fun _ => rfl))
theorem copy_yes {mb wb n:Nat} {m:Nat→Nat→Int} {w:World} (hm:MemIs w mb wb n m) (f g:Int) (hf0:0≤f) (hf:f < n) (hg0:0≤g) (hg:g < n) :
    Calls Tryz.prog 167 #[.pointer (some ⟨mb,0,none⟩),.int .i64 f,.int .i64 g] w fun e w' => e=.returned .nilIface∧MemIs w' mb wb n (memCopy m f.toNat g.toNat)∧Turn (fun b => b=wb) w w':=by
  have hh:=hm.hdr
  have HM:=hid hm
  clear hm
  go_enter Tryz.func167,Tryz.ntmps167
  go_wp2_with fail
  refine (right_yes mb wb n _ _ _ hh hf0 hf (by decide) (by decide)).mono ?_
  rintro e w' ⟨rfl,rfl⟩
  go_wp2_with fail
  refine (right_yes mb wb n _ _ _ hh hg0 hg (by decide) (by decide)).mono ?_
  rintro e w' ⟨rfl,rfl⟩
  go_wp2_with fail
  obtain ⟨a0,a1,a2,a3,a4,a5,a6,a7⟩:=HM.out.eight g.toNat (by omega)
  obtain ⟨b0,b1,b2,b3,b4,b5,b6,b7⟩:=HM.out.eight f.toNat (by omega)
  have hz:=HM.out.free
  go_region
  all_goals go_wp2
  all_goals go_ret
  all_goals exact ⟨rfl,HM.out.copied f.toNat g.toNat (by omega),turn_put8 w wb (f.toNat * 8) _ _ _ _ _ _ _ _⟩
theorem info_arr:(Tryz.prog.info? 293).map (fun i => (i.zero,i.size,i.bytes))=some (some (.agg noughts),8,64):=by kernel_rfl
theorem made_noughts (n j:Nat) (h:j < n * 8):(madeCells (Value.agg noughts).cells (n * 8)).toList[j]?=some (.int .i64 0):=by
  have e:(Value.agg noughts).cells=noughts:=rfl
  rw [e,madeCells]
  simp only [Array.toList_map,List.getElem?_map,Array.toList_range,List.getElem?_range h,Option.map_some]
  congr 1
  have hs:noughts.size=8:=rfl
  rw [hs]
  have:j % 8 < 8:=Nat.mod_lt _ (by decide)
  generalize j % 8=r at this
  match r,this with
  | 0,_ => rfl
  | 1,_ => rfl
  | 2,_ => rfl
  | 3,_ => rfl
  | 4,_ => rfl
  | 5,_ => rfl
  | 6,_ => rfl
  | 7,_ => rfl
def NewMem (w:World) (n:Nat) (e:Ending) (w':World):Prop :=
  ∃ mb wb,e=.returned (.tuple #[.pointer (some ⟨mb,0,none⟩),.nilIface])∧MemIs w' mb wb n (fun _ _ => 0)∧w.heap.size≤mb∧w.heap.size≤wb∧Turn (fun _ => False) w w'
theorem new_yes_nat (n:Nat) (w:World) (h1:1≤n) (h2:n≤256):Calls Tryz.prog 131 #[.int .i64 n] w (NewMem w n):=by
  obtain ⟨i0,hi,hz0,hz1,hz2⟩:=info_parts info_arr
  have h1':(1:Int)≤n:=by omega
  have h2':(n:Int)≤256:=by omega
  go_enter Tryz.func131,Tryz.ntmps131
  go_wp2_with (at_make; refine wpList_make_full _ rfl _ _ 326 rfl w.heap.size 293 i0 (.agg noughts) 8 Tryz.underlying326 hi hz0 hz1 _ _ _ _ n rfl rfl rfl rfl (by rw [hz2]; omega) (by unfold maxLen; omega) (Nat.le_refl _) ?_; intro w1 hown hgrow)
  go_ret2
  have hwb:w.heap.size < w1.heap.size:=by
    have:=hown.cellAt 0 (by omega)
    rw [made_noughts n 0 (by omega)] at this
    exact lt_of_cell this
  refine ⟨w1.heap.size,w.heap.size,rfl,⟨?_,?_,?_,by omega,h1,h2⟩,by omega,Nat.le_refl _,((Turn.refl _ _).grown hgrow (fun _ h => by cases h)).alloc _⟩
  · exact World.cell?_alloc_new _ _ _ _
  · intro f k hf hk
    rw [World.cell?_alloc_lt _ _ _ hwb,hown.cellAt _ (by omega)]
    exact made_noughts _ _ (by omega)
  · intro i
    rw [World.frozen?_alloc_old _ _ _ (by show w.heap.size≠_; omega)]
    exact hown.frozenAt i
def cntB (g:Nat→Bool) (k:Nat):Nat:=((List.range k).filter g).length
theorem cntB_succ (g:Nat→Bool) (k:Nat):cntB g (k+1)=cntB g k+if g k then 1 else 0:=by
 unfold cntB
 rw [List.range_succ,List.filter_append,List.length_append]
 cases h:g k <;> simp [h]
theorem cntB_le (g:Nat→Bool):∀ k,cntB g k≤k
 | 0 => Nat.le_refl _
 | k+1 => by
  rw [cntB_succ]
  have:=cntB_le g k
  split <;> omega
theorem cntB_all {g:Nat→Bool}:∀ {k:Nat},cntB g k=k→∀ i,i < k→g i=true
 | 0,_,i,hi => by omega
 | k+1,h,i,hi => by
  rw [cntB_succ] at h
  have hle:=cntB_le g k
  cases hg:g k with
  | false => rw [hg] at h; simp at h; omega
  | true =>
   rw [hg] at h; simp at h
   by_cases e:i=k
   ·rw [e]; exact hg
   ·exact cntB_all h i (by omega)
end Go.Proofs.YtamleilijmgoeaaGreatDoor
