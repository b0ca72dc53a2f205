/- The contracts of package proc: a table of processes: its map leads from numbers to blocks, each of a process of its own. Conditions: each theorem's own premises. Package proc: New, Kill, Ignore, Take. Conditions: each theorem's own premises. Package proc: what Kill, Ignore and Take tell where they refuse; Ignore and Take of a process that runs. Conditions: each theorem's own premises. Package proc: Fork. Conditions: each theorem's own premises. Package proc: Exit: it is dead, its own are 1's. Conditions: each theorem's own premises. -/
import Derived.Test.YtamleilijmgoeaaGreatDoorProg
import Derived.Test.YtamleilijmgoeaaGreatDoorBase
import Derived.BigRegion
import Derived.Outline
import Derived.Deep.LoopGhost
import Derived.Deep.DeepCutAuto
import Derived.Deep.RegionLaw
namespace Go.Proofs.YtamleilijmgoeaaGreatDoor
open Go.RowKit
set_option linter.unusedVariables false
set_option maxHeartbeats 2000000
set_option maxRecDepth 100000
structure Pr where
 parent:Int
 state:Int
 code:Int
 waits:Int
 ignores:Int
structure PrAt (w:World) (b:Nat) (p:Pr):Prop where
 c0:w.cell? ⟨b,0,none⟩=some (.int .i64 p.parent)
 c1:w.cell? ⟨b,1,none⟩=some (.int .i64 p.state)
 c2:w.cell? ⟨b,2,none⟩=some (.int .i64 p.code)
 c3:w.cell? ⟨b,3,none⟩=some (.int .i64 p.waits)
 c4:w.cell? ⟨b,4,none⟩=some (.int .i64 p.ignores)
 fz:∀ i,w.frozen? ⟨b,i,none⟩=false
theorem PrAt.lt {w:World} {b:Nat} {p:Pr} (h:PrAt w b p):b < w.heap.size:=lt_of_cell h.c0
theorem PrAt.turned {w w':World} {b:Nat} {p:Pr} {S:Nat→Prop} (h:PrAt w b p) (t:Turn S w w') (hn:¬ S b):PrAt w' b p :=
 ⟨(t.cell (a:=⟨b,0,none⟩) h.lt hn).trans h.c0,(t.cell (a:=⟨b,1,none⟩) h.lt hn).trans h.c1,(t.cell (a:=⟨b,2,none⟩) h.lt hn).trans h.c2,(t.cell (a:=⟨b,3,none⟩) h.lt hn).trans h.c3,(t.cell (a:=⟨b,4,none⟩) h.lt hn).trans h.c4,fun i => (t.frozen (a:=⟨b,i,none⟩) h.lt hn).trans (h.fz i)⟩
def ptr (b:Nat):Value:=.pointer (some ⟨b,0,none⟩)
structure PrTab (w:World) (tb mb:Nat) (l:List (Int×Nat)) (f:Nat→Pr):Prop where
 hdr:w.cell? ⟨tb,0,none⟩=some (.map (some mb))
 mp:MapIs w mb (.int .i64) encI (fun b:Nat => Value.pointer (some ⟨b,0,none⟩)) l
 pr:∀ t∈l,PrAt w t.2 (f t.2)
 inj:(l.map (·.2)).Nodup
 ap:∀ t∈l,t.2≠tb∧t.2≠mb
 ne:tb≠mb
def TFoot (tb mb:Nat) (l:List (Int×Nat)) (k:Nat):Prop:=k=tb∨k=mb∨k∈l.map (·.2)
theorem PrTab.turned {w w':World} {tb mb:Nat} {l:List (Int×Nat)} {f:Nat→Pr} {S:Nat→Prop} (h:PrTab w tb mb l f) (t:Turn S w w') (hn:∀ k,TFoot tb mb l k→¬ S k):PrTab w' tb mb l f :=
 ⟨(t.cell (a:=⟨tb,0,none⟩) (lt_of_cell h.hdr) (hn tb (.inl rfl))).trans h.hdr,h.mp.turned t (hn mb (.inr (.inl rfl))),fun s hs => (h.pr s hs).turned t (hn s.2 (.inr (.inr (List.mem_map.2 ⟨s,hs,rfl⟩)))),h.inj,h.ap,h.ne⟩
theorem PrTab.foot_lt {w:World} {tb mb:Nat} {l:List (Int×Nat)} {f:Nat→Pr} (h:PrTab w tb mb l f) (k:Nat) (hk:TFoot tb mb l k):k < w.heap.size:=by
 rcases hk with rfl | rfl | hk
 ·exact lt_of_cell h.hdr
 ·exact h.mp.lt
 ·obtain ⟨s,hs,rfl⟩:=List.mem_map.1 hk
  exact (h.pr s hs).lt
def whereP (l:List (Int×Nat)) (pid:Int):Value:=(mget l pid).elim (.pointer none) ptr
theorem zeroP (w:World):(zeroValue 227).run Tryz.prog w=.ok (.pointer none) w:=by kernel_rfl
theorem lookup_pid {w:World} {mb:Nat} {l:List (Int×Nat)} (h:MapIs w mb (.int .i64) encI (fun b:Nat => Value.pointer (some ⟨b,0,none⟩)) l) (pid:Int):(Instr.lookup 230 (.map (some mb)) (.int .i64 pid) false).run Tryz.prog w=.ok (whereP l pid) w:=by
 have h1:=h.run_lookup keyI Tryz.underlying230 Tryz.underlying3 (zeroP w) pid false
 exact h1
def stR (l:List (Int×Nat)) (f:Nat→Pr) (pid:Int):Int:=(mget l pid).elim 0 fun b => (f b).state
theorem state_is {w:World} {tb mb:Nat} {l:List (Int×Nat)} {f:Nat→Pr} (h:PrTab w tb mb l f) (pid:Int) :
  Calls Tryz.prog 83 #[.pointer (some ⟨tb,0,none⟩),.int .i64 pid] w fun e w' => e=.returned (.int .i64 (stR l f pid))∧w=w':=by
 have hh:=h.hdr
 have lk:=lookup_pid h.mp pid
 unfold whereP at lk
 unfold stR
 cases e:mget l pid with
 | none =>
  rw [e] at lk
  simp only [Option.elim] at lk
  clear h e
  go_enter Tryz.func83,Tryz.ntmps83
  go_wp2_with fail
  go_ret
  exact ⟨rfl,rfl⟩
 | some b =>
  rw [e] at lk
  simp only [Option.elim,ptr] at lk
  have c1:=(h.pr _ (mem_of_mget e)).c1
  simp only at c1
  clear h e
  go_enter Tryz.func83,Tryz.ntmps83
  go_wp2_with fail
  go_ret
  exact ⟨rfl,rfl⟩
def RunsIn (l:List (Int×Nat)) (f:Nat→Pr) (pid:Int):Prop:=stR l f pid=1
theorem RunsIn.at_ {l:List (Int×Nat)} {f:Nat→Pr} {pid:Int} (h:RunsIn l f pid):∃ b,mget l pid=some b∧(f b).state=1:=by
 unfold RunsIn stR at h
 cases e:mget l pid with
 | none => rw [e] at h; cases h
 | some b => rw [e] at h; exact ⟨b,rfl,h⟩
theorem runs_yes {w:World} {tb mb:Nat} {l:List (Int×Nat)} {f:Nat→Pr} (h:PrTab w tb mb l f) (pid:Int) (hr:RunsIn l f pid) :
  Calls Tryz.prog 134 #[.pointer (some ⟨tb,0,none⟩),.int .i64 pid] w fun e w' => e=.returned .nilIface∧w=w':=by
 have hq:=state_is h pid
 unfold RunsIn at hr
 rw [hr] at hq
 have HQ:=hid hq
 clear h hr hq
 go_enter Tryz.func134,Tryz.ntmps134
 go_wp2_with fail
 refine HQ.out.mono ?_
 rintro e w' ⟨rfl,rfl⟩
 go_wp2_with fail
 go_ret
 exact ⟨rfl,rfl⟩
theorem runs_no {w:World} {tb mb:Nat} {l:List (Int×Nat)} {f:Nat→Pr} (h:PrTab w tb mb l f) (pid:Int) (hr:¬ RunsIn l f pid) :
  Calls Tryz.prog 134 #[.pointer (some ⟨tb,0,none⟩),.int .i64 pid] w fun e w' => e=.returned (.iface 36 (.int .i64 7))∧w=w':=by
 have HQ:=hid (state_is h pid)
 have hne:(stR l f pid != 1)=true:=bne_iff_ne.2 hr
 clear h hr
 go_enter Tryz.func134,Tryz.ntmps134
 go_wp2_with fail
 refine HQ.out.mono ?_
 rintro e w' ⟨rfl,rfl⟩
 go_wp2_with fail
 go_ret
 exact ⟨rfl,rfl⟩
theorem sig_yes (s:Int) (h1:1≤s) (h2:s≤8) (w:World):Calls Tryz.prog 143 #[.int .i64 s] w fun e w' => e=.returned (.bool true)∧w=w':=by
 go_enter Tryz.func143,Tryz.ntmps143
 go_wp2
 go_ret
 exact ⟨rfl,rfl⟩
theorem sig_no (s:Int) (h:¬ (1≤s∧s≤8)) (w:World):Calls Tryz.prog 143 #[.int .i64 s] w fun e w' => e=.returned (.bool false)∧w=w':=by
 by_cases h1:1≤s
 ·have h2:decide (s≤8)=false:=decide_eq_false (fun h2 => h ⟨h1,h2⟩)
  clear h
  go_enter Tryz.func143,Tryz.ntmps143
  go_wp2
  go_ret
  exact ⟨rfl,rfl⟩
 ·have h2:decide (1≤s)=false:=decide_eq_false h1
  clear h
  go_enter Tryz.func143,Tryz.ntmps143
  go_wp2
  go_ret
  exact ⟨rfl,rfl⟩
section
open Go.RowKit Go.MapKept
def init:Pr:=⟨0,1,0,0,0⟩
def NewTab (w:World) (e:Ending) (w':World):Prop :=
 ∃ tb mb b,e=.returned (.pointer (some ⟨tb,0,none⟩))∧PrTab w' tb mb [((1:Int),b)] (fun _ => init)∧Turn (fun _ => False) w w'∧∀ k,TFoot tb mb [((1:Int),b)] k→w.heap.size≤k
theorem proc_new (w:World):Calls Tryz.prog 51 #[] w (NewTab w):=by
 have hmm:=@run_makeMap Tryz.prog
 have HM:Hid (MapIs ((w.alloc (.map #[] 0)).alloc (.cells #[.int .i64 0,.int .i64 1,.int .i64 0,.int .i64 0,.int .i64 0] 229)) w.heap.size (.int .i64) encI (fun b:Nat => Value.pointer (some ⟨b,0,none⟩)) ([]:List (Int×Nat))):=hid ((MapIs.made w).turned ((Turn.refl (fun _ => False) _).alloc _) id)
 go_enter Tryz.func51,Tryz.ntmps51
 go_wp2_with (refine wpList_insput rfl _ _ _ 230 3 227 rfl Tryz.underlying230 Tryz.underlying3 keyI w.heap.size rfl HM.out 1 rfl (w.heap.size+1) rfl ?_; intro w1 hm1 t1; have HM1:=hid hm1; have HT1:=hid t1; clear hm1 t1)
 go_ret
 have hsz:(w.alloc (.map #[] 0)).heap.size=w.heap.size+1:=World.size_alloc _ _
 have hP:PrAt ((w.alloc (.map #[] 0)).alloc (.cells #[.int .i64 0,.int .i64 1,.int .i64 0,.int .i64 0,.int .i64 0] 229)) (w.heap.size+1) init:=by
  rw [← hsz]
  exact ⟨World.cell?_alloc_new _ _ _ _,World.cell?_alloc_new _ _ _ _,World.cell?_alloc_new _ _ _ _,World.cell?_alloc_new _ _ _ _,World.cell?_alloc_new _ _ _ _,fun i => by simp⟩
 have T2:Turn (fun _ => False) w1 (w1.alloc (.cells #[.map (some w.heap.size)] 232)):=(Turn.refl _ _).alloc _
 have hs1:=HT1.out.size
 simp only [World.size_alloc] at hs1
 refine ⟨w1.heap.size,w.heap.size,w.heap.size+1,rfl,⟨World.cell?_alloc_new _ _ _ _,HM1.out.turned T2 id,fun t ht => ?_,by simp,fun t ht => ?_,by omega⟩,?_,fun k hk => ?_⟩
 ·rw [List.mem_singleton.1 ht]
  exact (hP.turned HT1.out (by omega)).turned T2 id
 ·rw [List.mem_singleton.1 ht]
  exact ⟨by simp only; omega,by simp only; omega⟩
 ·exact (((Turn.refl (fun _ => False) w).alloc _).alloc _).trans' (HT1.out.trans (T2.mono fun _ _ h => h.elim)) (fun k hk e => by omega)
 ·rcases hk with rfl | rfl | hk
  ·omega
  ·omega
  ·simp at hk; omega
/-! ### bits: eight signals fit into a number below 512 -/
theorem bit_test:∀ (w:Fin 512) (s:Fin 9),(bits BinOp.and IntKind.i64 (((w.val:Nat):Int) / 2 ^ s.val) 1 == 0)=!(w.val.testBit s.val):=by decide +kernel
theorem bit_or:∀ (w:Fin 512) (s:Fin 9),bits BinOp.or IntKind.i64 ((w.val:Nat):Int) (2 ^ s.val)=((w.val ||| 2 ^ s.val:Nat):Int):=by decide +kernel
theorem bit_andNot:∀ (w:Fin 512) (s:Fin 9),bits BinOp.andNot IntKind.i64 ((w.val:Nat):Int) (2 ^ s.val)=((w.val &&& (511 ^^^ 2 ^ s.val):Nat):Int):=by decide +kernel
theorem wrap_bit:∀ s:Fin 9,IntKind.i64.wrap (2 ^ s.val)=2 ^ s.val:=by decide +kernel
theorem or_lt:∀ (w:Fin 512) (s:Fin 9),w.val ||| 2 ^ s.val < 512:=by decide +kernel
theorem andNot_lt:∀ (w:Fin 512) (s:Fin 9),w.val &&& (511 ^^^ 2 ^ s.val) < 512:=by decide +kernel
def updPr (f:Nat→Pr) (b:Nat) (p:Pr):Nat→Pr:=fun j => if j=b then p else f j
theorem updPr_same (f:Nat→Pr) (b:Nat) (p:Pr):updPr f b p b=p:=by simp [updPr]
theorem updPr_other (f:Nat→Pr) {b j:Nat} (p:Pr) (h:j≠b):updPr f b p j=f j:=by simp [updPr,h]
theorem PrTab.upd {w w':World} {tb mb:Nat} {l:List (Int×Nat)} {f:Nat→Pr} (h:PrTab w tb mb l f) {pid:Int} {b:Nat} (hb:(pid,b)∈l) (t:Turn (fun k => k=b) w w') {p:Pr} (hp:PrAt w' b p):PrTab w' tb mb l (updPr f b p):=by
 obtain ⟨a1,a2⟩:=h.ap _ hb
 simp only at a1 a2
 refine ⟨(t.cell (a:=⟨tb,0,none⟩) (lt_of_cell h.hdr) (fun e => a1 e.symm)).trans h.hdr,h.mp.turned t (fun e => a2 e.symm),fun s hs => ?_,h.inj,h.ap,h.ne⟩
 by_cases e:s.2=b
 ·rw [e,updPr_same]; exact hp
 ·rw [updPr_other _ _ e]; exact (h.pr s hs).turned t e
theorem PrAt.setWaits {w:World} {b:Nat} {p:Pr} (h:PrAt w b p) (v:Int):PrAt (w.setCell ⟨b,3,none⟩ (.int .i64 v)) b { p with waits:=v }:=by
 refine ⟨?_,?_,?_,World.cell?_setCell_same _ _ _ h.c3,?_,fun i => by rw [World.frozen?_setCell]; exact h.fz i⟩
 ·rw [World.cell?_setCell_other _ _ _ _ (by intro e; injection e with _ e; omega)]; exact h.c0
 ·rw [World.cell?_setCell_other _ _ _ _ (by intro e; injection e with _ e; omega)]; exact h.c1
 ·rw [World.cell?_setCell_other _ _ _ _ (by intro e; injection e with _ e; omega)]; exact h.c2
 ·rw [World.cell?_setCell_other _ _ _ _ (by intro e; injection e with _ e; omega)]; exact h.c4
theorem PrAt.drew {w:World} {b:Nat} {p:Pr} (h:PrAt w b p):PrAt w.drew b p:=⟨h.c0,h.c1,h.c2,h.c3,h.c4,h.fz⟩
theorem turn_setD (w:World) (b i:Nat) (v:Value):Turn (fun k => k=b) w (w.setCell ⟨b,i,none⟩ v).drew:=Turn.drew (Turn.setCell (S:=fun k => k=b) (Turn.refl _ _) ⟨b,i,none⟩ v (fun _ => rfl))
/-! ### Kill -/
def killR (W I s:Nat):Nat:=if I.testBit s then W else W ||| 2 ^ s
theorem kill_runs {w:World} {tb mb:Nat} {l:List (Int×Nat)} {f:Nat→Pr} (h:PrTab w tb mb l f) (pid:Int) (b s W I:Nat) (hr:RunsIn l f pid) (hb:mget l pid=some b) (h1:1≤s) (h8:s≤8)
  (hW:(f b).waits=W) (hI:(f b).ignores=I) (hW9:W < 512) (hI9:I < 512) :
  Calls Tryz.prog 63 #[.pointer (some ⟨tb,0,none⟩),.int .i64 pid,.int .i64 s] w fun e w' => e=.returned .nilIface∧PrTab w' tb mb l (updPr f b { f b with waits:=(killR W I s:Nat) })∧Turn (fun k => k=b) w w':=by
 have hm:=mem_of_mget hb
 have hp:=h.pr _ hm
 simp only at hp
 have HP:=hid hp
 have H:=hid h
 have HM:=hid hm
 have hh:=h.hdr
 have lk:=lookup_pid h.mp pid
 unfold whereP at lk
 rw [hb] at lk
 simp only [Option.elim,ptr] at lk
 have HR:=hid (runs_yes h pid hr)
 have c3:=hp.c3
 have c4:=hp.c4
 have f3:=hp.fz 3
 rw [hW] at c3
 rw [hI] at c4
 have HS:=hid (sig_yes s (by omega) (by omega))
 have bt:=bit_test ⟨I,hI9⟩ ⟨s,by omega⟩
 have bo:=bit_or ⟨W,hW9⟩ ⟨s,by omega⟩
 have wb:=wrap_bit ⟨s,by omega⟩
 simp only at bt bo wb
 have h1':(1:Int)≤s:=by omega
 have hs0:(0:Int)≤s:=by omega
 have hst:((s:Int)).toNat=s:=Int.toNat_natCast s
 have HW:=hid hW
 clear h hr hp hb hm hW hI
 cases hbit:I.testBit s with
 | true =>
  have hk:killR W I s=W:=by unfold killR; rw [if_pos hbit]
  have HK:=hid hk
  rw [hbit] at bt
  simp only [Bool.not_true] at bt
  clear hk hbit
  go_enter Tryz.func63,Tryz.ntmps63
  go_wp2_with fail
  refine (HS.out w).mono ?_
  rintro e w1 ⟨rfl,rfl⟩
  go_wp2_with fail
  refine HR.out.mono ?_
  rintro e w1 ⟨rfl,rfl⟩
  go_wp2_with fail
  all_goals go_ret
  all_goals exact ⟨rfl,H.out.upd HM.out (Turn.refl _ _) ⟨HP.out.c0,HP.out.c1,HP.out.c2,by rw [HK.out,← HW.out]; exact HP.out.c3,HP.out.c4,HP.out.fz⟩,Turn.refl _ _⟩
 | false =>
  have hk:killR W I s=W ||| 2 ^ s:=by unfold killR; rw [if_neg (by simp [hbit])]
  have HK:=hid hk
  rw [hbit] at bt
  simp only [Bool.not_false] at bt
  clear hk hbit
  go_enter Tryz.func63,Tryz.ntmps63
  go_wp2_with fail
  refine (HS.out w).mono ?_
  rintro e w1 ⟨rfl,rfl⟩
  go_wp2_with fail
  refine HR.out.mono ?_
  rintro e w1 ⟨rfl,rfl⟩
  go_wp2_with fail
  go_region
  all_goals go_wp2_with fail
  all_goals go_ret
  all_goals exact ⟨rfl,H.out.upd HM.out (turn_setD _ _ _ _) (by rw [HK.out]; exact (HP.out.setWaits _).drew),turn_setD _ _ _ _⟩
end
theorem kill_range {w:World} (tb:Nat) (pid s:Int) (h:¬ (1≤s∧s≤8)) :
  Calls Tryz.prog 63 #[.pointer (some ⟨tb,0,none⟩),.int .i64 pid,.int .i64 s] w fun e w' => e=.returned (.iface 36 (.int .i64 2))∧w=w':=by
 have HS:=hid (sig_no s h)
 clear h
 go_enter Tryz.func63,Tryz.ntmps63
 go_wp2_with fail
 refine (HS.out w).mono ?_
 rintro e w1 ⟨rfl,rfl⟩
 go_wp2_with fail
 go_ret
 exact ⟨rfl,rfl⟩
theorem kill_missing {w:World} {tb mb:Nat} {l:List (Int×Nat)} {f:Nat→Pr} (h:PrTab w tb mb l f) (pid s:Int) (hr:¬ RunsIn l f pid) (h1:1≤s) (h8:s≤8) :
  Calls Tryz.prog 63 #[.pointer (some ⟨tb,0,none⟩),.int .i64 pid,.int .i64 s] w fun e w' => e=.returned (.iface 36 (.int .i64 7))∧w=w':=by
 have HS:=hid (sig_yes s h1 h8)
 have HR:=hid (runs_no h pid hr)
 clear h hr
 go_enter Tryz.func63,Tryz.ntmps63
 go_wp2_with fail
 refine (HS.out w).mono ?_
 rintro e w1 ⟨rfl,rfl⟩
 go_wp2_with fail
 refine HR.out.mono ?_
 rintro e w1 ⟨rfl,rfl⟩
 go_wp2_with fail
 go_ret
 exact ⟨rfl,rfl⟩
def offR (W s:Nat):Nat:=W &&& (511 ^^^ 2 ^ s)
theorem offR_lt {W s:Nat} (h:W < 512) (hs:s≤8):offR W s < 512:=andNot_lt ⟨W,h⟩ ⟨s,by omega⟩
def LeastSig (W r:Nat):Prop:=(1≤r∧r≤8∧W.testBit r=true∧∀ i,1≤i→i < r→W.testBit i=false)∨(r=0∧∀ i,1≤i→i≤8→W.testBit i=false)
def takenR (p:Pr) (W r:Nat):Pr:=if r=0 then p else { p with waits:=(offR W r:Nat) }
theorem bit_one:∀ (w:Fin 512) (s:Fin 9),(bits BinOp.and IntKind.i64 (((w.val:Nat):Int) / 2 ^ s.val) 1 == 1)=w.val.testBit s.val:=by decide +kernel
theorem take_runs {w:World} {tb mb:Nat} {l:List (Int×Nat)} {f:Nat→Pr} (h:PrTab w tb mb l f) (pid:Int) (b W:Nat) (hr:RunsIn l f pid) (hb:mget l pid=some b)
  (hW:(f b).waits=W) (hW9:W < 512) :
  Calls Tryz.prog 97 #[.pointer (some ⟨tb,0,none⟩),.int .i64 pid] w fun e w' => ∃ r,LeastSig W r∧e=.returned (.int .i64 (r:Nat))∧PrTab w' tb mb l (updPr f b (takenR (f b) W r))∧Turn (fun k => k=b) w w':=by
 have hm:=mem_of_mget hb
 have hp:=h.pr _ hm
 simp only at hp
 have HP:=hid hp
 have H:=hid h
 have HM:=hid hm
 have hh:=h.hdr
 have lk:=lookup_pid h.mp pid
 unfold whereP at lk
 rw [hb] at lk
 simp only [Option.elim,ptr] at lk
 have HR:=hid (runs_yes h pid hr)
 have c3:=hp.c3
 have f3:=hp.fz 3
 rw [hW] at c3
 have HW:=hid hW
 clear h hr hp hb hm hW
 go_enter Tryz.func97,Tryz.ntmps97
 go_wp2_with fail
 refine HR.out.mono ?_
 rintro e w1 ⟨rfl,rfl⟩
 go_wp2_with fail
 go_loopg [6] 8 (fun g sv wr => ∃ s:Nat,s+g=9∧1≤s∧sv=.int .i64 s∧Hid (∀ i,1≤i→i < s→W.testBit i=false)∧wr=w)
 case atStart => exact ⟨1,by omega,by omega,rfl,hid (fun i h1 h2 => absurd h1 (by omega)),rfl⟩
 case round =>
  obtain ⟨s,hsg,hs1,rfl,hno,rfl⟩:=hrel
  by_cases hs9:s < 9
  ·have hs8':(s:Int)≤8:=by omega
   have b1:=bit_one ⟨W,hW9⟩ ⟨s,by omega⟩
   have bw:=bit_andNot ⟨W,hW9⟩ ⟨s,by omega⟩
   have wb:=wrap_bit ⟨s,by omega⟩
   simp only at b1 bw wb
   have hs0:(0:Int)≤s:=by omega
   have hst:((s:Int)).toNat=s:=Int.toNat_natCast s
   cases hbit:W.testBit s with
   | true =>
    have HB:=hid hbit
    rw [hbit] at b1
    clear hbit
    go_wp2_with fail
    go_region
    all_goals go_wp2_with fail
    all_goals go_ret
    all_goals exact ⟨s,.inl ⟨hs1,by omega,HB.out,hno.out⟩,rfl,H.out.upd HM.out (turn_setD _ _ _ _) (by unfold takenR; rw [if_neg (by omega)]; exact (HP.out.setWaits _).drew),turn_setD _ _ _ _⟩
   | false =>
    have HB:=hid hbit
    rw [hbit] at b1
    clear hbit
    go_wp2_with fail
    go_roundg (gk - 1)
    case measure => omega
    case rel =>
     refine ⟨s+1,by omega,by omega,by go_num,hid (fun i h1 h2 => ?_),rfl⟩
     by_cases e:i=s
     ·rw [e]; exact HB.out
     ·exact hno.out i h1 (by omega)
  ·have hs8':¬ (s:Int)≤8:=by omega
   go_wp2_with fail
   go_ret
   exact ⟨0,.inr ⟨rfl,fun i h1 h2 => hno.out i h1 (by omega)⟩,rfl,H.out.upd HM.out (Turn.refl _ _) HP.out,Turn.refl _ _⟩
section
variable {κ β:Type} [DecidableEq κ] {d:TypeDesc} {enc:κ→Value} {val:β→Value} {w:World} {m:List (κ×β)} {P:Program}
variable {ops:Array Oper} {o:Oper} {a:Act} {K:Act→World→Prop} {Q:Exit→Act→World→Prop} {E:Prop}
end
theorem keys_fill:∀ (k:Nat) (l:List (Int×Nat)),MNodup l→(∀ i:Int,1≤i→i≤k→(mget l i).isSome=true)→k≤l.length
 | 0,l,_,_ => Nat.zero_le _
 | k+1,l,hn,h => by
  obtain ⟨v,hv⟩:=Option.isSome_iff_exists.1 (h ((k+1:Nat):Int) (by omega) (by omega))
  have h1:=mdel_length hn hv
  have h2:=keys_fill k (mdel l ((k+1:Nat):Int)) (mdel_nodup hn _) (fun i h1 h2 => by
   rw [mget_mdel,if_neg (by omega)]
   exact h i h1 (by omega))
  omega
theorem mput_new {l:List (Int×Nat)} {k:Int} {b:Nat} (h:mget l k=none):mput l k b=l ++ [(k,b)]:=by
 unfold mput
 rw [if_neg (by rw [h]; simp)]
def Forked (tb mb:Nat) (l:List (Int×Nat)) (f:Nat→Pr) (pid:Int) (b:Nat) (w:World) (e:Ending) (w':World):Prop :=
 ∃ (k nb:Nat),1≤k∧k≤24∧mget l (k:Int)=none∧(∀ i:Int,1≤i→i < k→(mget l i).isSome=true)∧e=.returned (.tuple #[.int .i64 k,.nilIface])∧w.heap.size≤nb ∧
  PrTab w' tb mb (l ++ [((k:Int),nb)]) (updPr f nb ⟨pid,1,0,0,(f b).ignores⟩)∧Turn (fun j => j=mb) w w'
theorem fork_full {w:World} {tb mb:Nat} {l:List (Int×Nat)} {f:Nat→Pr} (h:PrTab w tb mb l f) (pid:Int) (hr:RunsIn l f pid) (hl:24≤l.length) :
  Calls Tryz.prog 56 #[.pointer (some ⟨tb,0,none⟩),.int .i64 pid] w fun e w' => e=.returned (.tuple #[.int .i64 0,.iface 36 (.int .i64 12)])∧w=w':=by
 have HR:=hid (runs_yes h pid hr)
 have HMp:=hid h.mp
 have hh:=h.hdr
 have hl':(24:Int)≤l.length:=by omega
 clear h hr
 go_enter Tryz.func56,Tryz.ntmps56
 go_wp2_with fail
 refine HR.out.mono ?_
 rintro e w1 ⟨rfl,rfl⟩
 go_wp2_with (at_len; refine wpList_maplen rfl _ 230 3 227 rfl Tryz.underlying230 mb rfl HMp.out ?_)
 go_ret2
 exact ⟨rfl,rfl⟩
theorem fork_runs {w:World} {tb mb:Nat} {l:List (Int×Nat)} {f:Nat→Pr} (h:PrTab w tb mb l f) (pid:Int) (b:Nat) (hr:RunsIn l f pid) (hb:mget l pid=some b) (hl:l.length < 24) :
  Calls Tryz.prog 56 #[.pointer (some ⟨tb,0,none⟩),.int .i64 pid] w (Forked tb mb l f pid b w):=by
 have H:=hid h
 have hp:=h.pr _ (mem_of_mget hb)
 simp only at hp
 have HR:=hid (runs_yes h pid hr)
 have HMp:=hid h.mp
 have hh:=h.hdr
 have lk:=lookup_pid h.mp pid
 unfold whereP at lk
 rw [hb] at lk
 simp only [Option.elim,ptr] at lk
 have c4:=hp.c4
 have hl':¬ (24:Int)≤l.length:=by omega
 have HLk:=hid (fun k:Nat => lookup_pid h.mp (k:Int))
 have HLd:Hid ((Instr.lookup 230 (.map (some mb)) (.int .i64 pid) false).run Tryz.prog w.drew=.ok (.pointer (some ⟨b,0,none⟩)) w.drew):=hid (by
  have:=lookup_pid (w:=w.drew) (h.mp.turned ((Turn.refl (fun _ => False) w).drew) id) pid
  unfold whereP at this
  rw [hb] at this
  exact this)
 clear h hr hp
 go_enter Tryz.func56,Tryz.ntmps56
 go_wp2_with fail
 refine HR.out.mono ?_
 rintro e w1 ⟨rfl,rfl⟩
 go_wp2_with (at_len; refine wpList_maplen rfl _ 230 3 227 rfl Tryz.underlying230 mb rfl HMp.out ?_)
 go_loopg [7] 24 (fun g kv wr => ∃ k:Nat,1≤k∧k+g=25∧kv=.int .i64 k∧Hid (∀ i:Int,1≤i→i < k→(mget l i).isSome=true)∧wr=w)
 case atStart => exact ⟨1,by omega,by omega,rfl,hid (fun i h1 h2 => absurd h2 (by omega)),rfl⟩
 case round =>
  obtain ⟨k,hk1,hkg,rfl,hks,rfl⟩:=hrel
  have lk2:=HLk.out k
  unfold whereP at lk2
  cases e:mget l (k:Int) with
  | some b2 =>
   rw [e] at lk2
   simp only [Option.elim,ptr] at lk2
   have HE:=hid e
   clear e
   have hall:∀ i:Int,1≤i→i≤k→(mget l i).isSome=true:=fun i h1 h2 => by
    by_cases e:i=k
    ·rw [e,HE.out]; rfl
    ·exact hks.out i h1 (by omega)
   have hle:=keys_fill k l HMp.out.nodup hall
   have HAll:=hid hall
   clear hall
   go_wp2_with fail
   go_roundg (gk - 1)
   case measure => omega
   case rel => exact ⟨k+1,by omega,by omega,by go_num,hid (fun i h1 h2 => HAll.out i h1 (by omega)),rfl⟩
  | none =>
   rw [e] at lk2
   simp only [Option.elim] at lk2
   have HE:=hid e
   clear e
   have hle:k - 1≤l.length:=keys_fill (k - 1) l HMp.out.nodup (fun i h1 h2 => hks.out i h1 (by omega))
   have T1:Turn (fun _ => False) wr (wr.alloc (.cells #[.int .i64 pid,.int .i64 1,.int .i64 0,.int .i64 0,.int .i64 (f b).ignores] 229)).drew:=((Turn.refl _ _).alloc _).drew
   have HT1:=hid T1
   have HM2:=hid (HMp.out.turned T1 id)
   have HP2:Hid (PrAt (wr.alloc (.cells #[.int .i64 pid,.int .i64 1,.int .i64 0,.int .i64 0,.int .i64 (f b).ignores] 229)).drew wr.heap.size ⟨pid,1,0,0,(f b).ignores⟩):=hid (PrAt.drew ⟨World.cell?_alloc_new _ _ _ _,World.cell?_alloc_new _ _ _ _,World.cell?_alloc_new _ _ _ _,World.cell?_alloc_new _ _ _ _,World.cell?_alloc_new _ _ _ _,fun i => by simp⟩)
   clear T1
   go_wp2_with fail
   have lkd:=HLd.out
   obtain ⟨w3,hrun,hm3,t3⟩:=HM2.out.run_update keyI Tryz.underlying230 Tryz.underlying3 (k:Int) wr.heap.size
   have HM3:=hid hm3
   have HT3:=hid t3
   clear hm3 t3
   simp only [encI] at hrun
   have htl:tb < wr.heap.size:=lt_of_cell hh
   go_region
   all_goals go_wp2_with fail
   all_goals go_ret2
   all_goals
    have hmlt:=HMp.out.lt
    have hnl:∀ t∈l,t.2 < wr.heap.size:=fun t ht => (H.out.pr t ht).lt
    have T13:=(HT1.out.mono (S':=fun j => j=mb) fun _ _ h => h.elim).trans HT3.out
    refine ⟨k,wr.heap.size,hk1,by omega,HE.out,hks.out,rfl,Nat.le_refl _,⟨?_,?_,fun t ht => ?_,?_,fun t ht => ?_,H.out.ne⟩,T13⟩
    ·exact (T13.cell (a:=⟨tb,0,none⟩) (lt_of_cell H.out.hdr) (by have:=H.out.ne; exact this)).trans H.out.hdr
    ·rw [← mput_new HE.out]; exact HM3.out
    ·rcases List.mem_append.1 ht with h1 | h1
     ·rw [updPr_other _ _ (by have:=hnl t h1; omega)]
      exact (H.out.pr t h1).turned T13 (H.out.ap t h1).2
     ·rw [List.mem_singleton.1 h1,updPr_same]
      exact HP2.out.turned HT3.out (by omega)
    ·rw [List.map_append,List.nodup_append]
     refine ⟨H.out.inj,by simp,fun x hx y hy e => ?_⟩
     obtain ⟨t,ht,rfl⟩:=List.mem_map.1 hx
     have h1:=hnl t ht
     simp at hy
     omega
    ·rcases List.mem_append.1 ht with h1 | h1
     ·exact H.out.ap t h1
     ·rw [List.mem_singleton.1 h1]
      have h2:=lt_of_cell H.out.hdr
      exact ⟨by simp only at h2 ⊢; omega,by simp only; omega⟩
theorem PrTab.congr {w:World} {tb mb:Nat} {l:List (Int×Nat)} {f g:Nat→Pr} (h:PrTab w tb mb l f) (e:∀ t∈l,f t.2=g t.2):PrTab w tb mb l g :=
 ⟨h.hdr,h.mp,fun t ht => by rw [← e t ht]; exact h.pr t ht,h.inj,h.ap,h.ne⟩
theorem PrAt.set0 {w:World} {b:Nat} {p:Pr} (h:PrAt w b p) (v:Int):PrAt (w.setCell ⟨b,0,none⟩ (.int .i64 v)) b { p with parent:=v }:=by
 refine ⟨World.cell?_setCell_same _ _ _ h.c0,?_,?_,?_,?_,fun i => by rw [World.frozen?_setCell]; exact h.fz i⟩
 ·rw [World.cell?_setCell_other _ _ _ _ (by intro e; injection e with _ e; omega)]; exact h.c1
 ·rw [World.cell?_setCell_other _ _ _ _ (by intro e; injection e with _ e; omega)]; exact h.c2
 ·rw [World.cell?_setCell_other _ _ _ _ (by intro e; injection e with _ e; omega)]; exact h.c3
 ·rw [World.cell?_setCell_other _ _ _ _ (by intro e; injection e with _ e; omega)]; exact h.c4
theorem PrAt.set1 {w:World} {b:Nat} {p:Pr} (h:PrAt w b p) (v:Int):PrAt (w.setCell ⟨b,1,none⟩ (.int .i64 v)) b { p with state:=v }:=by
 refine ⟨?_,World.cell?_setCell_same _ _ _ h.c1,?_,?_,?_,fun i => by rw [World.frozen?_setCell]; exact h.fz i⟩
 ·rw [World.cell?_setCell_other _ _ _ _ (by intro e; injection e with _ e; omega)]; exact h.c0
 ·rw [World.cell?_setCell_other _ _ _ _ (by intro e; injection e with _ e; omega)]; exact h.c2
 ·rw [World.cell?_setCell_other _ _ _ _ (by intro e; injection e with _ e; omega)]; exact h.c3
 ·rw [World.cell?_setCell_other _ _ _ _ (by intro e; injection e with _ e; omega)]; exact h.c4
theorem PrAt.set2 {w:World} {b:Nat} {p:Pr} (h:PrAt w b p) (v:Int):PrAt (w.setCell ⟨b,2,none⟩ (.int .i64 v)) b { p with code:=v }:=by
 refine ⟨?_,?_,World.cell?_setCell_same _ _ _ h.c2,?_,?_,fun i => by rw [World.frozen?_setCell]; exact h.fz i⟩
 ·rw [World.cell?_setCell_other _ _ _ _ (by intro e; injection e with _ e; omega)]; exact h.c0
 ·rw [World.cell?_setCell_other _ _ _ _ (by intro e; injection e with _ e; omega)]; exact h.c1
 ·rw [World.cell?_setCell_other _ _ _ _ (by intro e; injection e with _ e; omega)]; exact h.c3
 ·rw [World.cell?_setCell_other _ _ _ _ (by intro e; injection e with _ e; omega)]; exact h.c4
theorem exit_one {w:World} {tb mb:Nat} {l:List (Int×Nat)} {f:Nat→Pr} (h:PrTab w tb mb l f) (c:Int) (hr:RunsIn l f 1) :
  Calls Tryz.prog 66 #[.pointer (some ⟨tb,0,none⟩),.int .i64 1,.int .i64 c] w fun e w' => e=.returned (.iface 36 (.int .i64 6))∧w=w':=by
 have HR:=hid (runs_yes h 1 hr)
 clear h hr
 go_enter Tryz.func66,Tryz.ntmps66
 go_wp2_with fail
 refine HR.out.mono ?_
 rintro e w1 ⟨rfl,rfl⟩
 go_wp2_with fail
 go_ret
 exact ⟨rfl,rfl⟩
theorem turn_one (w:World) (b i:Nat) (v:Value):Turn (fun k => k=b) w (w.setCell ⟨b,i,none⟩ v):=Turn.setCell (S:=fun k => k=b) (Turn.refl _ _) ⟨b,i,none⟩ v (fun _ => rfl)
theorem turn_three (w:World) (b:Nat) (x y z:Value):Turn (fun k => k=b) w (((w.setCell ⟨b,1,none⟩ x).setCell ⟨b,2,none⟩ y).setCell ⟨b,3,none⟩ z):=((turn_one w b 1 x).trans (turn_one _ b 2 y)).trans (turn_one _ b 3 z)
def deadP (p:Pr) (c:Int):Pr:=⟨p.parent,2,c,0,p.ignores⟩
def reparent (pid:Int) (p:Pr):Pr:=if p.parent=pid then { p with parent:=1 } else p
def exitF (f:Nat→Pr) (b:Nat) (pid c:Int):Nat→Pr:=fun j => reparent pid (updPr f b (deadP (f b) c) j)
theorem exit_runs {w:World} {tb mb:Nat} {l:List (Int×Nat)} {f:Nat→Pr} (h:PrTab w tb mb l f) (pid c:Int) (b:Nat) (hr:RunsIn l f pid) (hb:mget l pid=some b) (h1:pid≠1) :
  Calls Tryz.prog 66 #[.pointer (some ⟨tb,0,none⟩),.int .i64 pid,.int .i64 c] w fun e w' => e=.returned .nilIface∧PrTab w' tb mb l (exitF f b pid c)∧Turn (fun k => k∈l.map (·.2)) w w':=by
 have hm:=mem_of_mget hb
 have hp:=h.pr _ hm
 simp only at hp
 have HR:=hid (runs_yes h pid hr)
 have hh:=h.hdr
 have lk:=lookup_pid h.mp pid
 unfold whereP at lk
 rw [hb] at lk
 simp only [Option.elim,ptr] at lk
 have hne:(pid == 1)=false:=by simp [h1]
 have c1:=hp.c1
 have c2:=hp.c2
 have c3:=hp.c3
 have f1:=hp.fz 1
 have f2:=hp.fz 2
 have f3:=hp.fz 3
 have T1:Turn (fun k => k=b) w (((w.setCell ⟨b,1,none⟩ (.int .i64 2)).setCell ⟨b,2,none⟩ (.int .i64 c)).setCell ⟨b,3,none⟩ (.int .i64 0)):=turn_three w b _ _ _
 have HTab:Hid (PrTab (((w.setCell ⟨b,1,none⟩ (.int .i64 2)).setCell ⟨b,2,none⟩ (.int .i64 c)).setCell ⟨b,3,none⟩ (.int .i64 0)) tb mb l (updPr f b (deadP (f b) c))):=hid (h.upd hm T1 (((hp.set1 2).set2 c).setWaits 0))
 have HT1:Hid (Turn (fun k => k∈l.map (·.2)) w (((w.setCell ⟨b,1,none⟩ (.int .i64 2)).setCell ⟨b,2,none⟩ (.int .i64 c)).setCell ⟨b,3,none⟩ (.int .i64 0))):=hid (T1.mono (fun k _ e => by subst e; exact List.mem_map.2 ⟨_,hm,rfl⟩))
 have hbl:b < w.heap.size:=hp.lt
 have hh1:=HTab.out.hdr
 clear h hr hb hm hp T1
 go_enter Tryz.func66,Tryz.ntmps66
 go_wp2_with fail
 refine HR.out.mono ?_
 rintro e w1 ⟨rfl,rfl⟩
 go_upto_region 8 with fail
 clear c1 c2 c3 f1 f2 f3 lk hh HR
 generalize ((w.setCell ⟨b,1,none⟩ (.int .i64 2)).setCell ⟨b,2,none⟩ (.int .i64 c)).setCell ⟨b,3,none⟩ (.int .i64 0)=W1 at *
 obtain ⟨F1,hF1⟩:∃ F1,updPr f b (deadP (f b) c)=F1:=⟨_,rfl⟩
 rw [hF1] at HTab
 have HF1:=hid hF1
 clear hF1
 go_wp2_with (at_range; refine wpList_maprange rfl _ _ 3 227 rfl Tryz.underlying230 rfl HTab.out.mp ?_; intro w2 hR2 t2 hs2; have HR2:=hid hR2; have HT2:=hid t2; clear hR2 t2 hs2)
 obtain ⟨r,hrr⟩:∃ r,W1.heap.size=r:=⟨_,rfl⟩
 rw [hrr] at HR2
 rw [hrr]
 have HTab2:=hid (HTab.out.turned HT2.out (fun _ _ => id))
 have HT12:=hid (HT1.out.trans (HT2.out.mono fun _ _ h => h.elim))
 have HRF:Hid (∀ k,TFoot tb mb l k→¬ k=r):=hid (fun k hk e => by have:=HTab.out.foot_lt k hk; omega)
 have HWr:Hid (w.heap.size≤r):=hid (by rw [← hrr]; exact HT1.out.size)
 clear HT1 HT2 HTab hrr hh1
 go_frame
 go_loopg [10] (l.length) (fun g _ wr => ∃ (seenK:Int→Prop) (F:Nat→Pr),Hid (RangeOf wr mb r encI (fun b:Nat => Value.pointer (some ⟨b,0,none⟩)) l seenK g)∧Hid (PrTab wr tb mb l F)∧Hid (∀ t∈l,(seenK t.1→F t.2=reparent pid (F1 t.2))∧(¬ seenK t.1→F t.2=F1 t.2))∧Hid (Turn (fun k => k∈l.map (·.2)) w wr))
 case atStart => exact ⟨_,_,HR2,HTab2,hid (fun t ht => ⟨fun h => h.elim,fun _ => rfl⟩),HT12⟩
 case round =>
  clear HR2 HTab2 HT12
  obtain ⟨seenK,F,hR,hTab,hF,hT⟩:=hrel
  go_wp2_with (at_next; refine wpList_mapnext rfl _ rfl rfl hR.out ?_ ?_)
  ·intro hall
   have HAll:=hid hall
   clear hall
   go_wp2_with fail
   go_ret
   refine ⟨rfl,hTab.out.congr (fun t ht => ?_),hT.out⟩
   rw [(hF.out t ht).1 (HAll.out t.1 t.2 ht),← HF1.out]
   rfl
  ·intro k bq w5 cnt' hpm hns hR5 hlt5 t5 hsz5 hen
   (try simp only at hns hen)
   have T5:=t5
   have hbF:bq∈l.map (·.2):=List.mem_map.2 ⟨_,hpm,rfl⟩
   have HTab5:=hid (hTab.out.turned t5 (fun k hk e => HRF.out k hk e))
   have hpq:=HTab5.out.pr _ hpm
   simp only at hpq
   have hFq:F bq=F1 bq:=(hF.out _ hpm).2 hns
   have c0:=hpq.c0
   have f0:=hpq.fz 0
   rw [hFq] at c0
   have HPq:=hid hpq
   have HFq:=hid hFq
   have HPm:=hid hpm
   have HNs:=hid hns
   have HR5:=hid hR5
   have HT5:=hid (hT.out.trans' t5 (fun k hk e => absurd e (by have:=HWr.out; omega)))
   have HbF:=hid hbF
   have hinj:∀ t∈l,t.2=bq→t.1=k:=fun t ht e => by
    have h1:=List.getElem?_of_mem ht
    have h2:=List.getElem?_of_mem hpm
    obtain ⟨i,hi⟩:=h1
    obtain ⟨j,hj⟩:=h2
    have h3:(l.map (·.2))[i]?=some bq:=by rw [List.getElem?_map,hi]; simp [e]
    have h4:(l.map (·.2))[j]?=some bq:=by rw [List.getElem?_map,hj]; rfl
    have:=(List.getElem?_inj (List.getElem?_eq_some_iff.1 h3).1 hTab.out.inj).1 (h3.trans h4.symm)
    subst this
    rw [hi] at hj
    cases hj; rfl
   have HInj:=hid hinj
   clear hpm hns hR5 t5 T5 hpq hFq hbF hinj
   by_cases hpar:(F1 bq).parent=pid
   ·have hpe:((F1 bq).parent == pid)=true:=by simp [hpar]
    have HPar:=hid hpar
    clear hpar
    go_wp2_with fail
    go_roundg cnt'
    case measure => omega
    case rel =>
     have T6:Turn (fun j => j=bq) w5 (w5.setCell ⟨bq,0,none⟩ (.int .i64 1)):=turn_one _ _ _ _
     have hap:=hTab.out.ap _ HPm.out
     refine ⟨_,updPr F bq { F bq with parent:=1 },hid (HR5.out.turned T6 (fun e => hap.2 e.symm) (fun e => HRF.out bq (.inr (.inr HbF.out)) e.symm)),hid (HTab5.out.upd HPm.out T6 (HPq.out.set0 1)),hid (fun t ht => ?_),hid (HT5.out.trans' T6 (fun k _ e => by subst e; exact HbF.out))⟩
     by_cases e:t.2=bq
     ·have e1:=HInj.out t ht e
      refine ⟨fun _ => ?_,fun h => absurd (.inr e1) h⟩
      rw [e,updPr_same,HFq.out]
      unfold reparent
      rw [if_pos HPar.out]
     ·rw [updPr_other _ _ e]
      refine ⟨fun h => (hF.out t ht).1 (h.resolve_right (fun e1 => e ?_)),fun h => (hF.out t ht).2 (fun hs => h (.inl hs))⟩
      have h1:=mget_mem hTab.out.mp.nodup ht
      have h2:=mget_mem hTab.out.mp.nodup HPm.out
      (try simp only at e1)
      rw [e1] at h1
      exact Option.some.inj (h1.symm.trans h2)
   ·have hpe:((F1 bq).parent == pid)=false:=by simp [hpar]
    have HPar:=hid hpar
    clear hpar
    go_wp2_with fail
    go_roundg cnt'
    case measure => omega
    case rel =>
     refine ⟨_,F,HR5,HTab5,hid (fun t ht => ?_),HT5⟩
     by_cases e:t.2=bq
     ·have e1:=HInj.out t ht e
      refine ⟨fun _ => ?_,fun h => absurd (.inr e1) h⟩
      rw [e,HFq.out]
      unfold reparent
      rw [if_neg HPar.out]
     ·refine ⟨fun h => (hF.out t ht).1 (h.resolve_right (fun e1 => e ?_)),fun h => (hF.out t ht).2 (fun hs => h (.inl hs))⟩
      have h1:=mget_mem hTab.out.mp.nodup ht
      have h2:=mget_mem hTab.out.mp.nodup HPm.out
      (try simp only at e1)
      rw [e1] at h1
      exact Option.some.inj (h1.symm.trans h2)
end Go.Proofs.YtamleilijmgoeaaGreatDoor
