/- What a call turns: base notions for all walks of this seat, with no program in sight. 'Turn S w w1': of the blocks that were there in w only those in S may have turned. No condition. Slices of ints that a program owns: Index, Contains, Min of package slices. Conditions: each theorem's own premises. IndexFunc and DeleteFunc of package slices at ints, over a function value that only reads. Conditions: each theorem's own premises. Maps in memory, as association lists: what look-up, store, delete, len and a fresh map do. No program in sight. Conditions: each theorem's own premises. An append to what the call itself owns, as one step of a region that draws its order; small general steps. Conditions: each theorem's own premises. An append to a slice in a block of its own, told where the new slice lies: in the same block, or in a new one. Conditions: each theorem's own premises. An append of one int to a slice of ints in a block of its own. Conditions: each theorem's own premises. A range over a map in memory (Maps.lean's 'MapIs'): each entry comes once, in an order that is drawn. No program in sight. Conditions: each theorem's own premises. errors.As at the target *api.Errno: of nil; of an api.Errno. Turned from the worked example Toyas. Condition: the variable errors.errorType holds what is laid. api.Tell: of nil; of an api.Errno. Condition: the variable errors.errorType holds what is laid ('Laid'). A store at a key that is there, into a map that is ranged over: the range goes on as it was. No program in sight. Conditions: each theorem's own premises. A map literal's insert in a walk. No program in sight. Conditions: each theorem's own premises. IndexFunc and DeleteFunc of package slices at ints, over a function value that only reads, asked at the list's own numbers alone. Conditions: each theorem's own premises. The contracts of package acct: a ledger lies in one block: how much there is of three kinds, and how much may be. Conditions: each theorem's own premises. The contract of acct's Charge: all or nothing. Conditions: the ledger within bounds; what is asked lies in memory. A slice of one-cell values in a block of its own: shape, cells, append. No program in sight. Conditions: each theorem's own premises. errors.As at the target *api.Errno, of an *api.At: one Unwrap, then the api.Errno in it. Condition: the variable errors.errorType holds what is laid; the At lies in memory. Package oom: who goes. The contracts of score, of the order, of MaxFunc over it, and of Victim. Conditions: each theorem's own premises. slices.MaxFunc over candidates, and oom.Victim. Conditions: each theorem's own premises. The law's own 'pick': a number from 0 to below n. Condition: n is from 1 to 10^6. -/
import Derived.WalkKit
import Derived.WalkSpells
import Derived.WalkLawsBesides
import Derived.Deep.MidRow
import Derived.Test.YtamleilijmgoeaaGreatDoorProg
import Derived.BigRegion
import Derived.Lib.SliceRun
import Derived.Shelf.Abstract
import Derived.MapKept
import Derived.Maps.OwnSet
import Derived.Maps.RangeWalk
import Derived.Deep.RegionLaw
import Derived.ArgAppend
import Derived.Maps.RangeRun
import Derived.Test.YtamleilijmgoeaaGreatDoorChecked
import Derived.LaidEql
import Derived.Stop.Asserts
import Derived.RowKitTokens
import Derived.Deep.QuietTactic
import Derived.BigQuiet
import Derived.Outline
import Derived.Deep.RegionHeld3
namespace Go.Proofs.YtamleilijmgoeaaGreatDoor
open Go.RowKit
set_option linter.unusedVariables false
set_option maxHeartbeats 8000000
set_option maxRecDepth 100000
structure Turn (S:Nat→Prop) (w w':World):Prop where
  os:w'.os=w.os
  tape:w'.tape=w.tape
  output:w'.output=w.output
  size:w.heap.size≤w'.heap.size
  block:∀ k,k < w.heap.size→¬ S k→w'.heap[k]?=w.heap[k]?
namespace Turn
variable {S:Nat→Prop} {w w1 w2:World}
theorem refl (S:Nat→Prop) (w:World):Turn S w w:=⟨rfl,rfl,rfl,Nat.le_refl _,fun _ _ _ => rfl⟩
theorem mono {S':Nat→Prop} (h:Turn S w w1) (hs:∀ k,k < w.heap.size→S k→S' k):Turn S' w w1 :=
  ⟨h.os,h.tape,h.output,h.size,fun k hk hn => h.block k hk (fun s => hn (hs k hk s))⟩
theorem trans (h:Turn S w w1) (g:Turn S w1 w2):Turn S w w2 :=
  ⟨g.os.trans h.os,g.tape.trans h.tape,g.output.trans h.output,Nat.le_trans h.size g.size,
   fun k hk hn => (g.block k (Nat.lt_of_lt_of_le hk h.size) hn).trans (h.block k hk hn)⟩
theorem trans' {S':Nat→Prop} (h:Turn S w w1) (g:Turn S' w1 w2) (hs:∀ k,k < w.heap.size→S' k→S k):Turn S w w2 :=
  ⟨g.os.trans h.os,g.tape.trans h.tape,g.output.trans h.output,Nat.le_trans h.size g.size,
   fun k hk hn => (g.block k (Nat.lt_of_lt_of_le hk h.size) (fun s => hn (hs k hk s))).trans (h.block k hk hn)⟩
theorem drew (h:Turn S w w1):Turn S w w1.drew:=⟨h.os,h.tape,h.output,h.size,h.block⟩
theorem drewN (h:Turn S w w1) (n:Nat):Turn S w (w1.drewN n):=⟨h.os,h.tape,h.output,h.size,h.block⟩
theorem alloc (h:Turn S w w1) (o:Obj):Turn S w (w1.alloc o) :=
  h.trans ⟨rfl,rfl,rfl,by simp,fun k hk _ => Below.heap_alloc _ _ _ hk⟩
theorem setCell (h:Turn S w w1) (a:Addr) (v:Value) (hS:a.block < w.heap.size→S a.block):Turn S w (w1.setCell a v) :=
  h.trans' (S':=fun k => k=a.block) ⟨rfl,rfl,rfl,by simp,fun k _ hn => Below.heap_setCell _ _ _ _ hn⟩ (fun k hk e => by subst e; exact hS hk)
theorem grown {row:Option Nat} (h:Turn S w w1) (hg:w1.grownBy w2 row) (hS:∀ k,row=some k→k < w.heap.size→S k):Turn S w w2 :=
  h.trans' (S':=fun k => row=some k) ⟨hg.os,hg.tape,hg.output,hg.size,fun k hk hn => hg.block k hk (fun e => hn e.symm)⟩ (fun k hk e => hS k e hk)
theorem below {B:Nat} (h:Turn (fun k => B≤k) w w1) (hB:B≤w.heap.size):Below B w w1 :=
  ⟨h.os,h.tape,h.output,h.size,fun k hk => h.block k (by omega) (by omega)⟩
theorem cell (h:Turn S w w1) {a:Addr} (ha:a.block < w.heap.size) (hn:¬ S a.block):w1.cell? a=w.cell? a :=
  World.cell?_of_block (w:=w) (h.block a.block ha hn)
theorem frozen (h:Turn S w w1) {a:Addr} (ha:a.block < w.heap.size) (hn:¬ S a.block):w1.frozen? a=w.frozen? a :=
  World.frozen?_of_block (w:=w) (h.block a.block ha hn)
theorem setCells (h:Turn S w w1) (b:Nat):∀ (vs:List Value) (o:Nat),(b < w.heap.size→S b)→Turn S w (w1.setCells b o vs):=by
  intro vs
  induction vs generalizing w1 with
  | nil => intro o _; exact h
  | cons v r ih => intro o hS; exact ih (h.setCell ⟨b,o,none⟩ v hS) (o+1) hS
end Turn
theorem lt_of_cell {w:World} {a:Addr} {v:Value} (h:w.cell? a=some v):a.block < w.heap.size:=World.block_lt_of_cell? _ _ h
theorem ret_int {k:IntKind} {a b:Int} (h:a=b):Ending.returned (.int k a)=.returned (.int k b):=by rw [h]
theorem ret_bool {a b:Bool} (h:a=b):Ending.returned (.bool a)=.returned (.bool b):=by rw [h]
theorem hid {p:Prop} (h:p):Hid p:=h
theorem ownBlock_ge {w:World} {base:Nat} {e:TypeId} {size:Nat} {v:Value} {n:Nat} {xs:List Value} (h:w.ownsRow base e size v n xs) {k:Nat} (hk:v.ownBlock=some k):base≤k:=by
  obtain ⟨_,h0 | ⟨g,cap,cur,rfl,hb,_⟩⟩:=h
  · rw [h0.1] at hk; cases hk
  · simp only [Value.ownBlock,Option.some.injEq] at hk; omega
def IntsAt (w:World) (v:Value) (xs:List Int):Prop:=w.ownsRow 0 3 1 v xs.length (xs.map (Value.int .i64))
theorem IntsAt.shape {w:World} {v:Value} {xs:List Int} (h:IntsAt w v xs):(v=.slice none 0 0∧xs=[])∨∃ g cap,v=.slice (some ⟨g,0,none⟩) xs.length cap∧xs.length≤cap∧cap≤maxLen∧g < w.heap.size:=by
 obtain ⟨_,h0 | ⟨g,cap,cur,rfl,_,hg,h1,h2,_⟩⟩:=h
 ·exact .inl ⟨h0.1,List.length_eq_zero_iff.1 h0.2⟩
 ·exact .inr ⟨g,cap,rfl,h1,h2,(Array.getElem?_eq_some_iff.1 hg).1⟩
theorem IntsAt.cell {w:World} {g cap:Nat} {xs:List Int} (h:IntsAt w (.slice (some ⟨g,0,none⟩) xs.length cap) xs) (j:Nat) (x:Int) (hj:xs[j]?=some x):w.cell? ⟨g,j,none⟩=some (.int .i64 x):=by
 have hl:=(List.getElem?_eq_some_iff.1 hj).1
 rw [World.ownsRow.cellAt h j (by omega),List.getElem?_map,hj]; rfl
theorem IntsAt.frozen {w:World} {g cap:Nat} {xs:List Int} (h:IntsAt w (.slice (some ⟨g,0,none⟩) xs.length cap) xs) (j:Nat):w.frozen? ⟨g,j,none⟩=false:=World.ownsRow.frozenAt h j
theorem IntsAt.turned {S:Nat→Prop} {w w':World} {v:Value} {xs:List Int} (h:IntsAt w v xs) (t:Turn S w w') (hn:∀ g,v.ownBlock=some g→¬ S g):IntsAt w' v xs:=by
 refine ⟨h.1,?_⟩
 rcases h.2 with h0 | ⟨g,cap,cur,rfl,hb,hg,r⟩
 ·exact .inl h0
 ·exact .inr ⟨g,cap,cur,rfl,hb,(t.block g (Array.getElem?_eq_some_iff.1 hg).1 (hn g rfl)).trans hg,r⟩
def FoundInt (xs:List Int) (x:Int) (w:World) (e:Ending) (w':World):Prop :=
 ∃ r:Int,e=.returned (.int .i64 r)∧w=w'∧((r=-1∧x ∉ xs)∨∃ j:Nat,xs[j]?=some x∧r=j)
theorem index_ints {w:World} {v:Value} {xs:List Int} (h:IntsAt w v xs) (x:Int) (hl:xs.length≤1000000) :
  Calls Tryz.prog 30 #[v,.int .i64 x] w (FoundInt xs x w):=by
 rcases h.shape with ⟨rfl,rfl⟩ | ⟨g,cap,rfl,_,_,_⟩
 ·clear h
  go_enter Tryz.func30,Tryz.ntmps30
  go_wp2_with fail
  refine wp_loop_rounds 1 ?_
  rw [rounds_succ]
  go_wp2_with fail
  go_ret
  exact ⟨-1,rfl,rfl,.inl ⟨rfl,by simp⟩⟩
 ·have H:=hid h
  clear h
  go_enter Tryz.func30,Tryz.ntmps30
  go_wp2_with fail
  go_loop [8] (fun i => ∃ j:Nat,j≤xs.length∧i=.int .i64 j∧x ∉ xs.take j) (fun i => xs.length - (intOf i).toNat)
  case atStart => exact ⟨0,Nat.zero_le _,rfl,by simp⟩
  case round =>
   obtain ⟨j,hj,rfl,hno⟩:=hrel
   have HN:=hid hno
   clear hno
   by_cases hlt:j < xs.length
   ·obtain ⟨y,hy⟩:∃ y,xs[j]?=some y:=⟨_,List.getElem?_eq_getElem hlt⟩
    have hc:=H.out.cell j y hy
    have HY:=hid hy
    clear hy
    by_cases hxy:x=y
    ·have hb:(x == y)=true:=beq_iff_eq.2 hxy
     have HX:=hid hxy
     clear hxy
     go_wp2_with fail
     go_ret
     exact ⟨j,rfl,rfl,.inr ⟨j,by rw [HX.out]; exact HY.out,rfl⟩⟩
    ·have hb:(x == y)=false:=beq_eq_false_iff_ne.2 hxy
     have HX:=hid hxy
     clear hxy
     go_wp2_with fail
     go_round
     case rel => exact ⟨j+1,by omega,by go_num,by
      rw [List.take_add_one,HY.out]
      intro hm
      rcases List.mem_append.1 hm with hm | hm
      ·exact HN.out hm
      ·simp at hm; exact HX.out hm⟩
     case measure => simp [intOf]; omega
   ·have hj':j=xs.length:=by omega
    subst hj'
    rw [List.take_length] at HN
    go_wp2_with fail
    go_ret
    exact ⟨-1,rfl,rfl,.inl ⟨rfl,HN.out⟩⟩
theorem contains_yes {w:World} {v:Value} {xs:List Int} (h:IntsAt w v xs) (x:Int) (hl:xs.length≤1000000) (hx:x∈xs) :
  Calls Tryz.prog 273 #[v,.int .i64 x] w fun e w' => e=.returned (.bool true)∧w=w':=by
 have H:=hid h
 have HX:=hid hx
 clear h hx
 go_enter Tryz.func273,Tryz.ntmps273
 go_wp2_with fail
 refine (index_ints H.out x hl).mono ?_
 rintro e w' ⟨r,rfl,rfl,⟨_,hno⟩ | ⟨j,hj,rfl⟩⟩
 ·exact absurd HX.out hno
 ·clear hj
  go_wp2_with fail
  go_ret
  exact ⟨rfl,rfl⟩
theorem contains_no {w:World} {v:Value} {xs:List Int} (h:IntsAt w v xs) (x:Int) (hl:xs.length≤1000000) (hx:x ∉ xs) :
  Calls Tryz.prog 273 #[v,.int .i64 x] w fun e w' => e=.returned (.bool false)∧w=w':=by
 have H:=hid h
 have HX:=hid hx
 clear h hx
 go_enter Tryz.func273,Tryz.ntmps273
 go_wp2_with fail
 refine (index_ints H.out x hl).mono ?_
 rintro e w' ⟨r,rfl,rfl,⟨rfl,_⟩ | ⟨j,hj,rfl⟩⟩
 ·go_wp2_with fail
  go_ret
  exact ⟨rfl,rfl⟩
 ·exact absurd (List.mem_of_getElem? hj) HX.out
def leastOf (x:Int) (xs:List Int):Int:=xs.foldl (fun m y => if y < m then y else m) x
theorem leastOf_snoc (x:Int) (xs:List Int) (y:Int):leastOf x (xs ++ [y])=if y < leastOf x xs then y else leastOf x xs:=by unfold leastOf; rw [List.foldl_append]; rfl
theorem min_ints {w:World} {v:Value} {x:Int} {xs:List Int} (h:IntsAt w v (x :: xs)) (hl:xs.length≤1000000) :
  Calls Tryz.prog 237 #[v] w fun e w' => e=.returned (.int .i64 (leastOf x xs))∧w=w':=by
 rcases h.shape with ⟨_,h0⟩ | ⟨g,cap,rfl,_,_,_⟩
 ·cases h0
 ·have H:=hid h
  have hlen:(x :: xs).length=xs.length+1:=rfl
  rw [hlen]
  have hc0:=h.cell 0 x rfl
  clear h hlen
  have hn:Hid (((xs.length+1:Nat):Int)=(xs.length:Int)+1):=hid (by omega)
  go_enter Tryz.func237,Tryz.ntmps237
  go_wp2_with fail
  go_loop [3,4] (fun m i => ∃ j:Nat,j≤xs.length∧i=.int .i64 ((j:Int)+1)∧m=.int .i64 (leastOf x (xs.take j))) (fun _ i => xs.length+1 - (intOf i).toNat)
  case atStart => exact ⟨0,Nat.zero_le _,rfl,rfl⟩
  case round =>
   obtain ⟨j,hj,rfl,rfl⟩:=hrel
   by_cases hlt:j < xs.length
   ·obtain ⟨y,hy⟩:∃ y,xs[j]?=some y:=⟨_,List.getElem?_eq_getElem hlt⟩
    have hc:=H.out.cell (j+1) y (by simpa using hy)
    have hs:Hid (leastOf x (xs.take (j+1))=if y < leastOf x (xs.take j) then y else leastOf x (xs.take j)):=hid (by rw [List.take_add_one,hy]; exact leastOf_snoc _ _ _)
    clear hy
    have q:((j:Int)+1).toNat=j+1:=by omega
    go_wp2_with fail
    all_goals
     go_round
     case rel => exact ⟨j+1,by omega,by go_num,by rw [hs.out]; try (congr 1; split <;> omega)⟩
     case measure => simp [intOf]; omega
   ·have hj':j=xs.length:=by omega
    subst hj'
    rw [List.take_length]
    go_wp2_with fail
    go_ret
    exact ⟨rfl,rfl⟩
def Reads1 (w:World) (S:Nat→Prop) (g:Nat) (lb:Array Value) (p:Int→Bool):Prop :=
 ∀ (w1:World) (x:Int),Turn S w w1→Calls Tryz.prog g (#[.int .i64 x] ++ lb) w1 fun e w' => e=.returned (.bool (p x))∧Turn (fun _ => False) w1 w'
def FoundBy (xs:List Int) (p:Int→Bool) (w:World) (e:Ending) (w':World):Prop :=
 ∃ r:Int,e=.returned (.int .i64 r)∧Turn (fun _ => False) w w'∧((r=-1∧∀ x∈xs,p x=false)∨∃ (j:Nat) (x:Int),xs[j]?=some x∧p x=true∧r=j∧∀ y∈xs.take j,p y=false)
theorem indexFunc_ints {w:World} {v:Value} {xs:List Int} (h:IntsAt w v xs) (hl:xs.length≤1000000) (p:Int→Bool) (g:Nat) (lb:Array Value) (eg:∀ args w,(callFunc g args).run Tryz.prog w=.ok (.enter g args) w)
  (hp:Reads1 w (fun _ => False) g lb p) :
  Calls Tryz.prog 178 #[v,.func (.func g) #[] lb] w (FoundBy xs p w):=by
 rcases h.shape with ⟨rfl,rfl⟩ | ⟨b,cap,rfl,_,_,_⟩
 ·clear h hp
  go_enter Tryz.func178,Tryz.ntmps178
  go_wp2_with fail
  refine wp_loop_rounds 1 ?_
  rw [rounds_succ]
  go_wp2_with fail
  go_ret
  exact ⟨-1,rfl,Turn.refl _ _,.inl ⟨rfl,by simp⟩⟩
 ·have H:=hid h
  have HP:=hid hp
  clear h hp
  go_enter Tryz.func178,Tryz.ntmps178
  go_wp2_with fail
  go_loopw [8] (fun i wr => ∃ j:Nat,j≤xs.length∧i=.int .i64 j∧(∀ y∈xs.take j,p y=false)∧Turn (fun _ => False) w wr) (fun i _ => xs.length - (intOf i).toNat)
  case atStart => exact ⟨0,Nat.zero_le _,rfl,by simp,Turn.refl _ _⟩
  case round =>
   obtain ⟨j,hj,rfl,hno,hT⟩:=hrel
   have HN:=hid hno
   have HT:=hid hT
   clear hno hT
   by_cases hlt:j < xs.length
   ·obtain ⟨y,hy⟩:∃ y,xs[j]?=some y:=⟨_,List.getElem?_eq_getElem hlt⟩
    have hc:=(H.out.turned HT.out (fun _ _ => id)).cell j y hy
    have HY:=hid hy
    clear hy
    have hcall:=HP.out wr y HT.out
    cases hq:p y with
    | true =>
     rw [hq] at hcall
     have HQ:=hid hq
     clear hq
     have HC:=hid hcall
     clear hcall
     go_wp2_with (go_at_fn g; refine HC.out.mono ?_; rintro e w' ⟨rfl,t1⟩)
     have HT1:=hid (HT.out.trans ‹_›)
     go_ret
     exact ⟨j,rfl,HT1.out,.inr ⟨j,y,HY.out,HQ.out,rfl,HN.out⟩⟩
    | false =>
     rw [hq] at hcall
     have HQ:=hid hq
     clear hq
     have HC:=hid hcall
     clear hcall
     go_wp2_with (go_at_fn g; refine HC.out.mono ?_; rintro e w' ⟨rfl,t1⟩)
     have HT1:=hid (HT.out.trans ‹_›)
     go_roundw
     case rel => exact ⟨j+1,by omega,by go_num,by
      intro z hz
      rw [List.take_add_one,HY.out] at hz
      rcases List.mem_append.1 hz with hz | hz
      ·exact HN.out z hz
      ·simp at hz; rw [hz]; exact HQ.out,HT1.out⟩
     case measure => simp [intOf]; omega
   ·have hj':j=xs.length:=by omega
    subst hj'
    rw [List.take_length] at HN
    go_wp2_with fail
    go_ret
    exact ⟨-1,rfl,HT.out,.inl ⟨rfl,HN.out⟩⟩
def DeletedBy (xs:List Int) (p:Int→Bool) (v:Value) (w:World) (e:Ending) (w':World):Prop :=
 ∃ v',e=.returned v'∧IntsAt w' v' (xs.filter fun x => !p x)∧v'.ownBlock=v.ownBlock∧Turn (fun k => v.ownBlock=some k) w w'
theorem filter_none {xs:List Int} {p:Int→Bool} (h:∀ x∈xs,p x=false):(xs.filter fun x => !p x)=xs:=by
 rw [List.filter_eq_self]; intro x hx; rw [h x hx]; rfl
theorem take_more {xs:List Int} {j:Nat} {y:Int} (h:xs[j]?=some y):xs.take (j+1)=xs.take j ++ [y]:=by rw [List.take_add_one,h]; rfl
theorem IntsAt.own {w:World} {g cap:Nat} {xs:List Int} (h:IntsAt w (.slice (some ⟨g,0,none⟩) xs.length cap) xs):∃ cur,w.heap[g]?=some (.cells cur 3 (0,0))∧xs.length≤cap∧cap≤maxLen∧cur.size=cap∧cur.toList.take xs.length=xs.map (Value.int .i64):=by
 obtain ⟨_,⟨h0,_⟩ | ⟨g',cap',cur,h0,_,hg,h1,h2,h3,h4⟩⟩:=h
 ·cases h0
 ·cases h0; exact ⟨cur,hg,h1,h2,by omega,by simpa using h4⟩
theorem IntsAt.prefix {w:World} {g cap:Nat} {ys:List Int} (h:IntsAt w (.slice (some ⟨g,0,none⟩) ys.length cap) ys) (i:Nat) (hi:i≤ys.length):IntsAt w (.slice (some ⟨g,0,none⟩) (ys.take i).length cap) (ys.take i):=by
 obtain ⟨cur,hg,h1,h2,h3,h4⟩:=h.own
 refine ⟨by simp,.inr ⟨g,cap,cur,rfl,Nat.zero_le _,hg,by simp; omega,h2,by omega,?_⟩⟩
 have:=congrArg (List.take i) h4
 rw [List.take_take,Nat.min_eq_left hi] at this
 rw [List.map_take,← this]
 congr 1
 simp; omega
theorem IntsAt.set {w:World} {g cap:Nat} {ys:List Int} (h:IntsAt w (.slice (some ⟨g,0,none⟩) ys.length cap) ys) (i:Nat) (x:Int):IntsAt (w.setCell ⟨g,i,none⟩ (.int .i64 x)) (.slice (some ⟨g,0,none⟩) ys.length cap) (ys.set i x):=by
 have:=(World.ownsRow.stored h i (.int .i64 x)).1
 unfold IntsAt
 rw [List.length_set,List.map_set]
 exact this
theorem IntsAt.cleared {w:World} {g cap:Nat} {ys:List Int} (h:IntsAt w (.slice (some ⟨g,0,none⟩) ys.length cap) ys) (i:Nat) (zs:List Int) (hz:i+zs.length=ys.length):IntsAt (w.setCells g i (zs.map (Value.int .i64))) (.slice (some ⟨g,0,none⟩) ys.length cap) (ys.take i ++ zs):=by
 induction zs generalizing w ys i with
 | nil =>
  simp at hz; subst hz
  show IntsAt w _ _
  simpa using h
 | cons z zs ih =>
  have h1:=ih (w:=w.setCell ⟨g,i,none⟩ (.int .i64 z)) (ys:=ys.set i z) (by simpa using h.set i z) (i+1) (by simp at hz ⊢; omega)
  simp only [List.length_set] at h1
  have e:(ys.set i z).take (i+1) ++ zs=ys.take i ++ z :: zs:=by
   have hi:i < ys.length:=by simp at hz; omega
   rw [List.take_add_one,List.getElem?_set_self hi,List.take_set_of_le (Nat.le_refl _)]
   simp
  rw [e] at h1
  exact h1
theorem zeroI (w:World):(zeroValue 3).run Tryz.prog w=.ok (.int .i64 0) w:=by kernel_rfl
theorem deleteFunc_ints {w:World} {v:Value} {xs:List Int} (h:IntsAt w v xs) (hl:xs.length≤1000000) (p:Int→Bool) (g:Nat) (lb:Array Value) (eg:∀ args w,(callFunc g args).run Tryz.prog w=.ok (.enter g args) w)
  (hp:Reads1 w (fun k => v.ownBlock=some k) g lb p) :
  Calls Tryz.prog 176 #[v,.func (.func g) #[] lb] w (DeletedBy xs p v w):=by
 have hidx:=indexFunc_ints h hl p g lb eg (fun w1 x t => hp w1 x (t.mono fun _ _ h => h.elim))
 have HI:=hid hidx
 clear hidx
 rcases h.shape with ⟨rfl,rfl⟩ | ⟨b,cap,rfl,hc1,hc2,hb⟩
 ·clear hp
  have H:=hid h
  clear h
  go_enter Tryz.func176,Tryz.ntmps176
  go_wp2_with fail
  refine HI.out.mono ?_
  rintro e w1 ⟨r,rfl,t1,⟨rfl,_⟩ | ⟨j,x,hj,_⟩⟩
  ·have HT:=hid t1
   clear t1
   go_wp2_with fail
   go_ret
   exact ⟨_,rfl,H.out.turned HT.out (fun g h => by cases h),rfl,HT.out.mono fun _ _ h => h.elim⟩
  ·simp at hj
 ·unfold maxLen at hc2
  have H:=hid h
  have HP:=hid hp
  clear h hp
  go_enter Tryz.func176,Tryz.ntmps176
  go_wp2_with fail
  refine HI.out.mono ?_
  rintro e w1 ⟨r,rfl,t1,⟨rfl,hno⟩ | ⟨i0,x0,hx0,hp0,rfl,hno⟩⟩
  ·have HT:=hid t1
   have HN:=hid hno
   clear t1 hno
   go_wp2_with fail
   go_ret
   exact ⟨_,rfl,by rw [filter_none HN.out]; exact H.out.turned HT.out (fun _ _ => id),rfl,HT.out.mono fun _ _ h => h.elim⟩
  ·have hi0:i0 < xs.length:=(List.getElem?_eq_some_iff.1 hx0).1
   have HT:=hid t1
   have HN:=hid hno
   have HX:=hid hx0
   have HP0:=hid hp0
   clear t1 hno hx0 hp0
   have q0:((i0:Int) == -1)=false:=beq_eq_false_iff_ne.2 (by omega)
   have q1:((i0:Int) != -1)=true:=bne_iff_ne.2 (by omega)
   go_wp2_with fail
   go_loopw [5,6,7] (fun i j _ wr => ∃ (n m:Nat) (ys:List Int),i=.int .i64 n∧j=.int .i64 ((m:Int)+1)∧m < xs.length∧n≤m∧Hid (ys.length=xs.length)∧Hid (ys.take n=(xs.take (m+1)).filter fun x => !p x)∧Hid (ys.drop (m+1)=xs.drop (m+1))∧Hid (IntsAt wr (.slice (some ⟨b,0,none⟩) ys.length cap) ys)∧Hid (Turn (fun k => k=b) w wr)) (fun _ j _ _ => xs.length - (intOf j).toNat)
   case atStart =>
    refine ⟨i0,i0,xs,rfl,rfl,hi0,Nat.le_refl _,hid rfl,hid ?_,hid rfl,hid (H.out.turned HT.out (fun _ _ => id)),hid (HT.out.mono fun _ _ h => h.elim)⟩
    rw [take_more HX.out,List.filter_append,filter_none HN.out,List.filter_cons_of_neg (by rw [HP0.out]; simp)]
    simp
   case round =>
    obtain ⟨n,m,ys,rfl,rfl,hm,hn,hy1,hy2,hy3,hy4,hT⟩:=hrel
    by_cases hlt:m+1 < xs.length
    ·obtain ⟨y,hy⟩:∃ y,xs[m+1]?=some y:=⟨_,List.getElem?_eq_getElem hlt⟩
     have hyy:ys[m+1]?=some y:=by
      have e:=congrArg List.head? hy3.out
      rw [List.head?_drop,List.head?_drop] at e
      rw [e,hy]
     have hc:=hy4.out.cell (m+1) y hyy
     obtain ⟨y',hy'⟩:∃ y',ys[n]?=some y':=⟨_,List.getElem?_eq_getElem (by rw [hy1.out]; omega)⟩
     have hcn:=hy4.out.cell n y' hy'
     have hfn:=hy4.out.frozen n
     have HL:Hid (ys.length=xs.length):=hy1
     have HY:=hid hy
     clear hyy hy'
     clear hy
     have hcall:=HP.out wr y (hT.out.mono fun k _ e => by subst e; rfl)
     have q2:((m:Int)+1).toNat=m+1:=by omega
     have q3:(m:Int)+1 < (xs.length:Int):=by omega
     cases hq:p y with
     | true =>
      rw [hq] at hcall
      have HQ:=hid hq
      clear hq
      have HC:=hid hcall
      clear hcall
      go_wp2_with (go_at_fn g; refine HC.out.mono ?_; rintro e w' ⟨rfl,t1⟩)
      have HT1:=hid (‹Turn (fun _ => False) wr _›)
      go_roundw
      case rel =>
       refine ⟨n,m+1,ys,rfl,by go_num,hlt,by omega,HL,hid ?_,hid ?_,hid (hy4.out.turned HT1.out (fun _ _ => id)),hid (hT.out.trans (HT1.out.mono fun _ _ h => h.elim))⟩
       ·rw [take_more HY.out,List.filter_append,← hy2.out,List.filter_cons_of_neg (by rw [HQ.out]; simp)]
        simp
       ·have:=congrArg (List.drop 1) hy3.out
        rw [List.drop_drop,List.drop_drop] at this
        exact this
      case measure => simp [intOf]; omega
     | false =>
      rw [hq] at hcall
      have HQ:=hid hq
      clear hq
      have HC:=hid hcall
      clear hcall
      go_wp2_with (go_at_fn g; refine HC.out.mono ?_; rintro e w' ⟨rfl,t1⟩; have hcn2:=(Turn.cell t1 (a:=⟨b,n,none⟩) (lt_of_cell hcn) id).trans hcn; have hfn2:=(Turn.frozen t1 (a:=⟨b,n,none⟩) (lt_of_cell hcn) id).trans hfn)
      have HT1:=hid (‹Turn (fun _ => False) wr _›)
      go_roundw
      case rel =>
       refine ⟨n+1,m+1,ys.set n y,by go_num,by go_num,hlt,by omega,hid (by rw [List.length_set]; exact HL.out),hid ?_,hid ?_,hid ?_,hid ((hT.out.trans (HT1.out.mono fun _ _ h => h.elim)).setCell _ _ (fun _ => rfl))⟩
       ·have hny:n < ys.length:=by rw [HL.out]; omega
        rw [take_more HY.out,List.filter_append,← hy2.out,List.filter_cons_of_pos (by rw [HQ.out]; rfl),List.take_add_one,List.getElem?_set_self hny,List.take_set_of_le (Nat.le_refl _)]
        simp
       ·have:=congrArg (List.drop 1) hy3.out
        rw [List.drop_drop,List.drop_drop] at this
        rw [List.drop_set_of_lt (by omega)]
        exact this
       ·have:=(hy4.out.turned HT1.out (fun _ _ => id)).set n y
        rw [List.length_set]
        exact this
      case measure => simp [intOf]; omega
    ·have hm':m+1=xs.length:=by omega
     have hN:n≤xs.length:=by omega
     have HL:Hid (ys.length=xs.length):=hy1
     have hcl:∀ ty,(Builtin.clear_ #[23] ty #[.slice (some ⟨b,n,none⟩) (xs.length - n) (cap - n)]).run Tryz.prog wr=.ok (.tuple #[]) (wr.setCells b n (List.replicate (xs.length - n) (.int .i64 0))) :=
      fun ty => Lib.run_clear_slice wr _ _ ty _ Tryz.underlying23 zeroI rfl rfl b n _ _ (by omega) (fun t ht => by
       obtain ⟨z,hz⟩:∃ z,ys[n+t]?=some z:=⟨_,List.getElem?_eq_getElem (by rw [HL.out]; omega)⟩
       rw [hy4.out.cell (n+t) z hz]; rfl) (fun t ht => hy4.out.frozen (n+t))
     have q3:¬ ((m:Int)+1 < (xs.length:Int)):=by omega
     have HM:=hid hm'
     clear hm'
     go_wp2_with fail
     go_ret
     have hz:=hy4.out.cleared n (List.replicate (xs.length - n) 0) (by rw [List.length_replicate,HL.out]; omega)
     have hz2:IntsAt (wr.setCells b n (List.replicate (xs.length - n) (.int .i64 0))) (.slice (some ⟨b,0,none⟩) (ys.take n ++ List.replicate (xs.length - n) 0).length cap) (ys.take n ++ List.replicate (xs.length - n) 0):=by
      rw [List.map_replicate] at hz
      have e:(ys.take n ++ List.replicate (xs.length - n) 0).length=ys.length:=by simp [HL.out]; omega
      rw [e]; exact hz
     have hz3:=hz2.prefix n (by simp [HL.out]; omega)
     have e1:(ys.take n ++ List.replicate (xs.length - n) 0).take n=ys.take n:=by
      rw [List.take_append_of_le_length (by simp [HL.out]; omega),List.take_take,Nat.min_self]
     have e2:(ys.take n).length=n:=by simp [HL.out]; omega
     rw [e1,e2] at hz3
     have e3:xs.filter (fun x => !p x)=ys.take n:=by rw [hy2.out,HM.out,List.take_length]
     exact ⟨_,rfl,by rw [e3]; exact hz3,rfl,(hT.out.mono fun k _ e => by subst e; rfl).setCells _ _ _ (fun _ => rfl)⟩
section
open Go.RowKit Go.MapKept
set_option linter.unusedSectionVars false
section plain
variable {κ β:Type} [DecidableEq κ]
def mget (m:List (κ×β)) (k:κ):Option β:=(m.find? (fun p => decide (p.1=k))).map (·.2)
def mupd (m:List (κ×β)) (k:κ) (v:β):List (κ×β):=m.map fun p => if p.1=k then (p.1,v) else p
def mput (m:List (κ×β)) (k:κ) (v:β):List (κ×β):=if (mget m k).isSome then mupd m k v else m ++ [(k,v)]
def mdel (m:List (κ×β)) (k:κ):List (κ×β):=m.filter fun p => decide (p.1≠k)
def MNodup (m:List (κ×β)):Prop:=(m.map Prod.fst).Nodup
theorem mget_none {m:List (κ×β)} {k:κ} (h:∀ p∈m,p.1≠k):mget m k=none:=by
 unfold mget
 rw [List.find?_eq_none.2 (by simpa using h)]; rfl
theorem mget_none_iff {m:List (κ×β)} {k:κ}:mget m k=none ↔ ∀ p∈m,p.1≠k:=by
 constructor
 ·intro h p hp e
  unfold mget at h
  rw [Option.map_eq_none_iff,List.find?_eq_none] at h
  exact h p hp (by simpa using e)
 ·exact mget_none
theorem mget_mem {m:List (κ×β)} (hn:MNodup m) {k:κ} {v:β} (h:(k,v)∈m):mget m k=some v:=by
 induction m with
 | nil => cases h
 | cons p m ih =>
  simp only [MNodup,List.map_cons,List.nodup_cons] at hn
  unfold mget
  rw [List.find?_cons]
  by_cases e:p.1=k
  ·simp only [e,decide_true,Option.map_some,Option.some.injEq]
   rcases List.mem_cons.1 h with h1 | h1
   ·rw [← h1]
   ·exact absurd (List.mem_map.2 ⟨(k,v),h1,rfl⟩) (by rw [← e]; exact hn.1)
  ·simp only [e,decide_false]
   rcases List.mem_cons.1 h with h1 | h1
   ·exact absurd (by rw [← h1]) e
   ·exact ih hn.2 h1
theorem mem_of_mget {m:List (κ×β)} {k:κ} {v:β} (h:mget m k=some v):(k,v)∈m:=by
 unfold mget at h
 rw [Option.map_eq_some_iff] at h
 obtain ⟨p,hp,rfl⟩:=h
 have h1:=List.mem_of_find?_eq_some hp
 have h2:=List.find?_some hp
 simp only [decide_eq_true_eq] at h2
 rw [← h2]; exact h1
theorem mupd_keys (m:List (κ×β)) (k:κ) (v:β):(mupd m k v).map Prod.fst=m.map Prod.fst:=by
 unfold mupd
 rw [List.map_map]
 apply List.map_congr_left
 intro p _
 simp only [Function.comp]
 split <;> rfl
theorem mget_mupd (m:List (κ×β)) (k j:κ) (v:β):mget (mupd m k v) j=if j=k then (mget m k).map (fun _ => v) else mget m j:=by
 unfold mget mupd
 induction m with
 | nil => simp
 | cons p m ih =>
  rw [List.map_cons,List.find?_cons,List.find?_cons,List.find?_cons]
  by_cases e:p.1=k
  ·by_cases ej:j=k
   ·subst ej; simp [e]
   ·have:¬ p.1=j:=fun e2 => ej (e2.symm.trans e)
    rw [if_neg ej] at ih ⊢
    rw [if_pos e]
    simp only [this,decide_false]
    exact ih
  ·rw [if_neg e]
   by_cases ej:j=k
   ·subst ej
    rw [if_pos rfl] at ih ⊢
    simp only [e,decide_false]
    exact ih
   ·rw [if_neg ej] at ih ⊢
    by_cases e3:p.1=j
    ·simp [e3]
    ·simp only [e3,decide_false]; exact ih
theorem mget_mput (m:List (κ×β)) (k j:κ) (v:β):mget (mput m k v) j=if j=k then some v else mget m j:=by
 unfold mput
 split
 ·rename_i h
  rw [mget_mupd]
  obtain ⟨u,hu⟩:=Option.isSome_iff_exists.1 h
  rw [hu]; rfl
 ·rename_i h
  have hno:mget m k=none:=by simpa using h
  unfold mget at hno ⊢
  rw [List.find?_append]
  by_cases ej:j=k
  ·subst ej
   rw [Option.map_eq_none_iff] at hno
   rw [hno]; simp
  ·rw [if_neg ej]
   have:List.find? (fun p => decide (p.1=j)) [(k,v)]=none:=by simp [Ne.symm ej]
   rw [this]; simp
theorem mput_nodup {m:List (κ×β)} (hn:MNodup m) (k:κ) (v:β):MNodup (mput m k v):=by
 unfold mput
 split
 ·unfold MNodup; rw [mupd_keys]; exact hn
 ·rename_i h
  have hno:mget m k=none:=by simpa using h
  unfold MNodup at hn ⊢
  rw [List.map_append,List.nodup_append]
  refine ⟨hn,by simp,?_⟩
  intro a ha c hc
  simp only [List.map_cons,List.map_nil,List.mem_singleton] at hc
  subst hc
  obtain ⟨p,hp,rfl⟩:=List.mem_map.1 ha
  exact mget_none_iff.1 hno p hp
theorem mput_length (m:List (κ×β)) (k:κ) (v:β):(mput m k v).length=if (mget m k).isSome then m.length else m.length+1:=by
 unfold mput mupd; split <;> simp
theorem mget_mdel (m:List (κ×β)) (k j:κ):mget (mdel m k) j=if j=k then none else mget m j:=by
 unfold mget mdel
 rw [List.find?_filter]
 by_cases ej:j=k
 ·subst ej
  rw [if_pos rfl,Option.map_eq_none_iff,List.find?_eq_none]
  intro p _; simp
 ·rw [if_neg ej]
  congr 1
  congr 1
  funext p
  by_cases e:p.1=j
  ·simp [e,ej]
  ·simp [e]
theorem mdel_nodup {m:List (κ×β)} (hn:MNodup m) (k:κ):MNodup (mdel m k):=by
 unfold MNodup at hn ⊢
 exact ((List.filter_sublist (p:=fun p:κ×β => decide (p.1≠k)) (l:=m)).map Prod.fst).nodup hn
theorem mdel_none {m:List (κ×β)} {k:κ} (h:mget m k=none):mdel m k=m:=by
 unfold mdel
 rw [List.filter_eq_self]
 intro p hp
 simpa using mget_none_iff.1 h p hp
theorem mdel_length {m:List (κ×β)} (hn:MNodup m) {k:κ} {v:β} (h:mget m k=some v):(mdel m k).length+1=m.length:=by
 induction m with
 | nil => simp [mget] at h
 | cons p m ih =>
  simp only [MNodup,List.map_cons,List.nodup_cons] at hn
  unfold mdel
  rw [List.filter_cons]
  by_cases e:p.1=k
  ·have hno:mdel m k=m:=mdel_none (mget_none (fun q hq e2 => hn.1 (List.mem_map.2 ⟨q,hq,e2.trans e.symm⟩)))
   unfold mdel at hno
   simp only [e,ne_eq,not_true_eq_false,decide_false,Bool.false_eq_true,if_false,hno,List.length_cons]
  ·have hg:mget m k=some v:=by
    unfold mget at h ⊢
    rw [List.find?_cons] at h
    simpa [e] using h
   have:=ih hn.2 hg
   unfold mdel at this
   simp only [ne_eq] at this
   simp only [e,ne_eq,not_false_eq_true,decide_true,if_true,List.length_cons]
   omega
theorem mdel_eraseIdx {m:List (κ×β)} (hn:MNodup m) {k:κ} {v:β} {j:Nat} (h:m[j]?=some (k,v)):mdel m k=m.eraseIdx j:=by
 induction m generalizing j with
 | nil => simp at h
 | cons p m ih =>
  simp only [MNodup,List.map_cons,List.nodup_cons] at hn
  cases j with
  | zero =>
   simp only [List.getElem?_cons_zero,Option.some.injEq] at h
   subst h
   rw [List.eraseIdx_cons_zero]
   have:mdel m k=m:=mdel_none (mget_none (fun q hq e2 => hn.1 (List.mem_map.2 ⟨q,hq,e2⟩)))
   unfold mdel at this ⊢
   rw [List.filter_cons,if_neg (by simp)]
   exact this
  | succ j =>
   simp only [List.getElem?_cons_succ] at h
   have hpk:p.1≠k:=fun e2 => hn.1 (List.mem_map.2 ⟨(k,v),List.mem_of_getElem? h,e2.symm⟩)
   rw [List.eraseIdx_cons_succ]
   have:=ih hn.2 h
   unfold mdel at this ⊢
   rw [List.filter_cons,if_pos (by simpa using hpk),this]
theorem map_eraseIdx' {α γ:Type} (f:α→γ):∀ (l:List α) (j:Nat),(l.eraseIdx j).map f=(l.map f).eraseIdx j
 | [],j => by cases j <;> rfl
 | a :: l,0 => by simp
 | a :: l,j+1 => by simp [map_eraseIdx' f l j]
theorem nodup_idx {m:List (κ×β)} (hn:MNodup m):∀ {i j:Nat} {p q:κ×β},m[i]?=some p→m[j]?=some q→p.1=q.1→i=j:=by
 induction m with
 | nil => intro i j p q h; simp at h
 | cons a m ih =>
  simp only [MNodup,List.map_cons,List.nodup_cons] at hn
  intro i j p q hi hj e
  cases i with
  | zero =>
   cases j with
   | zero => rfl
   | succ j =>
    simp only [List.getElem?_cons_zero,Option.some.injEq] at hi
    simp only [List.getElem?_cons_succ] at hj
    subst hi
    exact absurd (List.mem_map.2 ⟨q,List.mem_of_getElem? hj,e.symm⟩) hn.1
  | succ i =>
   cases j with
   | zero =>
    simp only [List.getElem?_cons_zero,Option.some.injEq] at hj
    simp only [List.getElem?_cons_succ] at hi
    subst hj
    exact absurd (List.mem_map.2 ⟨p,List.mem_of_getElem? hi,e⟩) hn.1
   | succ j =>
    simp only [List.getElem?_cons_succ] at hi hj
    rw [ih hn.2 hi hj e]
end plain
structure KeyEnc {κ:Type} (d:TypeDesc) (enc:κ→Value):Prop where
 key:∀ k,IsKey d (enc k)
 inj:∀ a b,enc a=enc b→a=b
def encI (n:Int):Value:=.int .i64 n
def encS (s:ByteArray):Value:=.string s
theorem keyI:KeyEnc (.int .i64) encI:=⟨fun _ => by simp [IsKey,encI],fun a b h => by simp only [encI,Value.int.injEq,true_and] at h; exact h⟩
theorem keyS:KeyEnc .string encS:=⟨fun _ => by simp [IsKey,encS],fun a b h => by simp only [encS,Value.string.injEq] at h; exact h⟩
section
variable {κ β:Type} [DecidableEq κ] {d:TypeDesc} {enc:κ→Value} {val:β→Value} {w:World} {b:Nat} {m:List (κ×β)} {P:Program}
structure MapIs (w:World) (b:Nat) (d:TypeDesc) (enc:κ→Value) (val:β→Value) (m:List (κ×β)):Prop where
 obj:∃ es clock,w.heap[b]?=some (.map es clock)∧Stamped es clock∧es.toList.map (fun e => (e.key,e.val))=m.map (fun p => (enc p.1,val p.2))
 nodup:MNodup m
theorem MapIs.lt (h:MapIs w b d enc val m):b < w.heap.size:=by
 obtain ⟨es,clock,hb,_⟩:=h.obj
 exact (Array.getElem?_eq_some_iff.1 hb).1
theorem MapIs.turned {S:Nat→Prop} {w':World} (h:MapIs w b d enc val m) (t:Turn S w w') (hn:¬ S b):MapIs w' b d enc val m:=by
 obtain ⟨es,clock,hb,r⟩:=h.obj
 exact ⟨⟨es,clock,(t.block b h.lt hn).trans hb,r⟩,h.nodup⟩
theorem MapIs.of_heap {w':World} (h:MapIs w b d enc val m) (e:w'.heap[b]?=w.heap[b]?):MapIs w' b d enc val m:=by
 obtain ⟨es,clock,hb,r⟩:=h.obj
 exact ⟨⟨es,clock,e.trans hb,r⟩,h.nodup⟩
theorem MapIs.made (w:World):MapIs (w.alloc (.map #[] 0)) w.heap.size d enc val ([]:List (κ×β)) :=
 ⟨⟨#[],0,(heap_alloc w _).1,stamped_empty 0,rfl⟩,List.nodup_nil⟩
theorem isKey_all (K:KeyEnc d enc) {es:Array MapEntry} (hm:es.toList.map (fun e => (e.key,e.val))=m.map (fun p => (enc p.1,val p.2))):∀ x∈es.toList,IsKey d x.key:=by
 intro x hx
 have:(x.key,x.val)∈m.map (fun p => (enc p.1,val p.2)):=by rw [← hm]; exact List.mem_map.2 ⟨x,hx,rfl⟩
 obtain ⟨p,_,hp⟩:=List.mem_map.1 this
 simp only [Prod.mk.injEq] at hp
 rw [← hp.1]; exact K.key _
theorem find_cases (K:KeyEnc d enc) {es:Array MapEntry} (hm:es.toList.map (fun e => (e.key,e.val))=m.map (fun p => (enc p.1,val p.2))) (hn:MNodup m) (k:κ) :
  (Instr.findNow d (enc k) es.toList 0=some none∧mget m k=none) ∨
  ∃ j e v,Instr.findNow d (enc k) es.toList 0=some (some (j,e.val))∧es[j]?=some e∧e.key=enc k∧m[j]?=some (k,v)∧e.val=val v∧mget m k=some v:=by
 rcases findNow_spec (K.key k) es.toList 0 (isKey_all K hm) with ⟨h1,h2⟩ | ⟨j,e,h1,h2,h3⟩
 ·left
  refine ⟨h1,mget_none fun p hp e => ?_⟩
  have:(enc p.1,val p.2)∈es.toList.map (fun e => (e.key,e.val)):=by rw [hm]; exact List.mem_map.2 ⟨p,hp,rfl⟩
  obtain ⟨x,hx,hxe⟩:=List.mem_map.1 this
  simp only [Prod.mk.injEq] at hxe
  exact h2 x hx (by rw [hxe.1,e])
 ·right
  rw [Nat.zero_add] at h1
  have hj:=congrArg (fun l => l[j]?) hm
  simp only [List.getElem?_map,h2,Option.map_some] at hj
  cases hmj:m[j]? with
  | none => simp [hmj] at hj
  | some p =>
   simp only [hmj,Option.map_some,Option.some.injEq,Prod.mk.injEq] at hj
   have hk:p.1=k:=K.inj _ _ (hj.1.symm.trans h3)
   have hmj':m[j]?=some (k,p.2):=by rw [hmj,← hk]
   exact ⟨j,e,p.2,h1,by simpa using h2,h3,hmj',hj.2,mget_mem hn (List.mem_of_getElem? hmj')⟩
theorem MapIs.run_lookup (h:MapIs w b d enc val m) (K:KeyEnc d enc) {T kt et:TypeId} (hT:P.underlying T=some (.map kt et)) (hd:P.underlying kt=some d) {z:Value} (hz:(zeroValue et).run P w=.ok z w) (k:κ) (c:Bool) :
  (Instr.lookup T (.map (some b)) (enc k) c).run P w=.ok (if c then .tuple #[(mget m k).elim z val,.bool (mget m k).isSome] else (mget m k).elim z val) w:=by
 obtain ⟨es,clock,hb,hs,hm⟩:=h.obj
 rcases find_cases K hm h.nodup k with ⟨h1,h2⟩ | ⟨j,e,v,h1,_,_,_,h5,h6⟩
 ·rw [h2]
  simp [Instr.lookup,run_underlying hT,MapKept.run_getObj_map hb,MapKept.run_checkKey hd (K.key k),MapKept.run_findKey hd h1,hz,Result.andThen]
 ·rw [h6]
  simp [Instr.lookup,run_underlying hT,MapKept.run_getObj_map hb,MapKept.run_checkKey hd (K.key k),MapKept.run_findKey hd h1,h5,Result.andThen]
theorem turn_setHeap (w:World) (b:Nat) (o:Obj):Turn (fun k => k=b) w { w with heap:=w.heap.setIfInBounds b o } :=
 ⟨rfl,rfl,rfl,by simp,fun k hk hn => by simp [Ne.symm hn]⟩
theorem MapIs.run_update (h:MapIs w b d enc val m) (K:KeyEnc d enc) {T kt et:TypeId} (hT:P.underlying T=some (.map kt et)) (hd:P.underlying kt=some d) (k:κ) (v:β) :
  ∃ w',(Instr.mapUpdate T (.map (some b)) (enc k) (val v)).run P w=.ok () w'∧MapIs w' b d enc val (mput m k v)∧Turn (fun k => k=b) w w':=by
 obtain ⟨es,clock,hb,hs,hm⟩:=h.obj
 rcases find_cases K hm h.nodup k with ⟨h1,h2⟩ | ⟨j,e,v0,h1,he,h3,h4,h5,h6⟩
 ·refine ⟨_,by simp [Instr.mapUpdate,run_underlying hT,MapKept.run_getObj_map hb,MapKept.run_checkKey hd (K.key k),MapKept.run_findKey hd h1,MapKept.run_setObj_map _ hb,Result.andThen]; rfl,⟨⟨_,_,(heap_set hb).1,?_,?_⟩,mput_nodup h.nodup k v⟩,turn_setHeap _ _ _⟩
  ·refine stamped_push hs ?_
   intro x hx e
   have:(x.key,x.val)∈m.map (fun p => (enc p.1,val p.2)):=by rw [← hm]; exact List.mem_map.2 ⟨x,hx,rfl⟩
   obtain ⟨p,hp,hpe⟩:=List.mem_map.1 this
   simp only [Prod.mk.injEq] at hpe
   exact mget_none_iff.1 h2 p hp (K.inj _ _ (hpe.1.trans e))
  ·unfold mput
   rw [h2]
   simp [hm]
 ·have hkey:∀ e',es[j]?=some e'→({ e' with key:=enc k,val:=val v }:MapEntry).key=e'.key:=fun e' he' => by rw [he] at he'; cases he'; exact h3.symm
  refine ⟨{ w with heap:=w.heap.setIfInBounds b (.map (es.modify j fun e => { e with key:=enc k,val:=val v }) clock) },by simp [Instr.mapUpdate,run_underlying hT,MapKept.run_getObj_map hb,MapKept.run_checkKey hd (K.key k),MapKept.run_findKey hd h1,he,h3,MapKept.run_keyThatStays (K.key k),MapKept.run_setObj_map _ hb,Result.andThen],⟨⟨_,_,(heap_set hb).1,stamped_modify hs _ _ (fun _ _ => rfl) (fun e' _ he' => hkey e' he'),?_⟩,mput_nodup h.nodup k v⟩,turn_setHeap _ _ _⟩
  unfold mput
  rw [h6]
  simp only [Option.isSome_some,if_true]
  unfold mupd
  apply List.ext_getElem?
  intro i
  have hi:=congrArg (fun l => l[i]?) hm
  simp only [List.getElem?_map,Array.toList_modify,List.getElem?_modify] at hi ⊢
  by_cases hij:j=i
  ·subst hij
   have he':es.toList[j]?=some e:=by simpa using he
   simp only [he',h4,Option.map_some,if_true]
   rfl
  ·simp only [if_neg hij]
   rw [show (fun a:MapEntry => a) <$> es.toList[i]?=es.toList[i]? from by cases es.toList[i]? <;> rfl,hi]
   cases hmi:m[i]? with
   | none => rfl
   | some p =>
    simp only [Option.map_some]
    have:p.1≠k:=by
     intro e2
     exact hij (nodup_idx h.nodup h4 hmi e2.symm)
    rw [if_neg this]
theorem MapIs.run_delete (h:MapIs w b d enc val m) (K:KeyEnc d enc) {T kt et ty:TypeId} (hT:P.underlying T=some (.map kt et)) (hd:P.underlying kt=some d) (k:κ) :
  ∃ w',(Builtin.delete_ #[T,kt] ty #[.map (some b),enc k]).run P w=.ok (.tuple #[]) w'∧MapIs w' b d enc val (mdel m k)∧Turn (fun k => k=b) w w':=by
 obtain ⟨es,clock,hb,hs,hm⟩:=h.obj
 rcases find_cases K hm h.nodup k with ⟨h1,h2⟩ | ⟨j,e,v0,h1,he,h3,h4,h5,h6⟩
 ·refine ⟨_,by simp [Builtin.delete_,run_underlying hT,MapKept.run_getObj_map hb,MapKept.run_checkKey hd (K.key k),MapKept.run_findKey hd h1,MapKept.run_setObj_map _ hb,Result.andThen]; rfl,⟨⟨_,_,?_,hs,?_⟩,mdel_nodup h.nodup k⟩,?_⟩
  ·exact (heap_set hb).1
  ·rw [mdel_none h2]; exact hm
  ·exact turn_setHeap _ _ _
 ·refine ⟨_,by simp [Builtin.delete_,run_underlying hT,MapKept.run_getObj_map hb,MapKept.run_checkKey hd (K.key k),MapKept.run_findKey hd h1,MapKept.run_setObj_map _ hb,Result.andThen]; rfl,⟨⟨_,_,(heap_set hb).1,stamped_erase hs _,?_⟩,mdel_nodup h.nodup k⟩,turn_setHeap _ _ _⟩
  have hj:j < es.size:=(Array.getElem?_eq_some_iff.1 he).1
  have e1:(es.eraseIdxIfInBounds j).toList=es.toList.eraseIdx j:=by
   unfold Array.eraseIdxIfInBounds
   rw [dif_pos hj]; simp
  rw [e1,mdel_eraseIdx h.nodup h4,map_eraseIdx',map_eraseIdx',hm]
theorem MapIs.run_len (h:MapIs w b d enc val m) {T kt et:TypeId} (hT:P.underlying T=some (.map kt et)) (ty:TypeId) :
  (Builtin.len_ #[T] ty #[.map (some b)]).run P w=.ok (.int .i64 m.length) w:=by
 obtain ⟨es,clock,hb,hs,hm⟩:=h.obj
 have hl:es.size=m.length:=by
  have:=congrArg List.length hm
  simpa using this
 simp [Builtin.len_,run_underlying hT,MapKept.run_getObj_map hb,Result.andThen,hl,goInt]
section laws
variable {ops:Array Oper} {rest:List Oper} {o:Oper} {a:Act} {Q:Exit→Act→World→Prop}
theorem wpList_lookok_hit (hg:o.guard=none) (mo x:Operand) (T kt et:TypeId) (hop:o.op=.lookup T mo x true) (hT:P.underlying T=some (.map kt et)) (hd:P.underlying kt=some d) (K:KeyEnc d enc)
  (z:Value) (hz:∀ w,(zeroValue et).run P w=.ok z w) (b:Nat) (hm:a.eval mo=.map (some b)) (h:MapIs w b d enc val m) (k:κ) (hx:a.eval x=enc k) (v:β) (hv:mget m k=some v)
  (hK:wpList P ops Q rest (a.put o.dst (.tuple #[val v,.bool true])) w):wpList P ops Q (o :: rest) a w:=by
 refine wpList_plain hg fun K' hK' => ?_
 have hrun:=h.run_lookup K hT hd (hz w) k true
 rw [hv] at hrun
 unfold Oper.wp
 simp [execOp,hop,hm,hx,hrun,Result.andThen]
 exact hK' _ _ hK
theorem wpList_mapput (hg:o.guard=none) (mo x vo:Operand) (T kt et:TypeId) (hop:o.op=.mapUpdate T mo x vo) (hT:P.underlying T=some (.map kt et)) (hd:P.underlying kt=some d) (K:KeyEnc d enc)
  (b:Nat) (hm:a.eval mo=.map (some b)) (h:MapIs w b d enc val m) (k:κ) (hx:a.eval x=enc k) (v:β) (hv:a.eval vo=val v)
  (hK:∀ w',MapIs w' b d enc val (mput m k v)→Turn (fun j => j=b) w w'→wpList P ops Q rest (a.put o.dst undef) w'):wpList P ops Q (o :: rest) a w:=by
 refine wpList_plain hg fun K' hK' => ?_
 obtain ⟨w',hrun,r1,r2⟩:=h.run_update K hT hd k v
 unfold Oper.wp
 simp [execOp,hop,hm,hx,hv,hrun,Result.andThen]
 exact hK' _ _ (hK w' r1 r2)
theorem wpList_mapdel (hg:o.guard=none) (mo x:Operand) (T kt et:TypeId) (hop:o.op=Op.call { callee:=Callee.builtin Builtin.delete,args:=#[mo,x],argTypes:=#[T,kt] }) (hT:P.underlying T=some (.map kt et)) (hd:P.underlying kt=some d) (K:KeyEnc d enc)
  (b:Nat) (hm:a.eval mo=.map (some b)) (h:MapIs w b d enc val m) (k:κ) (hx:a.eval x=enc k)
  (hK:∀ w',MapIs w' b d enc val (mdel m k)→Turn (fun j => j=b) w w'→wpList P ops Q rest (a.put o.dst (.tuple #[])) w'):wpList P ops Q (o :: rest) a w:=by
 refine wpList_plain hg fun K' hK' => ?_
 obtain ⟨w',hrun,r1,r2⟩:=h.run_delete (ty:=o.type) K hT hd k
 unfold Oper.wp
 simp [execOp,hop,resolve,invoke,builtin,hm,hx,hrun,Result.andThen]
 exact hK' _ _ (hK w' r1 r2)
theorem wpList_maplen (hg:o.guard=none) (mo:Operand) (T kt et:TypeId) (hop:o.op=Op.call { callee:=Callee.builtin Builtin.len,args:=#[mo],argTypes:=#[T] }) (hT:P.underlying T=some (.map kt et))
  (b:Nat) (hm:a.eval mo=.map (some b)) (h:MapIs w b d enc val m)
  (hK:wpList P ops Q rest (a.put o.dst (.int .i64 m.length)) w):wpList P ops Q (o :: rest) a w:=by
 refine wpList_plain hg fun K' hK' => ?_
 unfold Oper.wp
 simp [execOp,hop,resolve,invoke,builtin,hm,h.run_len hT o.type,Result.andThen]
 exact hK' _ _ hK
end laws
end
end
theorem wp_append_at {P:Program} {o:Oper} {a:Act} {w:World} {K:Act→World→Prop} {Q:Exit→Act→World→Prop}
  (hg:o.guard=none) (s x:Operand) (t:TypeId) (hop:o.op=Op.call { callee:=Callee.builtin Builtin.append,args:=#[s,x],argTypes:=#[t,t] })
  (e:TypeId) (i:TypeInfo) (z:Value) (size bytes:Nat) (h1:P.underlying t=some (.slice e)) (h2:P.info? e=some i) (h3:i.zero=some z) (h4:i.size=size) (h5:i.bytes=bytes) (h6:z.cells.size=size) (h7:0 < size)
  (v:Value) (n:Nat) (xs:List Value) (hs:a.eval s=v) (hown:w.ownsRow 0 e size v n xs)
  (ad:Addr) (m c:Nat) (news:List Value) (hx:a.eval x=.slice (some ad) m c) (hn:news.length=m * size) (hc:∀ j u,news[j]?=some u→w.cell? (ad.add j)=some u) (h1c:∀ u∈news,u.oneCell'=true) (hm:0 < m∨v≠.slice none 0 0)
  (b1:n+m≤maxLen) (b2:(n+m) * bytes≤140737488355328)
  (hK:∀ g cap w',w'.ownsRow 0 e size (.slice (some ⟨g,0,none⟩) (n+m) cap) (n+m) (xs ++ news)→Turn (fun j => v.ownBlock=some j) w w'→(v.ownBlock=some g∨w.heap.size≤g)→K (a.put o.dst (.slice (some ⟨g,0,none⟩) (n+m) cap)) w') :
  o.wp P a w K Q:=by
 have toTurn:∀ {w':World},w.grownBy w' v.ownBlock→Turn (fun j => v.ownBlock=some j) w w':=fun {w'} hgr => ⟨hgr.os,hgr.tape,hgr.output,hgr.size,fun k hk hne => hgr.block k hk (fun e => hne e.symm)⟩
 rcases hown.2 with ⟨rfl,rfl⟩ | ⟨g,cap,cur,rfl,hb,hgg,hnc,hcm,hcs,htk⟩
 ·have hx0:xs=[]:=List.eq_nil_of_length_eq_zero (by simpa using hown.1)
  subst hx0
  refine wp_append_own w s x t hop w.heap.size e i z size bytes h1 h2 h3 h4 h5 h6 h7 _ 0 [] hs (World.ownsRow_nil _ _ _ _) ad m c news hx hn hc h1c b1 b2 (Nat.le_refl _) ?_
  intro v' w' a1 a2 a3
  obtain ⟨_,⟨h0,h00⟩ | ⟨g,cap,cur,rfl,hb,r⟩⟩:=a1
  ·rcases hm with hm | hm
   ·omega
   ·exact absurd rfl hm
  ·exact hK g cap w' ⟨‹_›,.inr ⟨g,cap,cur,rfl,Nat.zero_le _,r⟩⟩ (toTurn a2) (.inr hb)
 ·by_cases hroom:n+m≤cap
  ·subst h4
   have hlen:(xs ++ news).length=(n+m) * i.size:=by rw [List.length_append,hown.1,hn,Nat.add_mul]
   have hfit:n * i.size+news.length≤cur.size:=by rw [hn,hcs,← Nat.add_mul]; exact Nat.mul_le_mul_right _ hroom
   have hr:=run_append_room (P:=P) w t o.type e i h1 h2 g n cap cur hgg ad m c news hn hc h1c hroom hfit
   have hres:=hK g cap _ ⟨hlen,.inr ⟨g,cap,_,rfl,hb,setRow_heap w g cur (cur.toList.take (n * i.size) ++ news ++ cur.toList.drop (n * i.size+news.length)).toArray e _ hgg,hroom,hcm,by
     simp only [List.size_toArray,List.length_append,List.length_take,List.length_drop,Array.length_toList]
     omega,by
     rw [htk,← hlen]
     exact List.take_left⟩⟩ ⟨rfl,rfl,rfl,by simp,fun k _ hk => setRow_other w g k _ (fun e => hk (by simp [Value.ownBlock,e]))⟩ (.inl rfl)
   unfold Oper.wp
   simp [execOp,hop,resolve,invoke,builtin,hs,hx,hr,Result.andThen]
   simp only [List.append_assoc] at hres
   exact hres
  ·obtain ⟨v',w',hrun,a1,a2⟩:=run_append_arg_grows (P:=P) w t o.type e i z size bytes h1 h2 h3 h4 h5 h6 h7 ⟨g,0,none⟩ n cap xs hown.1 (hown.cells (g:=g) rfl) ad m c news hn hc (by omega) b1 b2
   have hres:K (a.put o.dst v') w':=by
    obtain ⟨hl,⟨h0,h00⟩ | ⟨g',cap',cur',rfl,hb',r⟩⟩:=a1
    ·omega
    ·exact hK g' cap' w' ⟨hl,.inr ⟨g',cap',cur',rfl,Nat.zero_le _,r⟩⟩ ⟨a2.os,a2.tape,a2.output,a2.size,fun k hk _ => a2.block k hk (by simp)⟩ (.inr hb')
   unfold Oper.wp
   simp [execOp,hop,resolve,invoke,builtin,hs,hx,hrun,Result.andThen]
   exact hres
theorem step_append_at {P:Program} {ops:Array Oper} {o:Oper} {a:Act} {w:World} {K:Act→World→Prop} {Q:Exit→Act→World→Prop} {E:Prop}
  (hg:o.guard=none) (s x:Operand) (t:TypeId) (hop:o.op=Op.call { callee:=Callee.builtin Builtin.append,args:=#[s,x],argTypes:=#[t,t] })
  (e:TypeId) (i:TypeInfo) (z:Value) (size bytes:Nat) (h1:P.underlying t=some (.slice e)) (h2:P.info? e=some i) (h3:i.zero=some z) (h4:i.size=size) (h5:i.bytes=bytes) (h6:z.cells.size=size) (h7:0 < size)
  (v:Value) (n:Nat) (xs:List Value) (hs:a.eval s=v) (hown:w.ownsRow 0 e size v n xs)
  (ad:Addr) (m c:Nat) (news:List Value) (hx:a.eval x=.slice (some ad) m c) (hn:news.length=m * size) (hc:∀ j u,news[j]?=some u→w.cell? (ad.add j)=some u) (h1c:∀ u∈news,u.oneCell'=true) (hm:0 < m∨v≠.slice none 0 0)
  (b1:n+m≤maxLen) (b2:(n+m) * bytes≤140737488355328)
  (hK:∀ g cap w',w'.ownsRow 0 e size (.slice (some ⟨g,0,none⟩) (n+m) cap) (n+m) (xs ++ news)→Turn (fun j => v.ownBlock=some j) w w'→(v.ownBlock=some g∨w.heap.size≤g)→K (a.put o.dst (.slice (some ⟨g,0,none⟩) (n+m) cap)) w') :
  if Region.wanted o (yielded ops a.tmps)=true then Oper.wp P o a w K Q else E:=by
 have hw:Region.wanted o (yielded ops a.tmps)=true:=by simp [Region.wanted,hg]
 rw [if_pos hw]
 exact wp_append_at hg s x t hop e i z size bytes h1 h2 h3 h4 h5 h6 h7 v n xs hs hown ad m c news hx hn hc h1c hm b1 b2 hK
theorem wpList_append_at {P:Program} {ops:Array Oper} {rest:List Oper} {o:Oper} {a:Act} {w:World} {Q:Exit→Act→World→Prop}
  (hg:o.guard=none) (s x:Operand) (t:TypeId) (hop:o.op=Op.call { callee:=Callee.builtin Builtin.append,args:=#[s,x],argTypes:=#[t,t] })
  (e:TypeId) (i:TypeInfo) (z:Value) (size bytes:Nat) (h1:P.underlying t=some (.slice e)) (h2:P.info? e=some i) (h3:i.zero=some z) (h4:i.size=size) (h5:i.bytes=bytes) (h6:z.cells.size=size) (h7:0 < size)
  (v:Value) (n:Nat) (xs:List Value) (hs:a.eval s=v) (hown:w.ownsRow 0 e size v n xs)
  (ad:Addr) (m c:Nat) (news:List Value) (hx:a.eval x=.slice (some ad) m c) (hn:news.length=m * size) (hc:∀ j u,news[j]?=some u→w.cell? (ad.add j)=some u) (h1c:∀ u∈news,u.oneCell'=true) (hm:0 < m∨v≠.slice none 0 0)
  (b1:n+m≤maxLen) (b2:(n+m) * bytes≤140737488355328)
  (hK:∀ g cap w',w'.ownsRow 0 e size (.slice (some ⟨g,0,none⟩) (n+m) cap) (n+m) (xs ++ news)→Turn (fun j => v.ownBlock=some j) w w'→(v.ownBlock=some g∨w.heap.size≤g)→wpList P ops Q rest (a.put o.dst (.slice (some ⟨g,0,none⟩) (n+m) cap)) w') :
  wpList P ops Q (o :: rest) a w :=
 wpList_plain hg fun _ hK' => wp_append_at hg s x t hop e i z size bytes h1 h2 h3 h4 h5 h6 h7 v n xs hs hown ad m c news hx hn hc h1c hm b1 b2 (fun g cap w' a1 a2 a3 => hK' _ _ (hK g cap w' a1 a2 a3))
theorem info_split {P:Program} {t:TypeId} {z:Value} {size bytes:Nat} (h:(P.info? t).map (fun i => (i.zero,i.size,i.bytes))=some (some z,size,bytes)):∃ i,P.info? t=some i∧i.zero=some z∧i.size=size∧i.bytes=bytes:=by
 cases hi:P.info? t with
 | none => rw [hi] at h; cases h
 | some i =>
  rw [hi] at h
  simp only [Option.map_some,Option.some.injEq,Prod.mk.injEq] at h
  exact ⟨i,rfl,h.1,h.2.1,h.2.2⟩
theorem info_int:(Tryz.prog.info? 3).map (fun i => (i.zero,i.size,i.bytes))=some (some (.int .i64 0),1,8):=by kernel_rfl
theorem IntsAt.of_row {w:World} {g cap n:Nat} {xs:List Int} {y:Int} (h:w.ownsRow 0 3 1 (.slice (some ⟨g,0,none⟩) n cap) n (xs.map (Value.int .i64) ++ [.int .i64 y])) (hn:n=xs.length+1):IntsAt w (.slice (some ⟨g,0,none⟩) (xs.length+1) cap) (xs ++ [y]):=by
 subst hn
 unfold IntsAt
 rw [List.length_append,List.length_singleton,List.map_append]
 exact h
theorem step_append_int {ops:Array Oper} {o:Oper} {a:Act} {w:World} {K:Act→World→Prop} {Q:Exit→Act→World→Prop} {E:Prop}
  (hg:o.guard=none) (s x:Operand) (hop:o.op=Op.call { callee:=Callee.builtin Builtin.append,args:=#[s,x],argTypes:=#[23,23] })
  (v:Value) (xs:List Int) (hs:a.eval s=v) (hi:IntsAt w v xs) (b0 c:Nat) (y:Int) (hx:a.eval x=.slice (some ⟨b0,0,none⟩) 1 c) (hc:w.cell? ⟨b0,0,none⟩=some (.int .i64 y)) (hl:xs.length≤1000000)
  (hK:∀ g cap w',IntsAt w' (.slice (some ⟨g,0,none⟩) (xs.length+1) cap) (xs ++ [y])→Turn (fun j => v.ownBlock=some j) w w'→(v.ownBlock=some g∨w.heap.size≤g)→K (a.put o.dst (.slice (some ⟨g,0,none⟩) (xs.length+1) cap)) w') :
  if Region.wanted o (yielded ops a.tmps)=true then Oper.wp Tryz.prog o a w K Q else E:=by
 obtain ⟨i0,hi0,hz0,hz1,hz2⟩:=info_split info_int
 refine step_append_at hg s x 23 hop 3 i0 (.int .i64 0) 1 8 Tryz.underlying23 hi0 hz0 hz1 hz2 rfl (by decide) v xs.length _ hs hi ⟨b0,0,none⟩ 1 c [.int .i64 y] hx rfl ?_ ?_ (.inl (by decide)) (by unfold maxLen; omega) (by omega) ?_
 ·intro j u hj
  rw [Addr.add_mid]
  cases j with
  | zero => simp at hj; subst hj; exact hc
  | succ j => simp at hj
 ·intro u hu; simp at hu; subst hu; rfl
 ·intro g cap w' h1 h2 h3
  exact hK g cap w' (IntsAt.of_row h1 rfl) h2 h3
theorem wpList_append_int {ops:Array Oper} {rest:List Oper} {o:Oper} {a:Act} {w:World} {Q:Exit→Act→World→Prop}
  (hg:o.guard=none) (s x:Operand) (hop:o.op=Op.call { callee:=Callee.builtin Builtin.append,args:=#[s,x],argTypes:=#[23,23] })
  (v:Value) (xs:List Int) (hs:a.eval s=v) (hi:IntsAt w v xs) (b0 c:Nat) (y:Int) (hx:a.eval x=.slice (some ⟨b0,0,none⟩) 1 c) (hc:w.cell? ⟨b0,0,none⟩=some (.int .i64 y)) (hl:xs.length≤1000000)
  (hK:∀ g cap w',IntsAt w' (.slice (some ⟨g,0,none⟩) (xs.length+1) cap) (xs ++ [y])→Turn (fun j => v.ownBlock=some j) w w'→(v.ownBlock=some g∨w.heap.size≤g)→wpList Tryz.prog ops Q rest (a.put o.dst (.slice (some ⟨g,0,none⟩) (xs.length+1) cap)) w') :
  wpList Tryz.prog ops Q (o :: rest) a w:=by
 obtain ⟨i0,hi0,hz0,hz1,hz2⟩:=info_split info_int
 refine wpList_append_at hg s x 23 hop 3 i0 (.int .i64 0) 1 8 Tryz.underlying23 hi0 hz0 hz1 hz2 rfl (by decide) v xs.length _ hs hi ⟨b0,0,none⟩ 1 c [.int .i64 y] hx rfl ?_ ?_ (.inl (by decide)) (by unfold maxLen; omega) (by omega) ?_
 ·intro j u hj
  rw [Addr.add_mid]
  cases j with
  | zero => simp at hj; subst hj; exact hc
  | succ j => simp at hj
 ·intro u hu; simp at hu; subst hu; rfl
 ·intro g cap w' h1 h2 h3
  exact hK g cap w' (IntsAt.of_row h1 rfl) h2 h3
section
open Go.RowKit Go.MapKept
open Go.ChangeMaps (setBlock)
set_option linter.unusedSectionVars false
section
variable {κ β:Type} [DecidableEq κ] {d:TypeDesc} {enc:κ→Value} {val:β→Value} {w:World} {mb r cnt:Nat} {m:List (κ×β)} {P:Program} {seenK:κ→Prop}
def RangeOf (w:World) (mb r:Nat) (enc:κ→Value) (val:β→Value) (m:List (κ×β)) (seenK:κ→Prop) (cnt:Nat):Prop :=
 ∃ es clock since seen c0,w.heap[mb]?=some (.map es clock)∧Stamped es clock∧es.toList.map (fun e => (e.key,e.val))=m.map (fun p => (enc p.1,val p.2))∧MNodup m ∧
  w.heap[r]?=some (.mapIter (some mb) since seen c0)∧(∀ x∈es.toList,x.born < since)∧(Go.leftOf es seen).size=cnt ∧
  (∀ (j:Nat) (x:MapEntry) (p:κ×β),es.toList[j]?=some x→m[j]?=some p→(seen.contains x.born=true ↔ seenK p.1))∧since≤c0∧since≤clock
theorem RangeOf.lt (h:RangeOf w mb r enc val m seenK cnt):mb < w.heap.size∧r < w.heap.size∧r≠mb:=by
 obtain ⟨es,clock,since,seen,c0,hb,_,_,_,hr,_⟩:=h
 refine ⟨(Array.getElem?_eq_some_iff.1 hb).1,(Array.getElem?_eq_some_iff.1 hr).1,fun e => ?_⟩
 rw [e,hb] at hr
 cases hr
theorem RangeOf.turned {S:Nat→Prop} {w':World} (h:RangeOf w mb r enc val m seenK cnt) (t:Turn S w w') (h1:¬ S mb) (h2:¬ S r):RangeOf w' mb r enc val m seenK cnt:=by
 obtain ⟨l1,l2,_⟩:=h.lt
 obtain ⟨es,clock,since,seen,c0,hb,a1,a2,a3,hr,rest⟩:=h
 exact ⟨es,clock,since,seen,c0,(t.block mb l1 h1).trans hb,a1,a2,a3,(t.block r l2 h2).trans hr,rest⟩
theorem MapIs.run_range (h:MapIs w mb d enc val m) {T kt et:TypeId} (hT:P.underlying T=some (.map kt et)) :
  ∃ w',(Instr.range T (.map (some mb))).run P w=.ok (.pointer (some ⟨w.heap.size,0,none⟩)) w'∧RangeOf w' mb w.heap.size enc val m (fun _ => False) m.length∧Turn (fun _ => False) w w'∧w'.heap.size=w.heap.size+1:=by
 have hlt:=h.lt
 obtain ⟨es,clock,hb,hs,hm⟩:=h.obj
 have hl:es.size=m.length:=by
  have:=congrArg List.length hm
  simpa using this
 refine ⟨_,run_range_map w T kt et mb es clock hT hb,⟨es,clock,clock,#[],clock,?_,hs,hm,h.nodup,(MapKept.heap_alloc w _).1,hs.1,?_,fun j x p _ _ => by simp,Nat.le_refl _,Nat.le_refl _⟩,(Turn.refl _ _).alloc _,by simp⟩
 ·exact ((MapKept.heap_alloc w _).2 mb hlt).trans hb
 ·rw [← hl]; simp [Go.leftOf]
theorem RangeOf.next (h:RangeOf w mb r enc val m seenK cnt) (ty:TypeId) :
  ((∀ p∈m,seenK p.1)∧(Instr.next (.pointer (some ⟨r,0,none⟩)) false ty).run P w=.ok (.tuple #[.bool false]) w) ∨
  ∃ p w' cnt',p∈m∧¬ seenK p.1∧(Instr.next (.pointer (some ⟨r,0,none⟩)) false ty).run P w=.ok (.tuple #[.bool true,enc p.1,val p.2]) w' ∧
   RangeOf w' mb r enc val m (fun k => seenK k∨k=p.1) cnt'∧cnt' < cnt∧Turn (fun j => j=r) w w'∧w'.heap.size=w.heap.size∧(Instr.entry (.pointer (some ⟨r,0,none⟩))).run P w'=.ok (.tuple #[enc p.1,val p.2]) w':=by
 have hne:=h.lt.2.2
 obtain ⟨es,clock,since,seen,c0,hb,hst,hm,hn,hr,hold,rfl,hsn,hsc,hsk⟩:=h
 have hlen:es.toList.length=m.length:=by
  have:=congrArg List.length hm
  simpa using this
 have pair:∀ (j:Nat) (x:MapEntry) (p:κ×β),es.toList[j]?=some x→m[j]?=some p→x.key=enc p.1∧x.val=val p.2:=fun j x p hx hp => by
  have h1:=congrArg (fun l => l[j]?) hm
  simp only [List.getElem?_map,hx,hp,Option.map_some,Option.some.injEq,Prod.mk.injEq] at h1
  exact h1
 rcases run_next_at (P:=P) w ty r mb since c0 seen es clock hr hb hold hsc with ⟨h0,hrun⟩ | ⟨e,he,w1,hal,hrun⟩
 ·refine Or.inl ⟨fun p hp => ?_,hrun⟩
  obtain ⟨j,hj⟩:=List.getElem?_of_mem hp
  obtain ⟨x,hx⟩:∃ x,es.toList[j]?=some x:=⟨_,List.getElem?_eq_getElem (by rw [hlen]; exact (List.getElem?_eq_some_iff.1 hj).1)⟩
  exact (hsn j x p hx hj).1 (all_seen es seen h0 x (List.mem_of_getElem? hx))
 ·obtain ⟨hem,hes⟩:=Go.mem_left he
  obtain ⟨j,hj⟩:=List.getElem?_of_mem hem
  obtain ⟨p,hp⟩:∃ p,m[j]?=some p:=⟨_,List.getElem?_eq_getElem (by rw [← hlen]; exact (List.getElem?_eq_some_iff.1 hj).1)⟩
  obtain ⟨k1,k2⟩:=pair j e p hj hp
  have hr1:w1.heap[r]?=some (.mapIter (some mb) since seen c0):=by rcases hal with rfl | rfl <;> exact hr
  have hb1:w1.heap[mb]?=some (.map es clock):=by rcases hal with rfl | rfl <;> exact hb
  have hset:=heap_set (o':=.mapIter (some mb) since (seen.push e.born) clock) hr1
  have hb':(setBlock w1 r (.mapIter (some mb) since (seen.push e.born) clock)).heap[mb]?=some (.map es clock):=(hset.2 mb (fun e1 => hne e1.symm)).trans hb1
  have hent:=run_entry_at (P:=P) _ r mb since seen es clock e hset.1 hb' hem hst.2.1
  rw [k1,k2] at hrun hent
  refine Or.inr ⟨p,_,_,List.mem_of_getElem? hp,fun hs => ?_,hrun,⟨es,clock,since,seen.push e.born,clock,hb',hst,hm,hn,hset.1,hold,rfl,fun i x q hx hq => ?_,hsk,hsk⟩,left_shrinks es seen e he,?_,?_,hent⟩
  ·have:=(hsn j e p hj hp).2 hs
   rw [hes] at this; cases this
  ·rw [contains_push,Bool.or_eq_true,hsn i x q hx hq,beq_iff_eq]
   constructor
   ·rintro (h1 | h1)
    ·exact .inl h1
    ·right
     have hij:i=j:=by
      have h2:(es.toList.map (·.born))[i]?=some x.born:=by rw [List.getElem?_map,hx]; rfl
      have h3:(es.toList.map (·.born))[j]?=some x.born:=by rw [List.getElem?_map,hj,h1]; rfl
      have hi:=(List.getElem?_eq_some_iff.1 h2).1
      exact (List.getElem?_inj hi hst.2.1).1 (h2.trans h3.symm)
     subst hij
     rw [hp] at hq
     cases hq; rfl
   ·rintro (h1 | h1)
    ·exact .inl h1
    ·right
     have hij:=nodup_idx hn hq hp h1
     subst hij
     rw [hj] at hx
     cases hx; rfl
  ·rcases hal with rfl | rfl <;> exact ⟨rfl,rfl,rfl,by simp [setBlock],fun i _ hi => hset.2 i (fun e1 => hi (by rw [e1]))⟩
  ·rcases hal with rfl | rfl <;> simp [setBlock]
section laws
variable {ops:Array Oper} {rest:List Oper} {o:Oper} {a:Act} {Q:Exit→Act→World→Prop}
theorem wpList_maprange (hg:o.guard=none) (mo:Operand) (T kt et:TypeId) (hop:o.op=Op.range T mo) (hT:P.underlying T=some (.map kt et)) (hm:a.eval mo=.map (some mb)) (h:MapIs w mb d enc val m)
  (hK:∀ w',RangeOf w' mb w.heap.size enc val m (fun _ => False) m.length→Turn (fun _ => False) w w'→w'.heap.size=w.heap.size+1→wpList P ops Q rest (a.put o.dst (.pointer (some ⟨w.heap.size,0,none⟩))) w'):wpList P ops Q (o :: rest) a w:=by
 refine wpList_plain hg fun K' hK' => ?_
 obtain ⟨w',hrun,r1,r2,r3⟩:=h.run_range (P:=P) hT
 unfold Oper.wp
 simp [execOp,hop,hm,hrun,Result.andThen]
 exact hK' _ _ (hK w' r1 r2 r3)
theorem wpList_mapnext (hg:o.guard=none) (it:Operand) (hop:o.op=Op.next it false) (hit:a.eval it=.pointer (some ⟨r,0,none⟩)) (h:RangeOf w mb r enc val m seenK cnt)
  (hDone:(∀ p∈m,seenK p.1)→wpList P ops Q rest (a.put o.dst (.tuple #[.bool false])) w)
  (hMore:∀ (p:κ×β) (w':World) (cnt':Nat),p∈m→¬ seenK p.1→RangeOf w' mb r enc val m (fun k => seenK k∨k=p.1) cnt'→cnt' < cnt→Turn (fun j => j=r) w w'→w'.heap.size=w.heap.size →
   (Instr.entry (.pointer (some ⟨r,0,none⟩))).run P w'=.ok (.tuple #[enc p.1,val p.2]) w'→wpList P ops Q rest (a.put o.dst (.tuple #[.bool true,enc p.1,val p.2])) w'):wpList P ops Q (o :: rest) a w:=by
 refine wpList_plain hg fun K' hK' => ?_
 unfold Oper.wp
 rcases h.next (P:=P) o.type with ⟨h0,hrun⟩ | ⟨p,w',cnt',h1,h2,hrun,h3,h4,h5,h6,h7⟩
 ·simp [execOp,hop,hit,hrun,Result.andThen]
  exact hK' _ _ (hDone h0)
 ·simp [execOp,hop,hit,hrun,Result.andThen]
  exact hK' _ _ (hMore p w' cnt' h1 h2 h3 h4 h5 h6 h7)
end laws
end
end
section
open Go.RowKit Go.Extern.Stop Go.Stop Go.Extern
/-! ### closed facts on the model's entries for internal/reflectlite,at this program's types ('27': *api.Errno,'25': api.Errno) -/
theorem AsF.valueOf27 (t:Addr) (w:World):(ReflectliteValue.unpack (.iface 133 (.pointer (some t)))).run Tryz.prog w
 =.ok (.agg #[.pointer (some ⟨7,133,none⟩),.pointer (some ⟨w.heap.size,0,none⟩),.int .u64 150]) (w.alloc (.cells #[.pointer (some t)] 133)):=by kernel_rfl
theorem AsF.type27 (a:Addr) (w:World):(ReflectliteValue.methodAny (ReflectliteValue.valueError "reflectlite.Value.Type" 0) (fun t _ _ _ => ReflectliteType.toType t) #[.agg #[.pointer (some ⟨7,133,none⟩),.pointer (some a),.int .u64 150]]).run Tryz.prog w
 =.ok (.iface 337 (.agg #[.pointer (some ⟨7,133,none⟩)])) w:=by kernel_rfl
theorem AsF.methodKind (h:Value) (w:World):(Go.method 581 337 (.agg #[h]) "Kind").run Tryz.prog w=.ok (363,h) w:=by kernel_rfl
theorem AsF.kind27 (w:World):((ReflectliteType.abiMethod fun t => (fun a:Nat => Value.int IntKind.u8 (a:Int)) <$> Rtype.kind t) #[.pointer (some ⟨7,133,none⟩)]).run Tryz.prog w=.ok (.int .u8 22) w:=by kernel_rfl
theorem AsF.kind25 (w:World):((ReflectliteType.abiMethod fun t => (fun a:Nat => Value.int IntKind.u8 (a:Int)) <$> Rtype.kind t) #[.pointer (some ⟨7,36,none⟩)]).run Tryz.prog w=.ok (.int .u8 2) w:=by kernel_rfl
/-! ### THE ENTRIES THAT READ OR WRITE MEMORY: laws with a premise on the cell (after Derived/Lib/ReflectliteSlice.lean's manner: each unfolding a lemma of its own,by rfl) -/
theorem rlm (z:Sem Value) (f:TypeId→Addr→Nat→Nat→Sem Value) (v:Value) :
  ReflectliteValue.method z f #[v]=(do match ← ReflectliteValue.parts v with | none => z | some (t,a,fl) => f t a fl (fl % 32)):=rfl
theorem AsF.parts27 (a:Addr) (w:World):(ReflectliteValue.parts (.agg #[.pointer (some ⟨7,133,none⟩),.pointer (some a),.int .u64 150])).run Tryz.prog w=.ok (some (133,a,150)) w:=by kernel_rfl
theorem AsF.isNil27 (a p:Addr) (W:World) (ha:W.cell? a=some (.pointer (some p))) :
  (ReflectliteValue.method (ReflectliteValue.valueError "reflectlite.Value.IsNil" 0) ReflectliteValue.isNil #[.agg #[.pointer (some ⟨7,133,none⟩),.pointer (some a),.int .u64 150]]).run Tryz.prog W=.ok (.bool false) W:=by
 rw [rlm]
 simp only [Sem.run_bind,AsF.parts27,Result.andThen]
 simp [ReflectliteValue.isNil,loadVar,isAgg,underlying,Tryz.underlying133,ha,Result.andThen]
theorem AsF.methodElem (h:Value) (w:World):(Go.method 581 337 (.agg #[h]) "Elem").run Tryz.prog w=.ok (379,.agg #[h]) w:=by kernel_rfl
theorem AsF.methodImplements (h:Value) (w:World):(Go.method 581 337 (.agg #[h]) "Implements").run Tryz.prog w=.ok (380,.agg #[h]) w:=by kernel_rfl
theorem AsF.methodAssignableTo (h:Value) (w:World):(Go.method 581 337 (.agg #[h]) "AssignableTo").run Tryz.prog w=.ok (377,.agg #[h]) w:=by kernel_rfl
theorem AsF.elem27 (w:World):(ReflectliteType.method ReflectliteType.elem #[.agg #[.pointer (some ⟨7,133,none⟩)]]).run Tryz.prog w=.ok (.iface 337 (.agg #[.pointer (some ⟨7,36,none⟩)])) w:=by kernel_rfl
theorem AsF.implements25 (w:World):(ReflectliteType.relation "Implements" ReflectliteType.implements_ #[.agg #[.pointer (some ⟨7,36,none⟩)],.iface 337 (.agg #[.pointer (some ⟨7,27,none⟩)])]).run Tryz.prog w=.ok (.bool true) w:=by kernel_rfl
theorem AsF.typeOf25 (v:Value) (w:World):(ReflectliteType.typeOf #[.iface 36 v]).run Tryz.prog w=.ok (.iface 337 (.agg #[.pointer (some ⟨7,36,none⟩)])) w:=by kernel_rfl
theorem AsF.assignable25 (w:World):(ReflectliteType.relation "AssignableTo" ReflectliteType.assignableTo #[.agg #[.pointer (some ⟨7,36,none⟩)],.iface 337 (.agg #[.pointer (some ⟨7,36,none⟩)])]).run Tryz.prog w=.ok (.bool true) w:=by kernel_rfl
theorem AsF.valueOf25 (e:Int) (w:World):(ReflectliteValue.unpack (.iface 36 (.int .i64 e))).run Tryz.prog w
 =.ok (.agg #[.pointer (some ⟨7,36,none⟩),.pointer (some ⟨w.heap.size,0,none⟩),.int .u64 130]) (w.alloc (.cells #[.int .i64 e] 36)):=by kernel_rfl
theorem AsF.elemOf27 (w:World):(Rtype.elem? 133).run Tryz.prog w=.ok (some 36) w:=by kernel_rfl
theorem AsF.mk25 (p:Addr) (w:World):(ReflectliteValue.mk 36 p ReflectliteValue.flagAddr).run Tryz.prog w=.ok (.agg #[.pointer (some ⟨7,36,none⟩),.pointer (some p),.int .u64 386]) w:=by kernel_rfl
theorem AsF.elemV27 (a p:Addr) (W:World) (ha:W.cell? a=some (.pointer (some p))) :
  (ReflectliteValue.method (ReflectliteValue.valueError "reflectlite.Value.Elem" 0) ReflectliteValue.elem #[.agg #[.pointer (some ⟨7,133,none⟩),.pointer (some a),.int .u64 150]]).run Tryz.prog W
  =.ok (.agg #[.pointer (some ⟨7,36,none⟩),.pointer (some p),.int .u64 386]) W:=by
 rw [rlm]
 simp only [Sem.run_bind,AsF.parts27,Result.andThen]
 simp [ReflectliteValue.elem,loadVar,isAgg,underlying,Tryz.underlying133,ha,Result.andThen,AsF.elemOf27,AsF.mk25]
theorem rls (v x:Value):ReflectliteValue.set #[v,x]=(do
  let (some (dst,a,fl),some (src,b,_)):=(← ReflectliteValue.parts v,← ReflectliteValue.parts x)
   | unsupported (.noEntry "extern/(internal/reflectlite.Value).Set.zeroValue")
  if fl / ReflectliteValue.flagAddr % 2 == 0 then unsupported (.noEntry "extern/(internal/reflectlite.Value).Set.unaddressable")
  let val ← loadVar src b
  if ← Rtype.directlyAssignable dst src then storeVar dst a val
  else if ← Rtype.implements dst src then
   if (← Rtype.kind src) == 20 then
    match val with
    | .nilIface => unsupported (.noEntry "extern/reflectlite: a nil value of one interface type handed on as a value of another")
    | _ => storeVar dst a val
   else storeVar dst a (.iface src val)
  else panicString ("reflectlite.Set: value of type " ++ (← Rtype.spelt src) ++ " is not assignable to type " ++ (← Rtype.spelt dst))
  pure (.tuple #[])):=rfl
theorem AsF.parts25a (a:Addr) (w:World):(ReflectliteValue.parts (.agg #[.pointer (some ⟨7,36,none⟩),.pointer (some a),.int .u64 386])).run Tryz.prog w=.ok (some (36,a,386)) w:=by kernel_rfl
theorem AsF.parts25 (a:Addr) (w:World):(ReflectliteValue.parts (.agg #[.pointer (some ⟨7,36,none⟩),.pointer (some a),.int .u64 130])).run Tryz.prog w=.ok (some (36,a,130)) w:=by kernel_rfl
theorem AsF.direct25 (w:World):(Rtype.directlyAssignable 36 36).run Tryz.prog w=.ok true w:=by kernel_rfl
theorem AsF.set25 (ta b:Addr) (e:Int) (old:Value) (W:World) (hb:W.cell? b=some (.int .i64 e)) (ht:W.cell? ta=some old) (hf:W.frozen? ta=false) :
  (ReflectliteValue.set #[.agg #[.pointer (some ⟨7,36,none⟩),.pointer (some ta),.int .u64 386],.agg #[.pointer (some ⟨7,36,none⟩),.pointer (some b),.int .u64 130]]).run Tryz.prog W
  =.ok (.tuple #[]) (W.setCell ta (.int .i64 e)):=by
 rw [rls]
 simp only [Sem.run_bind,AsF.parts25a,AsF.parts25,Result.andThen]
 simp [ReflectliteValue.flagAddr,loadVar,isAgg,underlying,Tryz.underlying36,hb,Result.andThen,AsF.direct25,storeVar,Value.cells,storeCells,Addr.add]
 rw [run_store Tryz.prog W ta _ _ (by rfl)]
 simp [ht,hf]
theorem as_hit (e:Int) (t:Addr) (old:Value) (w:World) (hg:w.cell? ⟨0,0,none⟩=some (.iface 337 (.agg #[.pointer (some ⟨7,27,none⟩)]))) (ht0:w.cell? t=some old) (hf0:w.frozen? t=false) :
  Calls Tryz.prog 64 #[.iface 36 (.int .i64 e),.iface 133 (.pointer (some t))] w fun ev w' => ev=.returned (.bool true)∧w'=((((w.alloc (.cells #[.pointer (some t)] 133)).alloc (.cells #[.pointer (some ⟨7,133,none⟩),.pointer (some ⟨w.heap.size,0,none⟩),.int .u64 150] 253)).alloc (.cells #[.pointer (some ⟨7,133,none⟩),.pointer (some ⟨w.heap.size,0,none⟩),.int .u64 150] 253)).alloc (.cells #[.int .i64 e] 36)).setCell t (.int .i64 e):=by
 have h6:=@run_callFunc_extern Tryz.prog 144 _ (fun args => ReflectliteValue.unpack (args.getD 0 (.tuple #[]))) Tryz.func144 (by kernel_rfl) (by kernel_rfl) (by kernel_rfl) (by kernel_rfl)
 have h7:=@run_callFunc_extern Tryz.prog 145 _ (ReflectliteValue.methodAny (ReflectliteValue.valueError "reflectlite.Value.Type" 0) (fun t _ _ _ => ReflectliteType.toType t)) Tryz.func145 (by kernel_rfl) (by kernel_rfl) (by kernel_rfl) (by kernel_rfl)
 have h8:=@run_callFunc_extern Tryz.prog 146 _ (ReflectliteValue.method (ReflectliteValue.valueError "reflectlite.Value.IsNil" 0) ReflectliteValue.isNil) Tryz.func146 (by kernel_rfl) (by kernel_rfl) (by kernel_rfl) (by kernel_rfl)
 have h27:=@run_callFunc_extern Tryz.prog 363 _ (ReflectliteType.abiMethod fun t => do pure (.int .u8 (← Rtype.kind t))) Tryz.func363 (by kernel_rfl) (by kernel_rfl) (by kernel_rfl) (by kernel_rfl)
 have h37:=@run_callFunc_extern Tryz.prog 379 _ (ReflectliteType.method ReflectliteType.elem) Tryz.func379 (by kernel_rfl) (by kernel_rfl) (by kernel_rfl) (by kernel_rfl)
 have h38:=@run_callFunc_extern Tryz.prog 380 _ (ReflectliteType.relation "Implements" ReflectliteType.implements_) Tryz.func380 (by kernel_rfl) (by kernel_rfl) (by kernel_rfl) (by kernel_rfl)
 have h10:=@run_callFunc_extern Tryz.prog 223 _ ReflectliteType.typeOf Tryz.func223 (by kernel_rfl) (by kernel_rfl) (by kernel_rfl) (by kernel_rfl)
 have h35:=@run_callFunc_extern Tryz.prog 377 _ (ReflectliteType.relation "AssignableTo" ReflectliteType.assignableTo) Tryz.func377 (by kernel_rfl) (by kernel_rfl) (by kernel_rfl) (by kernel_rfl)
 have h11:=@run_callFunc_extern Tryz.prog 224 _ (ReflectliteValue.method (ReflectliteValue.valueError "reflectlite.Value.Elem" 0) ReflectliteValue.elem) Tryz.func224 (by kernel_rfl) (by kernel_rfl) (by kernel_rfl) (by kernel_rfl)
 have h12:=@run_callFunc_extern Tryz.prog 225 _ ReflectliteValue.set Tryz.func225 (by kernel_rfl) (by kernel_rfl) (by kernel_rfl) (by kernel_rfl)
 have tO:=AsF.typeOf25
 have mA:=AsF.methodAssignableTo
 have a25:=AsF.assignable25
 have v25:=AsF.valueOf25
 have f6:=AsF.valueOf27
 have f7:=AsF.type27
 have mK:=AsF.methodKind
 have mE:=AsF.methodElem
 have mI:=AsF.methodImplements
 have k27:=AsF.kind27
 have k25:=AsF.kind25
 have e27:=AsF.elem27
 have i25:=AsF.implements25
 have n8:=AsF.isNil27 ⟨w.heap.size,0,none⟩ t ((w.alloc (.cells #[.pointer (some t)] 133)).alloc (.cells #[.pointer (some ⟨7,133,none⟩),.pointer (some ⟨w.heap.size,0,none⟩),.int .u64 150] 253)) (by simp)
 have hlt:(⟨0,0,none⟩:Addr).block < w.heap.size:=World.block_lt_of_cell? _ _ hg
 have hg2:((w.alloc (.cells #[.pointer (some t)] 133)).alloc (.cells #[.pointer (some ⟨7,133,none⟩),.pointer (some ⟨w.heap.size,0,none⟩),.int .u64 150] 253)).cell? ⟨0,0,none⟩=some (.iface 337 (.agg #[.pointer (some ⟨7,27,none⟩)])):=by
  rw [World.cell?_alloc_lt _ _ ⟨0,0,none⟩ (by simp only [World.size_alloc]; exact Nat.lt_succ_of_lt hlt),World.cell?_alloc_lt _ _ ⟨0,0,none⟩ hlt]; exact hg
 have htl:t.block < w.heap.size:=by
  rcases Nat.lt_or_ge t.block w.heap.size with h | h
  ·exact h
  ·simp [World.cell?,Array.getElem?_eq_none h] at ht0
 have el:=AsF.elemV27 ⟨w.heap.size,0,none⟩ t (((w.alloc (.cells #[.pointer (some t)] 133)).alloc (.cells #[.pointer (some ⟨7,133,none⟩),.pointer (some ⟨w.heap.size,0,none⟩),.int .u64 150] 253)).alloc (.cells #[.pointer (some ⟨7,133,none⟩),.pointer (some ⟨w.heap.size,0,none⟩),.int .u64 150] 253)) (by rw [World.cell?_alloc_lt _ _ ⟨w.heap.size,0,none⟩ (by simp; omega)]; simp)
 have st:=AsF.set25 t ⟨w.heap.size+1+1+1,0,none⟩ e old ((((w.alloc (.cells #[.pointer (some t)] 133)).alloc (.cells #[.pointer (some ⟨7,133,none⟩),.pointer (some ⟨w.heap.size,0,none⟩),.int .u64 150] 253)).alloc (.cells #[.pointer (some ⟨7,133,none⟩),.pointer (some ⟨w.heap.size,0,none⟩),.int .u64 150] 253)).alloc (.cells #[.int .i64 e] 36))
  (by rw [World.cell?_alloc_at _ _ _ _ (by simp)]; rfl)
  (by rw [World.cell?_alloc_lt _ _ t (by simp; omega),World.cell?_alloc_lt _ _ t (by simp; omega),World.cell?_alloc_lt _ _ t (by simp; omega),World.cell?_alloc_lt _ _ t htl]; exact ht0)
  (by rw [World.frozen?_alloc_old _ _ t (by simp; omega),World.frozen?_alloc_old _ _ t (by simp; omega),World.frozen?_alloc_old _ _ t (by simp; omega),World.frozen?_alloc_old _ _ t (Nat.ne_of_lt htl)]; exact hf0)
 go_enter Tryz.func64,Tryz.ntmps64
 go_wp2
 refine wp_loop_rounds 1 ?_
 rw [rounds_succ]
 go_wp2
 go_ret
 exact ⟨rfl,rfl⟩
end
def Laid (w:World):Prop:=w.cell? ⟨0,0,none⟩=some (.iface 337 (.agg #[.pointer (some ⟨7,27,none⟩)]))
theorem Laid.turned {S:Nat→Prop} {w w1:World} (h:Laid w) (t:Turn S w w1) (hn:¬ S 0):Laid w1:=by
 unfold Laid at h ⊢
 rw [t.cell (lt_of_cell h) hn]; exact h
theorem Laid.turned0 {w w1:World} (h:Laid w) (t:Turn (fun _ => False) w w1):Laid w1:=h.turned t id
theorem Laid.lt {w:World} (h:Laid w):0 < w.heap.size:=lt_of_cell h
theorem tell_nil (w:World):Calls Tryz.prog 17 #[.nilIface] w fun e w' => e=.returned (.int .i64 0)∧w'=w:=by
 go_enter Tryz.func17,Tryz.ntmps17
 go_wp2
 go_ret
 exact ⟨rfl,rfl⟩
theorem tell_errno (z:Int) (w:World) (hg:Laid w) :
  Calls Tryz.prog 17 #[.iface 36 (.int .i64 z)] w fun e w' => e=.returned (.int .i64 z)∧Turn (fun _ => False) w w':=by
 have hlt:=hg.lt
 have ha:=as_hit z ⟨w.heap.size,0,none⟩ (.int .i64 0) (w.alloc (.cells #[.int .i64 0] 36)) (by rw [World.cell?_alloc_lt _ _ _ hlt]; exact hg) (by simp) (by simp)
 go_enter Tryz.func17,Tryz.ntmps17
 go_wp2_with fail
 refine ha.mono ?_
 rintro e w1 ⟨rfl,rfl⟩
 go_wp2_with fail
 go_ret
 refine ⟨rfl,?_⟩
 exact ((((Turn.refl _ _).alloc _).alloc _).alloc _ |>.alloc _).alloc _
section
open Go.RowKit Go.MapKept
open Go.ChangeMaps (setBlock)
set_option linter.unusedSectionVars false
end
section
open Go.RowKit Go.MapKept
section
variable {κ β:Type} [DecidableEq κ] {d:TypeDesc} {enc:κ→Value} {val:β→Value} {w:World} {m:List (κ×β)} {P:Program}
variable {ops:Array Oper} {rest:List Oper} {o:Oper} {a:Act} {Q:Exit→Act→World→Prop}
theorem wpList_insput (hg:o.guard=none) (mo x vo:Operand) (T kt et:TypeId) (hop:o.op=.insert T mo x vo) (hT:P.underlying T=some (.map kt et)) (hd:P.underlying kt=some d) (K:KeyEnc d enc)
  (b:Nat) (hm:a.eval mo=.map (some b)) (h:MapIs w b d enc val m) (k:κ) (hx:a.eval x=enc k) (v:β) (hv:a.eval vo=val v)
  (hK:∀ w',MapIs w' b d enc val (mput m k v)→Turn (fun j => j=b) w w'→wpList P ops Q rest (a.put o.dst undef) w'):wpList P ops Q (o :: rest) a w:=by
 refine wpList_plain hg fun K' hK' => ?_
 obtain ⟨w',hrun,r1,r2⟩:=h.run_update K hT hd k v
 unfold Oper.wp
 simp [execOp,hop,hm,hx,hv,hrun,Result.andThen]
 exact hK' _ _ (hK w' r1 r2)
end
end
def Reads1In (xs:List Int) (w:World) (S:Nat→Prop) (g:Nat) (lb:Array Value) (p:Int→Bool):Prop :=
 ∀ (w1:World) (x:Int),x∈xs→Turn S w w1→Calls Tryz.prog g (#[.int .i64 x] ++ lb) w1 fun e w' => e=.returned (.bool (p x))∧Turn (fun _ => False) w1 w'
theorem indexFunc_intsIn {w:World} {v:Value} {xs:List Int} (h:IntsAt w v xs) (hl:xs.length≤1000000) (p:Int→Bool) (g:Nat) (lb:Array Value) (eg:∀ args w,(callFunc g args).run Tryz.prog w=.ok (.enter g args) w)
  (hp:Reads1In xs w (fun _ => False) g lb p) :
  Calls Tryz.prog 178 #[v,.func (.func g) #[] lb] w (FoundBy xs p w):=by
 rcases h.shape with ⟨rfl,rfl⟩ | ⟨b,cap,rfl,_,_,_⟩
 ·clear h hp
  go_enter Tryz.func178,Tryz.ntmps178
  go_wp2_with fail
  refine wp_loop_rounds 1 ?_
  rw [rounds_succ]
  go_wp2_with fail
  go_ret
  exact ⟨-1,rfl,Turn.refl _ _,.inl ⟨rfl,by simp⟩⟩
 ·have H:=hid h
  have HP:=hid hp
  clear h hp
  go_enter Tryz.func178,Tryz.ntmps178
  go_wp2_with fail
  go_loopw [8] (fun i wr => ∃ j:Nat,j≤xs.length∧i=.int .i64 j∧(∀ y∈xs.take j,p y=false)∧Turn (fun _ => False) w wr) (fun i _ => xs.length - (intOf i).toNat)
  case atStart => exact ⟨0,Nat.zero_le _,rfl,by simp,Turn.refl _ _⟩
  case round =>
   obtain ⟨j,hj,rfl,hno,hT⟩:=hrel
   have HN:=hid hno
   have HT:=hid hT
   clear hno hT
   by_cases hlt:j < xs.length
   ·obtain ⟨y,hy⟩:∃ y,xs[j]?=some y:=⟨_,List.getElem?_eq_getElem hlt⟩
    have hc:=(H.out.turned HT.out (fun _ _ => id)).cell j y hy
    have HY:=hid hy
    clear hy
    have hcall:=HP.out wr y (List.mem_of_getElem? HY.out) HT.out
    cases hq:p y with
    | true =>
     rw [hq] at hcall
     have HQ:=hid hq
     clear hq
     have HC:=hid hcall
     clear hcall
     go_wp2_with (go_at_fn g; refine HC.out.mono ?_; rintro e w' ⟨rfl,t1⟩)
     have HT1:=hid (HT.out.trans ‹_›)
     go_ret
     exact ⟨j,rfl,HT1.out,.inr ⟨j,y,HY.out,HQ.out,rfl,HN.out⟩⟩
    | false =>
     rw [hq] at hcall
     have HQ:=hid hq
     clear hq
     have HC:=hid hcall
     clear hcall
     go_wp2_with (go_at_fn g; refine HC.out.mono ?_; rintro e w' ⟨rfl,t1⟩)
     have HT1:=hid (HT.out.trans ‹_›)
     go_roundw
     case rel => exact ⟨j+1,by omega,by go_num,by
      intro z hz
      rw [List.take_add_one,HY.out] at hz
      rcases List.mem_append.1 hz with hz | hz
      ·exact HN.out z hz
      ·simp at hz; rw [hz]; exact HQ.out,HT1.out⟩
     case measure => simp [intOf]; omega
   ·have hj':j=xs.length:=by omega
    subst hj'
    rw [List.take_length] at HN
    go_wp2_with fail
    go_ret
    exact ⟨-1,rfl,HT.out,.inl ⟨rfl,HN.out⟩⟩
theorem deleteFunc_intsIn {w:World} {v:Value} {xs:List Int} (h:IntsAt w v xs) (hl:xs.length≤1000000) (p:Int→Bool) (g:Nat) (lb:Array Value) (eg:∀ args w,(callFunc g args).run Tryz.prog w=.ok (.enter g args) w)
  (hp:Reads1In xs w (fun k => v.ownBlock=some k) g lb p) :
  Calls Tryz.prog 176 #[v,.func (.func g) #[] lb] w (DeletedBy xs p v w):=by
 have hidx:=indexFunc_intsIn h hl p g lb eg (fun w1 x hx t => hp w1 x hx (t.mono fun _ _ h => h.elim))
 have HI:=hid hidx
 clear hidx
 rcases h.shape with ⟨rfl,rfl⟩ | ⟨b,cap,rfl,hc1,hc2,hb⟩
 ·clear hp
  have H:=hid h
  clear h
  go_enter Tryz.func176,Tryz.ntmps176
  go_wp2_with fail
  refine HI.out.mono ?_
  rintro e w1 ⟨r,rfl,t1,⟨rfl,_⟩ | ⟨j,x,hj,_⟩⟩
  ·have HT:=hid t1
   clear t1
   go_wp2_with fail
   go_ret
   exact ⟨_,rfl,H.out.turned HT.out (fun g h => by cases h),rfl,HT.out.mono fun _ _ h => h.elim⟩
  ·simp at hj
 ·unfold maxLen at hc2
  have H:=hid h
  have HP:=hid hp
  clear h hp
  go_enter Tryz.func176,Tryz.ntmps176
  go_wp2_with fail
  refine HI.out.mono ?_
  rintro e w1 ⟨r,rfl,t1,⟨rfl,hno⟩ | ⟨i0,x0,hx0,hp0,rfl,hno⟩⟩
  ·have HT:=hid t1
   have HN:=hid hno
   clear t1 hno
   go_wp2_with fail
   go_ret
   exact ⟨_,rfl,by rw [filter_none HN.out]; exact H.out.turned HT.out (fun _ _ => id),rfl,HT.out.mono fun _ _ h => h.elim⟩
  ·have hi0:i0 < xs.length:=(List.getElem?_eq_some_iff.1 hx0).1
   have HT:=hid t1
   have HN:=hid hno
   have HX:=hid hx0
   have HP0:=hid hp0
   clear t1 hno hx0 hp0
   have q0:((i0:Int) == -1)=false:=beq_eq_false_iff_ne.2 (by omega)
   have q1:((i0:Int) != -1)=true:=bne_iff_ne.2 (by omega)
   go_wp2_with fail
   go_loopw [5,6,7] (fun i j _ wr => ∃ (n m:Nat) (ys:List Int),i=.int .i64 n∧j=.int .i64 ((m:Int)+1)∧m < xs.length∧n≤m∧Hid (ys.length=xs.length)∧Hid (ys.take n=(xs.take (m+1)).filter fun x => !p x)∧Hid (ys.drop (m+1)=xs.drop (m+1))∧Hid (IntsAt wr (.slice (some ⟨b,0,none⟩) ys.length cap) ys)∧Hid (Turn (fun k => k=b) w wr)) (fun _ j _ _ => xs.length - (intOf j).toNat)
   case atStart =>
    refine ⟨i0,i0,xs,rfl,rfl,hi0,Nat.le_refl _,hid rfl,hid ?_,hid rfl,hid (H.out.turned HT.out (fun _ _ => id)),hid (HT.out.mono fun _ _ h => h.elim)⟩
    rw [take_more HX.out,List.filter_append,filter_none HN.out,List.filter_cons_of_neg (by rw [HP0.out]; simp)]
    simp
   case round =>
    obtain ⟨n,m,ys,rfl,rfl,hm,hn,hy1,hy2,hy3,hy4,hT⟩:=hrel
    by_cases hlt:m+1 < xs.length
    ·obtain ⟨y,hy⟩:∃ y,xs[m+1]?=some y:=⟨_,List.getElem?_eq_getElem hlt⟩
     have hyy:ys[m+1]?=some y:=by
      have e:=congrArg List.head? hy3.out
      rw [List.head?_drop,List.head?_drop] at e
      rw [e,hy]
     have hc:=hy4.out.cell (m+1) y hyy
     obtain ⟨y',hy'⟩:∃ y',ys[n]?=some y':=⟨_,List.getElem?_eq_getElem (by rw [hy1.out]; omega)⟩
     have hcn:=hy4.out.cell n y' hy'
     have hfn:=hy4.out.frozen n
     have HL:Hid (ys.length=xs.length):=hy1
     have HY:=hid hy
     clear hyy hy'
     clear hy
     have hcall:=HP.out wr y (List.mem_of_getElem? HY.out) (hT.out.mono fun k _ e => by subst e; rfl)
     have q2:((m:Int)+1).toNat=m+1:=by omega
     have q3:(m:Int)+1 < (xs.length:Int):=by omega
     cases hq:p y with
     | true =>
      rw [hq] at hcall
      have HQ:=hid hq
      clear hq
      have HC:=hid hcall
      clear hcall
      go_wp2_with (go_at_fn g; refine HC.out.mono ?_; rintro e w' ⟨rfl,t1⟩)
      have HT1:=hid (‹Turn (fun _ => False) wr _›)
      go_roundw
      case rel =>
       refine ⟨n,m+1,ys,rfl,by go_num,hlt,by omega,HL,hid ?_,hid ?_,hid (hy4.out.turned HT1.out (fun _ _ => id)),hid (hT.out.trans (HT1.out.mono fun _ _ h => h.elim))⟩
       ·rw [take_more HY.out,List.filter_append,← hy2.out,List.filter_cons_of_neg (by rw [HQ.out]; simp)]
        simp
       ·have:=congrArg (List.drop 1) hy3.out
        rw [List.drop_drop,List.drop_drop] at this
        exact this
      case measure => simp [intOf]; omega
     | false =>
      rw [hq] at hcall
      have HQ:=hid hq
      clear hq
      have HC:=hid hcall
      clear hcall
      go_wp2_with (go_at_fn g; refine HC.out.mono ?_; rintro e w' ⟨rfl,t1⟩; have hcn2:=(Turn.cell t1 (a:=⟨b,n,none⟩) (lt_of_cell hcn) id).trans hcn; have hfn2:=(Turn.frozen t1 (a:=⟨b,n,none⟩) (lt_of_cell hcn) id).trans hfn)
      have HT1:=hid (‹Turn (fun _ => False) wr _›)
      go_roundw
      case rel =>
       refine ⟨n+1,m+1,ys.set n y,by go_num,by go_num,hlt,by omega,hid (by rw [List.length_set]; exact HL.out),hid ?_,hid ?_,hid ?_,hid ((hT.out.trans (HT1.out.mono fun _ _ h => h.elim)).setCell _ _ (fun _ => rfl))⟩
       ·have hny:n < ys.length:=by rw [HL.out]; omega
        rw [take_more HY.out,List.filter_append,← hy2.out,List.filter_cons_of_pos (by rw [HQ.out]; rfl),List.take_add_one,List.getElem?_set_self hny,List.take_set_of_le (Nat.le_refl _)]
        simp
       ·have:=congrArg (List.drop 1) hy3.out
        rw [List.drop_drop,List.drop_drop] at this
        rw [List.drop_set_of_lt (by omega)]
        exact this
       ·have:=(hy4.out.turned HT1.out (fun _ _ => id)).set n y
        rw [List.length_set]
        exact this
      case measure => simp [intOf]; omega
    ·have hm':m+1=xs.length:=by omega
     have hN:n≤xs.length:=by omega
     have HL:Hid (ys.length=xs.length):=hy1
     have hcl:∀ ty,(Builtin.clear_ #[23] ty #[.slice (some ⟨b,n,none⟩) (xs.length - n) (cap - n)]).run Tryz.prog wr=.ok (.tuple #[]) (wr.setCells b n (List.replicate (xs.length - n) (.int .i64 0))) :=
      fun ty => Lib.run_clear_slice wr _ _ ty _ Tryz.underlying23 zeroI rfl rfl b n _ _ (by omega) (fun t ht => by
       obtain ⟨z,hz⟩:∃ z,ys[n+t]?=some z:=⟨_,List.getElem?_eq_getElem (by rw [HL.out]; omega)⟩
       rw [hy4.out.cell (n+t) z hz]; rfl) (fun t ht => hy4.out.frozen (n+t))
     have q3:¬ ((m:Int)+1 < (xs.length:Int)):=by omega
     have HM:=hid hm'
     clear hm'
     go_wp2_with fail
     go_ret
     have hz:=hy4.out.cleared n (List.replicate (xs.length - n) 0) (by rw [List.length_replicate,HL.out]; omega)
     have hz2:IntsAt (wr.setCells b n (List.replicate (xs.length - n) (.int .i64 0))) (.slice (some ⟨b,0,none⟩) (ys.take n ++ List.replicate (xs.length - n) 0).length cap) (ys.take n ++ List.replicate (xs.length - n) 0):=by
      rw [List.map_replicate] at hz
      have e:(ys.take n ++ List.replicate (xs.length - n) 0).length=ys.length:=by simp [HL.out]; omega
      rw [e]; exact hz
     have hz3:=hz2.prefix n (by simp [HL.out]; omega)
     have e1:(ys.take n ++ List.replicate (xs.length - n) 0).take n=ys.take n:=by
      rw [List.take_append_of_le_length (by simp [HL.out]; omega),List.take_take,Nat.min_self]
     have e2:(ys.take n).length=n:=by simp [HL.out]; omega
     rw [e1,e2] at hz3
     have e3:xs.filter (fun x => !p x)=ys.take n:=by rw [hy2.out,HM.out,List.take_length]
     exact ⟨_,rfl,by rw [e3]; exact hz3,rfl,(hT.out.mono fun k _ e => by subst e; rfl).setCells _ _ _ (fun _ => rfl)⟩
structure LedgerIs (w:World) (p:Nat) (u m:Nat→Int):Prop where
 cu:∀ k,k < 3→w.cell? ⟨p,k,none⟩=some (.int .i64 (u k))
 cm:∀ k,k < 3→w.cell? ⟨p,3+k,none⟩=some (.int .i64 (m k))
 fz:∀ i,w.frozen? ⟨p,i,none⟩=false
theorem LedgerIs.lt {w:World} {p:Nat} {u m:Nat→Int} (h:LedgerIs w p u m):p < w.heap.size:=lt_of_cell (h.cu 0 (by decide))
theorem LedgerIs.turned {w w':World} {p:Nat} {u m:Nat→Int} {S:Nat→Prop} (h:LedgerIs w p u m) (t:Turn S w w') (hn:¬ S p):LedgerIs w' p u m :=
 ⟨fun k hk => (t.cell (a:=⟨p,k,none⟩) h.lt hn).trans (h.cu k hk),fun k hk => (t.cell (a:=⟨p,3+k,none⟩) h.lt hn).trans (h.cm k hk),fun i => (t.frozen (a:=⟨p,i,none⟩) h.lt hn).trans (h.fz i)⟩
def Fit (u m:Nat→Int):Prop:=∀ k,k < 3→0≤u k∧u k≤1000000∧0≤m k∧m k≤1000000
def upd (f:Nat→Int) (k:Nat) (n:Int):Nat→Int:=fun j => if j=k then n else f j
theorem upd_same (f:Nat→Int) (k:Nat) (n:Int):upd f k n k=n:=by simp [upd]
theorem upd_other (f:Nat→Int) {k j:Nat} (n:Int) (h:j≠k):upd f k n j=f j:=by simp [upd,h]
theorem LedgerIs.setMost {w:World} {p:Nat} {u m:Nat→Int} (h:LedgerIs w p u m) (k:Nat) (hk:k < 3) (n:Int):LedgerIs (w.setCell ⟨p,3+k,none⟩ (.int .i64 n)) p u (upd m k n):=by
 refine ⟨fun j hj => ?_,fun j hj => ?_,fun i => by rw [World.frozen?_setCell]; exact h.fz i⟩
 ·rw [World.cell?_setCell_other _ _ _ _ (by intro e; injection e with _ e; omega)]; exact h.cu j hj
 ·by_cases e:j=k
  ·subst e; rw [upd_same]; exact World.cell?_setCell_same _ _ _ (h.cm j hj)
  ·rw [World.cell?_setCell_other _ _ _ _ (by intro e; injection e with _ e; omega),upd_other _ _ e]; exact h.cm j hj
theorem aright_yes (k:Nat) (hk:k < 3) (w:World):Calls Tryz.prog 133 #[.int .i64 k] w fun e w' => e=.returned (.bool true)∧w=w':=by
 have h1:(0:Int)≤k:=by omega
 have h2:(k:Int) < 3:=by omega
 go_enter Tryz.func133,Tryz.ntmps133
 go_wp2
 go_ret
 exact ⟨rfl,rfl⟩
theorem aright_no (k:Int) (hk:k < 0∨3≤k) (w:World):Calls Tryz.prog 133 #[.int .i64 k] w fun e w' => e=.returned (.bool false)∧w=w':=by
 rcases hk with h1 | h1
 ·have h2:decide (0≤k)=false:=by rw [decide_eq_false_iff_not]; omega
  go_enter Tryz.func133,Tryz.ntmps133
  go_wp2
  go_ret
  exact ⟨rfl,rfl⟩
 ·have h2:0≤k:=by omega
  have h3:decide (k < 3)=false:=by rw [decide_eq_false_iff_not]; omega
  go_enter Tryz.func133,Tryz.ntmps133
  go_wp2
  go_ret
  exact ⟨rfl,rfl⟩
theorem limit_arg {w:World} (p:Nat) (k n:Int) (hk:k < 0∨3≤k):Calls Tryz.prog 50 #[.pointer (some ⟨p,0,none⟩),.int .i64 k,.int .i64 n] w fun e w' => e=.returned (.iface 36 (.int .i64 1))∧w=w':=by
 have H:=hid (aright_no k hk)
 clear hk
 go_enter Tryz.func50,Tryz.ntmps50
 go_wp2_with fail
 refine (H.out w).mono ?_
 rintro e w' ⟨rfl,rfl⟩
 go_wp2_with fail
 go_ret
 exact ⟨rfl,rfl⟩
theorem limit_range {w:World} (p k:Nat) (n:Int) (hk:k < 3) (hn:n < 0∨1000000 < n):Calls Tryz.prog 50 #[.pointer (some ⟨p,0,none⟩),.int .i64 k,.int .i64 n] w fun e w' => e=.returned (.iface 36 (.int .i64 2))∧w=w':=by
 have H:=hid (aright_yes k hk)
 rcases hn with h1 | h1
 ·go_enter Tryz.func50,Tryz.ntmps50
  go_wp2_with fail
  refine (H.out w).mono ?_
  rintro e w' ⟨rfl,rfl⟩
  go_wp2_with fail
  go_ret
  exact ⟨rfl,rfl⟩
 ·have h2:¬ n < 0:=by omega
  go_enter Tryz.func50,Tryz.ntmps50
  go_wp2_with fail
  refine (H.out w).mono ?_
  rintro e w' ⟨rfl,rfl⟩
  go_wp2_with fail
  go_ret
  exact ⟨rfl,rfl⟩
theorem limit_ok {w:World} {p:Nat} {u m:Nat→Int} (h:LedgerIs w p u m) (k:Nat) (n:Int) (hk:k < 3) (h0:0≤n) (h1:n≤1000000):Calls Tryz.prog 50 #[.pointer (some ⟨p,0,none⟩),.int .i64 k,.int .i64 n] w fun e w' => e=.returned .nilIface∧LedgerIs w' p u (upd m k n)∧Turn (fun j => j=p) w w':=by
 have H:=hid (aright_yes k hk)
 have hc:=h.cm k hk
 have hf:=h.fz (3+k)
 have hk':(k:Int) < 3:=by omega
 have HL:=hid h
 clear h
 go_enter Tryz.func50,Tryz.ntmps50
 go_wp2_with fail
 refine (H.out w).mono ?_
 rintro e w' ⟨rfl,rfl⟩
 go_wp2_with fail
 go_ret
 exact ⟨rfl,HL.out.setMost k hk n,(Turn.refl _ _).setCell _ _ (fun _ => rfl)⟩
theorem aused_is {w:World} {p:Nat} {u m:Nat→Int} (h:LedgerIs w p u m) (k:Nat) (hk:k < 3):Calls Tryz.prog 87 #[.pointer (some ⟨p,0,none⟩),.int .i64 k] w fun e w' => e=.returned (.int .i64 (u k))∧w=w':=by
 have H:=hid (aright_yes k hk)
 have hc:=h.cu k hk
 have hk':(k:Int) < 3:=by omega
 clear h
 go_enter Tryz.func87,Tryz.ntmps87
 go_wp2_with fail
 refine (H.out w).mono ?_
 rintro e w' ⟨rfl,rfl⟩
 go_wp2_with fail
 go_ret
 exact ⟨rfl,rfl⟩
theorem most_is {w:World} {p:Nat} {u m:Nat→Int} (h:LedgerIs w p u m) (k:Nat) (hk:k < 3):Calls Tryz.prog 62 #[.pointer (some ⟨p,0,none⟩),.int .i64 k] w fun e w' => e=.returned (.int .i64 (m k))∧w=w':=by
 have H:=hid (aright_yes k hk)
 have hc:=h.cm k hk
 have hk':(k:Int) < 3:=by omega
 clear h
 go_enter Tryz.func62,Tryz.ntmps62
 go_wp2_with fail
 refine (H.out w).mono ?_
 rintro e w' ⟨rfl,rfl⟩
 go_wp2_with fail
 go_ret
 exact ⟨rfl,rfl⟩
def AsksAt (w:World) (b off:Nat) (xs:List (Int×Int)):Prop :=
 ∀ j x,xs[j]?=some x→w.cell? ⟨b,off+j * 2,none⟩=some (.int .i64 x.1)∧w.cell? ⟨b,off+j * 2+1,none⟩=some (.int .i64 x.2)
theorem AsksAt.turned {w w':World} {b off:Nat} {xs:List (Int×Int)} {S:Nat→Prop} (h:AsksAt w b off xs) (t:Turn S w w') (hb:b < w.heap.size) (hn:¬ S b):AsksAt w' b off xs :=
 fun j f hf => ⟨(t.cell (a:=⟨b,off+j * 2,none⟩) hb hn).trans (h j f hf).1,(t.cell (a:=⟨b,off+j * 2+1,none⟩) hb hn).trans (h j f hf).2⟩
def why (u m:Nat→Int) (x:Int×Int):Int :=
 if x.1 < 0∨3≤x.1 then 1 else if x.2 < -1000000∨1000000 < x.2 then 2 else if 0 < x.2∧m x.1.toNat < u x.1.toNat+x.2 then 4 else if u x.1.toNat+x.2 < 0 then 6 else 0
def done (u:Nat→Int) (x:Int×Int):Nat→Int:=upd u x.1.toNat (u x.1.toNat+x.2)
def chg (m:Nat→Int):(Nat→Int)→List (Int×Int)→Nat→(Int×Nat) ⊕ (Nat→Int)
 | u,[],_ => .inr u
 | u,x :: xs,i => if why u m x=0 then chg m (done u x) xs (i+1) else .inl (why u m x,i)
theorem chg_snoc (m:Nat→Int):∀ (xs:List (Int×Int)) (u v:Nat→Int) (i:Nat) (ys:List (Int×Int)),chg m u xs i=.inr v→chg m u (xs ++ ys) i=chg m v ys (i+xs.length)
 | [],u,v,i,ys,h => by simp only [chg,Sum.inr.injEq] at h; subst h; simp
 | x :: xs,u,v,i,ys,h => by
  simp only [List.cons_append,chg] at h ⊢
  split at h
  ·rename_i h0
   rw [if_pos h0,chg_snoc m xs _ v _ ys h]
   simp only [List.length_cons]
   rw [show i+1+xs.length=i+(xs.length+1) by omega]
  ·cases h
theorem fit_done {u m:Nat→Int} (h:Fit u m) {x:Int×Int} (h0:why u m x=0):Fit (done u x) m:=by
 intro k hk
 obtain ⟨a,b,c,d⟩:=h k hk
 unfold done
 by_cases e:k=x.1.toNat
 ·subst e
  rw [upd_same]
  unfold why at h0
  split at h0
  ·cases h0
  ·split at h0
   ·cases h0
   ·split at h0
    ·cases h0
    ·split at h0
     ·cases h0
     ·rename_i _ _ h3 h4
      refine ⟨by omega,?_,c,d⟩
      by_cases hx:0 < x.2
      ·simp only [not_and] at h3; have:=h3 hx; omega
      ·omega
 ·rw [upd_other _ _ e]; exact ⟨a,b,c,d⟩
structure NowIs (w:World) (nb:Nat) (v:Nat→Int):Prop where
 c:∀ k,k < 3→w.cell? ⟨nb,k,none⟩=some (.int .i64 (v k))
 f:∀ k,w.frozen? ⟨nb,k,none⟩=false
theorem NowIs.turned {w w':World} {nb:Nat} {v:Nat→Int} {S:Nat→Prop} (h:NowIs w nb v) (t:Turn S w w') (hn:¬ S nb):NowIs w' nb v :=
 ⟨fun k hk => (t.cell (a:=⟨nb,k,none⟩) (lt_of_cell (h.c k hk)) hn).trans (h.c k hk),fun k => (t.frozen (a:=⟨nb,k,none⟩) (show nb < _ from lt_of_cell (h.c 0 (by decide))) hn).trans (h.f k)⟩
theorem NowIs.set {w:World} {nb:Nat} {v:Nat→Int} (h:NowIs w nb v) (k:Nat) (hk:k < 3) (n:Int):NowIs (w.setCell ⟨nb,k,none⟩ (.int .i64 n)) nb (upd v k n):=by
 refine ⟨fun j hj => ?_,fun j => by rw [World.frozen?_setCell]; exact h.f j⟩
 by_cases e:j=k
 ·subst e; rw [upd_same]; exact World.cell?_setCell_same _ _ _ (h.c j hj)
 ·rw [World.cell?_setCell_other _ _ _ _ (by intro e; injection e with _ e; omega),upd_other _ _ e]; exact h.c j hj
theorem at_cell0 (w:World) (o:Obj) (x y:Value) (t:TypeId):((w.alloc o).alloc (.cells #[x,y] t)).cell? ⟨w.heap.size+1,0,none⟩=some x:=by
 rw [show w.heap.size+1=(w.alloc o).heap.size from (World.size_alloc _ _).symm]; exact World.cell?_alloc_new _ _ _ _
theorem at_cell1 (w:World) (o:Obj) (x y:Value) (t:TypeId):((w.alloc o).alloc (.cells #[x,y] t)).cell? ⟨w.heap.size+1,1,none⟩=some y:=by
 rw [show w.heap.size+1=(w.alloc o).heap.size from (World.size_alloc _ _).symm]; exact World.cell?_alloc_new _ _ _ _
theorem LedgerIs.setUsed {w:World} {p:Nat} {u m:Nat→Int} (h:LedgerIs w p u m) (k:Nat) (hk:k < 3) (n:Int):LedgerIs (w.setCell ⟨p,k,none⟩ (.int .i64 n)) p (upd u k n) m:=by
 refine ⟨fun j hj => ?_,fun j hj => ?_,fun i => by rw [World.frozen?_setCell]; exact h.fz i⟩
 ·by_cases e:j=k
  ·subst e; rw [upd_same]; exact World.cell?_setCell_same _ _ _ (h.cu j hj)
  ·rw [World.cell?_setCell_other _ _ _ _ (by intro e; injection e with _ e; omega),upd_other _ _ e]; exact h.cu j hj
 ·rw [World.cell?_setCell_other _ _ _ _ (by intro e; injection e with _ e; omega)]; exact h.cm j hj
theorem LedgerIs.same {w:World} {p:Nat} {u u' m:Nat→Int} (h:LedgerIs w p u m) (he:∀ k,k < 3→u k=u' k):LedgerIs w p u' m:=⟨fun k hk => by rw [← he k hk]; exact h.cu k hk,h.cm,h.fz⟩
theorem LedgerIs.setAll {w:World} {p:Nat} {u m:Nat→Int} (h:LedgerIs w p u m) (v:Nat→Int):LedgerIs (((w.setCell ⟨p,0,none⟩ (.int .i64 (v 0))).setCell ⟨p,1,none⟩ (.int .i64 (v 1))).setCell ⟨p,2,none⟩ (.int .i64 (v 2))) p v m :=
 (((h.setUsed 0 (by decide) (v 0)).setUsed 1 (by decide) (v 1)).setUsed 2 (by decide) (v 2)).same (fun k hk => by
  match k,hk with
  | 0,_ => simp [upd]
  | 1,_ => simp [upd]
  | 2,_ => simp [upd])
theorem turn_set1 (w:World) (p i:Nat) (v:Value):Turn (fun k => k=p) w (w.setCell ⟨p,i,none⟩ v):=(Turn.refl _ _).setCell _ _ (fun _ => rfl)
theorem turn_setAll (w:World) (p:Nat) (a b c:Value):Turn (fun j => j=p) w (((w.setCell ⟨p,0,none⟩ a).setCell ⟨p,1,none⟩ b).setCell ⟨p,2,none⟩ c) :=
 ((turn_set1 w p 0 a).trans (turn_set1 _ p 1 b)).trans (turn_set1 _ p 2 c)
def ChargeBad (m u:Nat→Int) (xs:List (Int×Int)) (w:World) (e:Ending) (w':World):Prop :=
 ∃ (er:Int) (i b:Nat),chg m u xs 0=.inl (er,i)∧er≠0∧e=.returned (.iface 246 (.pointer (some ⟨b,0,none⟩)))∧w'.cell? ⟨b,0,none⟩=some (.int .i64 er)∧w'.cell? ⟨b,1,none⟩=some (.int .i64 i)∧w.heap.size≤b∧Turn (fun _ => False) w w'
def ChargeFine (p:Nat) (m u:Nat→Int) (xs:List (Int×Int)) (w:World) (e:Ending) (w':World):Prop :=
 ∃ v,chg m u xs 0=.inr v∧Fit v m∧e=.returned .nilIface∧LedgerIs w' p v m∧Turn (fun j => j=p) w w'
def ChargeRes (p:Nat) (m u:Nat→Int) (xs:List (Int×Int)) (w:World) (e:Ending) (w':World):Prop:=ChargeFine p m u xs w e w'∨ChargeBad m u xs w e w'
theorem charge_any {w:World} {p:Nat} {u m:Nat→Int} (h:LedgerIs w p u m) (hf:Fit u m) (a:Option Addr) (xs:List (Int×Int)) (cap:Nat) (hl:xs.length≤1000000)
  (hc:xs≠[]→∃ b off,a=some ⟨b,off,none⟩∧AsksAt w b off xs∧b < w.heap.size) :
  Calls Tryz.prog 60 #[.pointer (some ⟨p,0,none⟩),.slice a xs.length cap] w (ChargeRes p m u xs w):=by
 have HL:=hid h
 have HF:=hid hf
 have HC:=hid hc
 have hltp:=h.lt
 have c0:=h.cu 0 (by decide)
 have c1:=h.cu 1 (by decide)
 have c2:=h.cu 2 (by decide)
 have HN:Hid (NowIs (w.alloc (.cells #[.int .i64 (u 0),.int .i64 (u 1),.int .i64 (u 2)] 67)) w.heap.size u):=hid ⟨fun k hk => by
  match k,hk with
  | 0,_ => simp
  | 1,_ => simp
  | 2,_ => simp,fun k => by simp⟩
 have HT0:Hid (Turn (fun _ => False) w (w.alloc (.cells #[.int .i64 (u 0),.int .i64 (u 1),.int .i64 (u 2)] 67))):=hid ((Turn.refl _ _).alloc _)
 clear h hf hc
 go_enter Tryz.func60,Tryz.ntmps60
 go_wp2_with fail
 go_loopw [15] (fun i wr => ∃ (j:Nat) (v:Nat→Int),j≤xs.length∧i=.int .i64 j∧Hid (chg m u (xs.take j) 0=.inr v)∧Hid (Fit v m)∧Hid (NowIs wr w.heap.size v)∧Hid (Turn (fun _ => False) w wr)) (fun i _ => xs.length - (intOf i).toNat)
 case atStart => exact ⟨0,u,Nat.zero_le _,rfl,hid rfl,HF,HN,HT0⟩
 case round =>
  clear HN HT0
  obtain ⟨j,v,hj,rfl,hR,hF,hN,hT⟩:=hrel
  by_cases hlt:j < xs.length
  ·obtain ⟨x,hx⟩:∃ x,xs[j]?=some x:=⟨_,List.getElem?_eq_getElem hlt⟩
   obtain ⟨b,off,rfl,hA,hb⟩:=HC.out (by rintro rfl; simp at hlt)
   obtain ⟨d0,d1⟩:=hA.turned hT.out hb id j _ hx
   have hblt:=Nat.lt_of_lt_of_le hb hT.out.size
   obtain ⟨k,n⟩:=x
   simp only at d0 d1
   have HX:=hid hx
   clear hA hx
   have HB:Hid (∀ er,er≠0→why v m (k,n)=er→chg m u xs 0=.inl (er,j)):=hid (fun er h0 he => by
    have e1:xs=xs.take j ++ (k,n) :: xs.drop (j+1):=by
     obtain ⟨_,h2⟩:=List.getElem?_eq_some_iff.1 HX.out
     rw [← h2,List.getElem_cons_drop]; simp
    have h3:=chg_snoc m _ u v 0 ((k,n) :: xs.drop (j+1)) hR.out
    rw [← e1] at h3
    rw [h3]
    simp only [chg]
    rw [if_neg (by rw [he]; exact h0),he]
    congr 2
    rw [List.length_take]; omega)
   by_cases hk:k < 0∨3≤k
   ·have HW:=hid (HB.out 1 (by decide) (by unfold why; rw [if_pos hk]))
    have HRt:=hid (aright_no k hk)
    clear hk
    go_wp2_with fail
    refine (HRt.out _).mono ?_
    rintro e w1 ⟨rfl,rfl⟩
    go_wp2_with fail
    go_ret
    exact .inr ⟨_,j,_,HW.out,by decide,rfl,at_cell0 _ _ _ _ _,at_cell1 _ _ _ _ _,by have:=hT.out.size; simp; omega,((hT.out.alloc _).alloc _)⟩
   ·obtain ⟨kk,rfl⟩:∃ kk:Nat,k=kk:=⟨k.toNat,by omega⟩
    have hk3:kk < 3:=by omega
    have hk3':(kk:Int) < 3:=by omega
    have HK:=hid hk
    have HRt:=hid (aright_yes kk hk3)
    have n0:=hN.out.c kk hk3
    have nf:=hN.out.f kk
    have m0:=(HL.out.turned hT.out id).cm kk hk3
    have hpw:=(HL.out.turned hT.out id).lt
    have hnw:w.heap.size < wr.heap.size:=lt_of_cell (hN.out.c 0 (by decide))
    obtain ⟨f1,f2,f3,f4⟩:=hF.out kk hk3
    clear hk
    by_cases hr:n < -1000000∨1000000 < n
    ·have HW:=hid (HB.out 2 (by decide) (by unfold why; rw [if_neg HK.out,if_pos hr]))
     rcases hr with hr | hr
     ·go_wp2_with fail
      refine (HRt.out _).mono ?_
      rintro e w1 ⟨rfl,rfl⟩
      go_wp2_with fail
      go_ret
      exact .inr ⟨_,j,_,HW.out,by decide,rfl,at_cell0 _ _ _ _ _,at_cell1 _ _ _ _ _,by have:=hT.out.size; simp; omega,((hT.out.alloc _).alloc _)⟩
     ·have hr2:¬ n < -1000000:=by omega
      go_wp2_with fail
      refine (HRt.out _).mono ?_
      rintro e w1 ⟨rfl,rfl⟩
      go_wp2_with fail
      go_ret
      exact .inr ⟨_,j,_,HW.out,by decide,rfl,at_cell0 _ _ _ _ _,at_cell1 _ _ _ _ _,by have:=hT.out.size; simp; omega,((hT.out.alloc _).alloc _)⟩
    ·have hr1:¬ n < -1000000:=by omega
     have hr2:¬ 1000000 < n:=by omega
     have HR:=hid hr
     clear hr
     have hs:IntKind.i64.wrap (v kk+n)=v kk+n:=IntWalk.i64_in _ (by omega)
     have HS:=hid hs
     clear hs
     by_cases hov:0 < n∧m kk < v kk+n
     ·have HW:=hid (HB.out 4 (by decide) (by unfold why; rw [if_neg HK.out,if_neg HR.out,if_pos (by simpa using hov)]))
      obtain ⟨o1,o2⟩:=hov
      have hs:=HS.out
      go_wp2_with fail
      refine (HRt.out _).mono ?_
      rintro e w1 ⟨rfl,rfl⟩
      go_wp2_with fail
      go_quiet (fail)
      go_wp2_with fail
      go_ret
      exact .inr ⟨_,j,_,HW.out,by decide,rfl,at_cell0 _ _ _ _ _,at_cell1 _ _ _ _ _,by have:=hT.out.size; simp; omega,(((hT.out.alloc _).alloc _).drewN _)⟩
     ·have HO:=hid hov
      by_cases hneg:v kk+n < 0
      ·have hn0:decide (0 < n)=false:=by rw [decide_eq_false_iff_not]; omega
       have hn1:¬ 0 < n:=by omega
       have HW:=hid (HB.out 6 (by decide) (by unfold why; rw [if_neg HK.out,if_neg HR.out,if_neg (by simpa using hov),if_pos (by simpa using hneg)]))
       clear hov
       have hs:=HS.out
       go_wp2_with fail
       refine (HRt.out _).mono ?_
       rintro e w1 ⟨rfl,rfl⟩
       go_wp2_with fail
       go_quiet (fail)
       go_wp2_with fail
       go_quiet (fail)
       go_wp2_with fail
       go_ret
       exact .inr ⟨_,j,_,HW.out,by decide,rfl,at_cell0 _ _ _ _ _,at_cell1 _ _ _ _ _,by have:=hT.out.size; simp; omega,(((hT.out.alloc _).drewN _).alloc _)⟩
      ·have HW0:Hid (why v m ((kk:Int),n)=0):=hid (by unfold why; rw [if_neg HK.out,if_neg HR.out,if_neg (by simpa using hov),if_neg (by simpa using hneg)])
       by_cases hn1:0 < n
       ·have hle:¬ m kk < v kk+n:=fun h => hov ⟨hn1,h⟩
        clear hov
        have hs:=HS.out
        go_wp2_with fail
        refine (HRt.out _).mono ?_
        rintro e w1 ⟨rfl,rfl⟩
        go_wp2_with fail
        go_quiet (fail)
        obtain ⟨nq1,rfl⟩:∃ x:Nat,x=nq:=⟨_,rfl⟩
        go_wp2_with fail
        go_quiet (fail)
        obtain ⟨nq2,rfl⟩:∃ x:Nat,x=nq:=⟨_,rfl⟩
        go_wp2_with fail
        have hTa:Turn (fun _ => False) w ((wr.alloc (.cells #[.int .i64 (kk:Int),.int .i64 n] 129)).drewN (nq1+nq2)):=(hT.out.alloc _).drewN _
        have q0:((wr.alloc (.cells #[.int .i64 (kk:Int),.int .i64 n] 129)).drewN (nq1+nq2)).cell? ⟨wr.heap.size,0,none⟩=some (.int .i64 (kk:Int)):=World.cell?_alloc_new _ _ _ _
        have q1:((wr.alloc (.cells #[.int .i64 (kk:Int),.int .i64 n] 129)).drewN (nq1+nq2)).cell? ⟨wr.heap.size,1,none⟩=some (.int .i64 n):=World.cell?_alloc_new _ _ _ _
        have hNa:NowIs ((wr.alloc (.cells #[.int .i64 (kk:Int),.int .i64 n] 129)).drewN (nq1+nq2)) w.heap.size v:=hN.out.turned (((Turn.refl (fun _ => False) wr).alloc _).drewN _) id
        generalize (wr.alloc (.cells #[.int .i64 (kk:Int),.int .i64 n] 129)).drewN (nq1+nq2)=Wa at *
        have n0':=hNa.c kk hk3
        have nf':=hNa.f kk
        have HTa:=hid hTa
        have HNa:=hid hNa
        clear hTa hNa n0 nf m0
        go_region
        all_goals
         go_wp2_with fail
         go_roundw
         case rel =>
          refine ⟨j+1,done v ((kk:Int),n),by omega,by go_num,hid ?_,hid (fit_done hF.out HW0.out),hid ?_,hid ?_⟩
          ·rw [List.take_add_one,HX.out]
           have h3:=chg_snoc m _ u v 0 [((kk:Int),n)] hR.out
           simp only [chg] at h3
           rw [if_pos HW0.out] at h3
           exact h3
          ·exact ⟨(HNa.out.set kk hk3 (v kk+n)).c,(HNa.out.set kk hk3 (v kk+n)).f⟩
          ·exact ((HTa.out.trans' ((Turn.refl (fun k => k=w.heap.size) Wa).setCell ⟨w.heap.size,kk,none⟩ (.int .i64 (v kk+n)) (fun _ => rfl)) (fun k hk e => by omega)).drew)
         case measure => simp [intOf]; omega
       ·have hn0:decide (0 < n)=false:=by rw [decide_eq_false_iff_not]; omega
        clear hov
        have hs:=HS.out
        go_wp2_with fail
        refine (HRt.out _).mono ?_
        rintro e w1 ⟨rfl,rfl⟩
        go_wp2_with fail
        go_quiet (fail)
        obtain ⟨nq1,rfl⟩:∃ x:Nat,x=nq:=⟨_,rfl⟩
        go_wp2_with fail
        go_quiet (fail)
        obtain ⟨nq2,rfl⟩:∃ x:Nat,x=nq:=⟨_,rfl⟩
        go_wp2_with fail
        have hTa:Turn (fun _ => False) w ((wr.alloc (.cells #[.int .i64 (kk:Int),.int .i64 n] 129)).drewN (nq1+nq2)):=(hT.out.alloc _).drewN _
        have q0:((wr.alloc (.cells #[.int .i64 (kk:Int),.int .i64 n] 129)).drewN (nq1+nq2)).cell? ⟨wr.heap.size,0,none⟩=some (.int .i64 (kk:Int)):=World.cell?_alloc_new _ _ _ _
        have q1:((wr.alloc (.cells #[.int .i64 (kk:Int),.int .i64 n] 129)).drewN (nq1+nq2)).cell? ⟨wr.heap.size,1,none⟩=some (.int .i64 n):=World.cell?_alloc_new _ _ _ _
        have hNa:NowIs ((wr.alloc (.cells #[.int .i64 (kk:Int),.int .i64 n] 129)).drewN (nq1+nq2)) w.heap.size v:=hN.out.turned (((Turn.refl (fun _ => False) wr).alloc _).drewN _) id
        generalize (wr.alloc (.cells #[.int .i64 (kk:Int),.int .i64 n] 129)).drewN (nq1+nq2)=Wa at *
        have n0':=hNa.c kk hk3
        have nf':=hNa.f kk
        have HTa:=hid hTa
        have HNa:=hid hNa
        clear hTa hNa n0 nf m0
        go_region
        all_goals
         go_wp2_with fail
         go_roundw
         case rel =>
          refine ⟨j+1,done v ((kk:Int),n),by omega,by go_num,hid ?_,hid (fit_done hF.out HW0.out),hid ?_,hid ?_⟩
          ·rw [List.take_add_one,HX.out]
           have h3:=chg_snoc m _ u v 0 [((kk:Int),n)] hR.out
           simp only [chg] at h3
           rw [if_pos HW0.out] at h3
           exact h3
          ·exact ⟨(HNa.out.set kk hk3 (v kk+n)).c,(HNa.out.set kk hk3 (v kk+n)).f⟩
          ·exact ((HTa.out.trans' ((Turn.refl (fun k => k=w.heap.size) Wa).setCell ⟨w.heap.size,kk,none⟩ (.int .i64 (v kk+n)) (fun _ => rfl)) (fun k hk e => by omega)).drew)
         case measure => simp [intOf]; omega
  ·have hje:j=xs.length:=by omega
   subst hje
   have n0:=hN.out.c 0 (by decide)
   have n1:=hN.out.c 1 (by decide)
   have n2:=hN.out.c 2 (by decide)
   have HLw:=HL.out.turned hT.out id
   have l0:=HLw.cu 0 (by decide)
   have l1:=HLw.cu 1 (by decide)
   have l2:=HLw.cu 2 (by decide)
   have z0:=HLw.fz 0
   have z1:=HLw.fz 1
   have z2:=HLw.fz 2
   have HLW:=hid HLw
   rw [List.take_length] at hR
   clear HLw
   go_wp2_with fail
   go_ret
   refine .inl ⟨v,hR.out,hF.out,rfl,?_,?_⟩
   ·exact HLW.out.setAll v
   ·exact (hT.out.mono fun _ _ h => h.elim).trans (turn_setAll wr p _ _ _)
section
open Go.RowKit Go.Extern.Stop Go.Stop Go.Extern
theorem AsF.typeOfAt (v:Value) (w:World):(ReflectliteType.typeOf #[.iface 246 v]).run Tryz.prog w=.ok (.iface 337 (.agg #[.pointer (some ⟨7,246,none⟩)])) w:=by kernel_rfl
theorem AsF.assignableAt (w:World):(ReflectliteType.relation "AssignableTo" ReflectliteType.assignableTo #[.agg #[.pointer (some ⟨7,246,none⟩)],.iface 337 (.agg #[.pointer (some ⟨7,36,none⟩)])]).run Tryz.prog w=.ok (.bool false) w:=by kernel_rfl
theorem AsF.noAs (v:Value) (xT:TypeId) (w:World):(Instr.typeAssert (.iface 246 v) xT 342 true).run Tryz.prog w=.ok (.tuple #[.nilIface,.bool false]) w:=run_typeAssert_lacksB Tryz.underlying342 (by kernel_rfl) (by kernel_rfl) v xT w
theorem AsF.hasUnwrap (v:Value) (xT:TypeId) (w:World):(Instr.typeAssert (.iface 246 v) xT 345 true).run Tryz.prog w=.ok (.tuple #[.iface 246 v,.bool true]) w:=run_typeAssert_hasB Tryz.underlying345 (by kernel_rfl) v xT w
theorem AsF.methodUnwrap (a:Addr) (w:World):(Go.method 581 246 (.pointer (some a)) "Unwrap").run Tryz.prog w=.ok (371,.pointer (some a)) w:=by kernel_rfl
theorem as_at (e:Int) (at_:Nat) (t:Addr) (old:Value) (w:World) (hg:w.cell? ⟨0,0,none⟩=some (.iface 337 (.agg #[.pointer (some ⟨7,27,none⟩)]))) (ht0:w.cell? t=some old) (hf0:w.frozen? t=false) (hat:w.cell? ⟨at_,0,none⟩=some (.int .i64 e)) :
  Calls Tryz.prog 64 #[.iface 246 (.pointer (some ⟨at_,0,none⟩)),.iface 133 (.pointer (some t))] w fun ev w' => ev=.returned (.bool true)∧w'=((((w.alloc (.cells #[.pointer (some t)] 133)).alloc (.cells #[.pointer (some ⟨7,133,none⟩),.pointer (some ⟨w.heap.size,0,none⟩),.int .u64 150] 253)).alloc (.cells #[.pointer (some ⟨7,133,none⟩),.pointer (some ⟨w.heap.size,0,none⟩),.int .u64 150] 253)).alloc (.cells #[.int .i64 e] 36)).setCell t (.int .i64 e):=by
 have h6:=@run_callFunc_extern Tryz.prog 144 _ (fun args => ReflectliteValue.unpack (args.getD 0 (.tuple #[]))) Tryz.func144 (by kernel_rfl) (by kernel_rfl) (by kernel_rfl) (by kernel_rfl)
 have h7:=@run_callFunc_extern Tryz.prog 145 _ (ReflectliteValue.methodAny (ReflectliteValue.valueError "reflectlite.Value.Type" 0) (fun t _ _ _ => ReflectliteType.toType t)) Tryz.func145 (by kernel_rfl) (by kernel_rfl) (by kernel_rfl) (by kernel_rfl)
 have h8:=@run_callFunc_extern Tryz.prog 146 _ (ReflectliteValue.method (ReflectliteValue.valueError "reflectlite.Value.IsNil" 0) ReflectliteValue.isNil) Tryz.func146 (by kernel_rfl) (by kernel_rfl) (by kernel_rfl) (by kernel_rfl)
 have h27:=@run_callFunc_extern Tryz.prog 363 _ (ReflectliteType.abiMethod fun t => do pure (.int .u8 (← Rtype.kind t))) Tryz.func363 (by kernel_rfl) (by kernel_rfl) (by kernel_rfl) (by kernel_rfl)
 have h37:=@run_callFunc_extern Tryz.prog 379 _ (ReflectliteType.method ReflectliteType.elem) Tryz.func379 (by kernel_rfl) (by kernel_rfl) (by kernel_rfl) (by kernel_rfl)
 have h38:=@run_callFunc_extern Tryz.prog 380 _ (ReflectliteType.relation "Implements" ReflectliteType.implements_) Tryz.func380 (by kernel_rfl) (by kernel_rfl) (by kernel_rfl) (by kernel_rfl)
 have h10:=@run_callFunc_extern Tryz.prog 223 _ ReflectliteType.typeOf Tryz.func223 (by kernel_rfl) (by kernel_rfl) (by kernel_rfl) (by kernel_rfl)
 have h35:=@run_callFunc_extern Tryz.prog 377 _ (ReflectliteType.relation "AssignableTo" ReflectliteType.assignableTo) Tryz.func377 (by kernel_rfl) (by kernel_rfl) (by kernel_rfl) (by kernel_rfl)
 have h11:=@run_callFunc_extern Tryz.prog 224 _ (ReflectliteValue.method (ReflectliteValue.valueError "reflectlite.Value.Elem" 0) ReflectliteValue.elem) Tryz.func224 (by kernel_rfl) (by kernel_rfl) (by kernel_rfl) (by kernel_rfl)
 have h12:=@run_callFunc_extern Tryz.prog 225 _ ReflectliteValue.set Tryz.func225 (by kernel_rfl) (by kernel_rfl) (by kernel_rfl) (by kernel_rfl)
 have tO:=AsF.typeOf25
 have tA:=AsF.typeOfAt
 have aA:=AsF.assignableAt
 have nA:=AsF.noAs
 have hU:=AsF.hasUnwrap
 have mU:=AsF.methodUnwrap
 have hatl:(⟨at_,0,none⟩:Addr).block < w.heap.size:=World.block_lt_of_cell? _ _ hat
 have mA:=AsF.methodAssignableTo
 have a25:=AsF.assignable25
 have v25:=AsF.valueOf25
 have f6:=AsF.valueOf27
 have f7:=AsF.type27
 have mK:=AsF.methodKind
 have mE:=AsF.methodElem
 have mI:=AsF.methodImplements
 have k27:=AsF.kind27
 have k25:=AsF.kind25
 have e27:=AsF.elem27
 have i25:=AsF.implements25
 have n8:=AsF.isNil27 ⟨w.heap.size,0,none⟩ t ((w.alloc (.cells #[.pointer (some t)] 133)).alloc (.cells #[.pointer (some ⟨7,133,none⟩),.pointer (some ⟨w.heap.size,0,none⟩),.int .u64 150] 253)) (by simp)
 have hlt:(⟨0,0,none⟩:Addr).block < w.heap.size:=World.block_lt_of_cell? _ _ hg
 have hg2:((w.alloc (.cells #[.pointer (some t)] 133)).alloc (.cells #[.pointer (some ⟨7,133,none⟩),.pointer (some ⟨w.heap.size,0,none⟩),.int .u64 150] 253)).cell? ⟨0,0,none⟩=some (.iface 337 (.agg #[.pointer (some ⟨7,27,none⟩)])):=by
  rw [World.cell?_alloc_lt _ _ ⟨0,0,none⟩ (by simp only [World.size_alloc]; exact Nat.lt_succ_of_lt hlt),World.cell?_alloc_lt _ _ ⟨0,0,none⟩ hlt]; exact hg
 have htl:t.block < w.heap.size:=by
  rcases Nat.lt_or_ge t.block w.heap.size with h | h
  ·exact h
  ·simp [World.cell?,Array.getElem?_eq_none h] at ht0
 have el:=AsF.elemV27 ⟨w.heap.size,0,none⟩ t (((w.alloc (.cells #[.pointer (some t)] 133)).alloc (.cells #[.pointer (some ⟨7,133,none⟩),.pointer (some ⟨w.heap.size,0,none⟩),.int .u64 150] 253)).alloc (.cells #[.pointer (some ⟨7,133,none⟩),.pointer (some ⟨w.heap.size,0,none⟩),.int .u64 150] 253)) (by rw [World.cell?_alloc_lt _ _ ⟨w.heap.size,0,none⟩ (by simp; omega)]; simp)
 have st:=AsF.set25 t ⟨w.heap.size+1+1+1,0,none⟩ e old ((((w.alloc (.cells #[.pointer (some t)] 133)).alloc (.cells #[.pointer (some ⟨7,133,none⟩),.pointer (some ⟨w.heap.size,0,none⟩),.int .u64 150] 253)).alloc (.cells #[.pointer (some ⟨7,133,none⟩),.pointer (some ⟨w.heap.size,0,none⟩),.int .u64 150] 253)).alloc (.cells #[.int .i64 e] 36))
  (by rw [World.cell?_alloc_at _ _ _ _ (by simp)]; rfl)
  (by rw [World.cell?_alloc_lt _ _ t (by simp; omega),World.cell?_alloc_lt _ _ t (by simp; omega),World.cell?_alloc_lt _ _ t (by simp; omega),World.cell?_alloc_lt _ _ t htl]; exact ht0)
  (by rw [World.frozen?_alloc_old _ _ t (by simp; omega),World.frozen?_alloc_old _ _ t (by simp; omega),World.frozen?_alloc_old _ _ t (by simp; omega),World.frozen?_alloc_old _ _ t (Nat.ne_of_lt htl)]; exact hf0)
 have hat3:(((w.alloc (.cells #[.pointer (some t)] 133)).alloc (.cells #[.pointer (some ⟨7,133,none⟩),.pointer (some ⟨w.heap.size,0,none⟩),.int .u64 150] 253)).alloc (.cells #[.pointer (some ⟨7,133,none⟩),.pointer (some ⟨w.heap.size,0,none⟩),.int .u64 150] 253)).cell? ⟨at_,0,none⟩=some (.int .i64 e):=by
  rw [World.cell?_alloc_lt _ _ ⟨at_,0,none⟩ (by simp only [World.size_alloc]; exact Nat.lt_succ_of_lt (Nat.lt_succ_of_lt hatl)),World.cell?_alloc_lt _ _ ⟨at_,0,none⟩ (by simp only [World.size_alloc]; exact Nat.lt_succ_of_lt hatl),World.cell?_alloc_lt _ _ ⟨at_,0,none⟩ hatl]; exact hat
 go_enter Tryz.func64,Tryz.ntmps64
 go_wp2
 refine wp_loop_rounds 2 ?_
 rw [rounds_succ]
 go_wp2
 rw [rounds_succ]
 go_wp2
 go_ret
 exact ⟨rfl,rfl⟩
theorem tell_at (z:Int) (b:Nat) (w:World) (hg:Laid w) (hat:w.cell? ⟨b,0,none⟩=some (.int .i64 z)) :
  Calls Tryz.prog 17 #[.iface 246 (.pointer (some ⟨b,0,none⟩))] w fun e w' => e=.returned (.int .i64 z)∧Turn (fun _ => False) w w':=by
 have hlt:=hg.lt
 have ha:=as_at z b ⟨w.heap.size,0,none⟩ (.int .i64 0) (w.alloc (.cells #[.int .i64 0] 36)) (by rw [World.cell?_alloc_lt _ _ _ hlt]; exact hg) (by simp) (by simp) (by rw [World.cell?_alloc_lt _ _ _ (lt_of_cell hat)]; exact hat)
 go_enter Tryz.func17,Tryz.ntmps17
 go_wp2_with fail
 refine ha.mono ?_
 rintro e w1 ⟨rfl,rfl⟩
 go_wp2_with fail
 go_ret
 refine ⟨rfl,?_⟩
 exact ((((Turn.refl _ _).alloc _).alloc _).alloc _ |>.alloc _).alloc _
end
def oScore (r a:Int):Int:=max (min (max r 0) 1000 * (100+min (max a (-100)) 100)) 0
theorem score_any (p r a:Int) (w:World) :
  Calls Tryz.prog 174 #[.agg #[.int .i64 p,.int .i64 r,.int .i64 a]] w fun e w' => e=.returned (.int .i64 (oScore r a))∧Turn (fun _ => False) w w':=by
 go_enter Tryz.func174,Tryz.ntmps174
 go_wp2
 go_region
 generalize hR:(if 1000 < (if r < 0 then 0 else r) then (1000:Int) else if r < 0 then 0 else r)=R
 generalize hA:(if 100 < (if a < -100 then -100 else a) then (100:Int) else if a < -100 then -100 else a)=A
 have hs:Hid (oScore r a=max (R * (100+A)) 0):=hid (by
  have e1:min (max r 0) 1000=R:=by omega
  have e2:min (max a (-100)) 100=A:=by omega
  unfold oScore; rw [e1,e2])
 have hR0:0≤R:=by omega
 have hR1:R≤1000:=by omega
 have hA0:-100≤A:=by omega
 have hA1:A≤100:=by omega
 clear hR hA
 have hp0:0≤R * (100+A):=Int.mul_nonneg hR0 (by omega)
 have hp1:R * (100+A)≤200000:=by
  have:=Int.mul_le_mul (a:=R) (b:=100+A) (c:=1000) (d:=200) hR1 (by omega) (by omega) (by omega)
  omega
 go_wp2
 all_goals go_ret
 all_goals exact ⟨ret_int (by rw [hs.out]; omega),((Turn.refl _ _).alloc _).drew⟩
def cmpI (x y:Int):Int:=if x < y then -1 else if y < x then 1 else 0
theorem isNaN_any (x:Int) (w:World):Calls Tryz.prog 241 #[.int .i64 x] w fun e w' => e=.returned (.bool false)∧w=w':=by
 go_enter Tryz.func241,Tryz.ntmps241
 go_wp2
 go_ret
 exact ⟨ret_bool (by simp),rfl⟩
theorem compare_any (x y:Int) (w:World):Calls Tryz.prog 173 #[.int .i64 x,.int .i64 y] w fun e w' => e=.returned (.int .i64 (cmpI x y))∧w=w':=by
 go_enter Tryz.func173,Tryz.ntmps173
 go_wp2_with (go_at_call 241; refine (isNaN_any _ _).mono ?_; rintro e w' ⟨rfl,rfl⟩)
 all_goals go_ret
 all_goals exact ⟨ret_int (by unfold cmpI; (repeat' split) <;> omega),rfl⟩
def orI (x y:Int):Int:=if x=0 then y else x
theorem or_any (b:Nat) (x y:Int) (w:World) (h0:w.cell? ⟨b,0,none⟩=some (.int .i64 x)) (h1:w.cell? ⟨b,1,none⟩=some (.int .i64 y)) :
  Calls Tryz.prog 172 #[.slice (some ⟨b,0,none⟩) 2 2] w fun e w' => e=.returned (.int .i64 (orI x y))∧w=w':=by
 by_cases hx:x=0
 ·subst hx
  by_cases hy:y=0
  ·subst hy
   go_enter Tryz.func172,Tryz.ntmps172
   go_wp2_with fail
   refine wp_loop_rounds 3 ?_
   rw [rounds_succ]
   go_wp2
   rw [rounds_succ]
   go_wp2
   rw [rounds_succ]
   go_wp2
   go_ret
   exact ⟨rfl,rfl⟩
  ·have hb:(y != 0)=true:=bne_iff_ne.2 hy
   have hv:Hid (y=orI 0 y):=hid (by simp [orI])
   clear hy
   go_enter Tryz.func172,Tryz.ntmps172
   go_wp2_with fail
   refine wp_loop_rounds 3 ?_
   rw [rounds_succ]
   go_wp2
   rw [rounds_succ]
   go_wp2
   go_ret
   exact ⟨ret_int hv.out,rfl⟩
 ·have hb:(x != 0)=true:=bne_iff_ne.2 hx
  have hv:Hid (x=orI x y):=hid (by simp [orI,hx])
  clear hx
  go_enter Tryz.func172,Tryz.ntmps172
  go_wp2_with fail
  refine wp_loop_rounds 3 ?_
  rw [rounds_succ]
  go_wp2
  go_ret
  exact ⟨ret_int hv.out,rfl⟩
def oCmp (p r a q s b:Int):Int:=orI (cmpI (oScore r a) (oScore s b)) (cmpI p q)
theorem keep6 {W:World} {B:Nat} {w1 w2:World} {p r a q s b:Value} (t:Turn (fun _ => False) w1 w2)
  (h:Turn (fun _ => False) W w1∧w1.cell? ⟨B,0,none⟩=some p∧w1.cell? ⟨B,1,none⟩=some r∧w1.cell? ⟨B,2,none⟩=some a∧w1.cell? ⟨B+1,0,none⟩=some q∧w1.cell? ⟨B+1,1,none⟩=some s∧w1.cell? ⟨B+1,2,none⟩=some b) :
  Turn (fun _ => False) W w2∧w2.cell? ⟨B,0,none⟩=some p∧w2.cell? ⟨B,1,none⟩=some r∧w2.cell? ⟨B,2,none⟩=some a∧w2.cell? ⟨B+1,0,none⟩=some q∧w2.cell? ⟨B+1,1,none⟩=some s∧w2.cell? ⟨B+1,2,none⟩=some b:=by
 obtain ⟨ht,h0,h1,h2,h3,h4,h5⟩:=h
 exact ⟨ht.trans t,(t.cell (lt_of_cell h0) id).trans h0,(t.cell (lt_of_cell h1) id).trans h1,(t.cell (lt_of_cell h2) id).trans h2,(t.cell (lt_of_cell h3) id).trans h3,(t.cell (lt_of_cell h4) id).trans h4,(t.cell (lt_of_cell h5) id).trans h5⟩
theorem init6 (w:World) (p r a q s b:Value) (T:TypeId):Turn (fun _ => False) w ((w.alloc (.cells #[p,r,a] T)).alloc (.cells #[q,s,b] T)).drew∧((w.alloc (.cells #[p,r,a] T)).alloc (.cells #[q,s,b] T)).drew.cell? ⟨w.heap.size,0,none⟩=some p ∧
  ((w.alloc (.cells #[p,r,a] T)).alloc (.cells #[q,s,b] T)).drew.cell? ⟨w.heap.size,1,none⟩=some r∧((w.alloc (.cells #[p,r,a] T)).alloc (.cells #[q,s,b] T)).drew.cell? ⟨w.heap.size,2,none⟩=some a ∧
  ((w.alloc (.cells #[p,r,a] T)).alloc (.cells #[q,s,b] T)).drew.cell? ⟨w.heap.size+1,0,none⟩=some q∧((w.alloc (.cells #[p,r,a] T)).alloc (.cells #[q,s,b] T)).drew.cell? ⟨w.heap.size+1,1,none⟩=some s ∧
  ((w.alloc (.cells #[p,r,a] T)).alloc (.cells #[q,s,b] T)).drew.cell? ⟨w.heap.size+1,2,none⟩=some b:=by
 have hz:(w.alloc (.cells #[p,r,a] T)).heap.size=w.heap.size+1:=World.size_alloc _ _
 have hB:∀ j,((w.alloc (.cells #[p,r,a] T)).alloc (.cells #[q,s,b] T)).cell? ⟨w.heap.size+1,j,none⟩=(#[q,s,b]:Array Value)[j]?:=fun j => by rw [← hz]; exact World.cell?_alloc_new _ _ _ _
 have hA:∀ j,((w.alloc (.cells #[p,r,a] T)).alloc (.cells #[q,s,b] T)).cell? ⟨w.heap.size,j,none⟩=(#[p,r,a]:Array Value)[j]?:=fun j => by
  rw [World.cell?_alloc_lt _ _ _ (by show w.heap.size < _; omega)]; exact World.cell?_alloc_new _ _ _ _
 exact ⟨(((Turn.refl _ _).alloc _).alloc _).drew,hA 0,hA 1,hA 2,hB 0,hB 1,hB 2⟩
theorem order_any (p r a q s b:Int) (w:World) :
  Calls Tryz.prog 171 #[.agg #[.int .i64 p,.int .i64 r,.int .i64 a],.agg #[.int .i64 q,.int .i64 s,.int .i64 b]] w fun e w' => e=.returned (.int .i64 (oCmp p r a q s b))∧Turn (fun _ => False) w w':=by
 go_enter Tryz.func171,Tryz.ntmps171
 go_wp2_with fail
 go_region_held3 (fun w' => Turn (fun _ => False) w w'∧w'.cell? ⟨w.heap.size,0,none⟩=some (.int .i64 p)∧w'.cell? ⟨w.heap.size,1,none⟩=some (.int .i64 r)∧w'.cell? ⟨w.heap.size,2,none⟩=some (.int .i64 a)∧w'.cell? ⟨w.heap.size+1,0,none⟩=some (.int .i64 q)∧w'.cell? ⟨w.heap.size+1,1,none⟩=some (.int .i64 s)∧w'.cell? ⟨w.heap.size+1,2,none⟩=some (.int .i64 b)) (first | exact init6 _ _ _ _ _ _ _ _ | exact keep6 t1 (by assumption) | (exact keep6 ((Turn.refl _ _).alloc _) (by assumption)) | assumption | go_keep)
  (first | (go_at_call 174; refine (score_any _ _ _ _).mono ?_; rintro e w1 ⟨rfl,t1⟩) | (go_at_call 173; refine (compare_any _ _ _).mono ?_; rintro e w1 ⟨rfl,rfl⟩) | (go_at_call 172; refine (or_any _ _ _ _ (World.cell?_alloc_new _ _ _ 0) (World.cell?_alloc_new _ _ _ 1)).mono ?_; rintro e w1 ⟨rfl,rfl⟩))
 go_wp2
 go_ret
 exact ⟨rfl,(‹Turn (fun _ => False) w _∧_›).1⟩
abbrev Cd:=Int×Int×Int
def candV (c:Cd):Value:=.agg #[.int .i64 c.1,.int .i64 c.2.1,.int .i64 c.2.2]
def CandsAt (w:World) (b off:Nat) (xs:List Cd):Prop:=∀ i c,xs[i]?=some c →
 w.cell? ⟨b,off+i * 3,none⟩=some (.int .i64 c.1)∧w.cell? ⟨b,off+i * 3+1,none⟩=some (.int .i64 c.2.1)∧w.cell? ⟨b,off+i * 3+2,none⟩=some (.int .i64 c.2.2)
def cdCmp (x y:Cd):Int:=oCmp x.1 x.2.1 x.2.2 y.1 y.2.1 y.2.2
def oBest (m:Cd) (l:List Cd):Cd:=l.foldl (fun m x => if 0 < cdCmp x m then x else m) m
theorem CandsAt.turned {w w':World} {b off:Nat} {xs:List Cd} {S:Nat→Prop} (h:CandsAt w b off xs) (t:Turn S w w') (hb:b < w.heap.size) (hn:¬ S b):CandsAt w' b off xs:=fun i c hc =>
 ⟨(t.cell (a:=⟨b,_,none⟩) hb hn).trans (h i c hc).1,(t.cell (a:=⟨b,_,none⟩) hb hn).trans (h i c hc).2.1,(t.cell (a:=⟨b,_,none⟩) hb hn).trans (h i c hc).2.2⟩
theorem keepSix {W w1 w2:World} {a0 a1 a2 a3 a4 a5:Addr} {v0 v1 v2 v3 v4 v5:Value} (t:Turn (fun _ => False) w1 w2)
  (h:Turn (fun _ => False) W w1∧w1.cell? a0=some v0∧w1.cell? a1=some v1∧w1.cell? a2=some v2∧w1.cell? a3=some v3∧w1.cell? a4=some v4∧w1.cell? a5=some v5) :
  Turn (fun _ => False) W w2∧w2.cell? a0=some v0∧w2.cell? a1=some v1∧w2.cell? a2=some v2∧w2.cell? a3=some v3∧w2.cell? a4=some v4∧w2.cell? a5=some v5:=by
 obtain ⟨ht,h0,h1,h2,h3,h4,h5⟩:=h
 exact ⟨ht.trans t,(t.cell (lt_of_cell h0) id).trans h0,(t.cell (lt_of_cell h1) id).trans h1,(t.cell (lt_of_cell h2) id).trans h2,(t.cell (lt_of_cell h3) id).trans h3,(t.cell (lt_of_cell h4) id).trans h4,(t.cell (lt_of_cell h5) id).trans h5⟩
def i64x3 (a b c:Int):Array Value:=#[.int .i64 a,.int .i64 b,.int .i64 c]
structure MaxRel (w wr:World) (m:Cd):Prop where
 turn:Turn (fun _ => False) w wr
 res:wr.heap[w.heap.size]?=some (.cells (i64x3 0 0 0) 278 (0,0))
 best:wr.heap[w.heap.size+1]?=some (.cells (i64x3 m.1 m.2.1 m.2.2) 278 (0,0))
theorem MaxRel.cells {w wr:World} {m:Cd} (h:MaxRel w wr m):wr.cell? ⟨w.heap.size+1,0,none⟩=some (.int .i64 m.1)∧wr.cell? ⟨w.heap.size+1,1,none⟩=some (.int .i64 m.2.1)∧wr.cell? ⟨w.heap.size+1,2,none⟩=some (.int .i64 m.2.2):=by
 refine ⟨?_,?_,?_⟩ <;> (rw [cell_of_row _ _ _ _ _ _ h.best]; rfl)
theorem MaxRel.after {w wr w1:World} {m:Cd} (h:MaxRel w wr m) (t:Turn (fun _ => False) wr w1):MaxRel w w1 m:=by
 have hs:w.heap.size+1 < wr.heap.size:=(Array.getElem?_eq_some_iff.1 h.best).1
 exact ⟨h.turn.trans t,(t.block _ (by omega) id).trans h.res,(t.block _ hs id).trans h.best⟩
theorem MaxRel.start (w:World) (m:Cd):MaxRel w ((w.alloc (.cells #[.int .i64 0,.int .i64 0,.int .i64 0] 278)).alloc (.cells #[.int .i64 m.1,.int .i64 m.2.1,.int .i64 m.2.2] 278)) m :=
 ⟨((Turn.refl _ _).alloc _).alloc _,heap_alloc2_old _ _ _,heap_alloc2_new _ _ _⟩
theorem MaxRel.stored {w wr:World} {m:Cd} (h:MaxRel w wr m) (c:Cd):MaxRel w (((wr.setCell ⟨w.heap.size+1,0,none⟩ (.int .i64 c.1)).setCell ⟨w.heap.size+1,1,none⟩ (.int .i64 c.2.1)).setCell ⟨w.heap.size+1,2,none⟩ (.int .i64 c.2.2)) c:=by
 have hlt:¬ (w.heap.size+1 < w.heap.size):=by omega
 refine ⟨((h.turn.setCell _ _ (fun e => absurd e hlt)).setCell _ _ (fun e => absurd e hlt)).setCell _ _ (fun e => absurd e hlt),?_,?_⟩
 ·rw [heap_setCell_other _ _ _ _ (by show w.heap.size≠w.heap.size+1; omega),heap_setCell_other _ _ _ _ (by show w.heap.size≠w.heap.size+1; omega),heap_setCell_other _ _ _ _ (by show w.heap.size≠w.heap.size+1; omega)]
  exact h.res
 ·exact heap_setCell_same _ _ _ _ _ _ (heap_setCell_same _ _ _ _ _ _ (heap_setCell_same _ _ _ _ _ _ h.best))
theorem MaxRel.frozen {w wr:World} {m:Cd} (h:MaxRel w wr m):∀ j,wr.frozen? ⟨w.heap.size+1,j,none⟩=false:=fun j => frozen_of_row _ _ _ _ _ h.best
theorem oBest_take (x0:Cd) (xs:List Cd) (j:Nat) (c:Cd) (h:xs[j]?=some c):oBest x0 (xs.take (j+1))=if 0 < cdCmp c (oBest x0 (xs.take j)) then c else oBest x0 (xs.take j):=by
 unfold oBest
 rw [List.take_add_one,h]
 simp [List.foldl_append]
theorem info_cand:(Tryz.prog.info? 278).map (·.size)=some 3:=by kernel_rfl
theorem max_any (b off cap:Nat) (x0:Cd) (xs:List Cd) (w:World) (hc:CandsAt w b off (x0 :: xs)) (hl:xs.length < 1000000) (hb:b < w.heap.size) :
  Calls Tryz.prog 170 #[.slice (some ⟨b,off,none⟩) (xs.length+1) cap,.func (.func 171) #[] #[]] w fun e w' => e=.returned (candV (oBest x0 xs))∧Turn (fun _ => False) w w':=by
 have h0:=hc 0 x0 rfl
 simp only [Nat.zero_mul,Nat.add_zero] at h0
 obtain ⟨c0,c1,c2⟩:=h0
 have HC:=hid hc
 clear hc
 go_enter Tryz.func170,Tryz.ntmps170
 go_wp2_with fail
 go_loopw [6] (fun i wr => ∃ j:Nat,j≤xs.length∧i=.int .i64 ((j:Int)+1)∧MaxRel w wr (oBest x0 (xs.take j))) (fun i _ => xs.length+1 - (intOf i).toNat)
 case atStart => exact ⟨0,Nat.zero_le _,rfl,MaxRel.start w x0⟩
 case round =>
  clear c0 c1 c2
  obtain ⟨j,hj,rfl,hR⟩:=hrel
  by_cases hlt:j < xs.length
  ·obtain ⟨c,hcj⟩:∃ c,xs[j]?=some c:=⟨_,List.getElem?_eq_getElem hlt⟩
   have ht:=oBest_take x0 xs j c hcj
   generalize oBest x0 (xs.take j)=m at hR ht
   obtain ⟨d0,d1,d2⟩:=HC.out.turned hR.turn hb id (j+1) c (by simpa using hcj)
   obtain ⟨e0,e1,e2⟩:=hR.cells
   have HT:=hid ht
   have HR:=hid hR
   have HJ:=hid hcj
   clear ht hR hcj
   go_wp2_with fail
   have q0:(0:Int)≤(j:Int)+1:=by omega
   have q1:(j:Int)+1 < ((xs.length+1:Nat):Int):=by omega
   have q2:((j:Int)+1).toNat=j+1:=by omega
   go_region_held3 (fun w' => Turn (fun _ => False) wr w'∧w'.cell? ⟨b,off+(j+1) * 3,none⟩=some (.int .i64 c.1)∧w'.cell? ⟨b,off+(j+1) * 3+1,none⟩=some (.int .i64 c.2.1)∧w'.cell? ⟨b,off+(j+1) * 3+2,none⟩=some (.int .i64 c.2.2)∧w'.cell? ⟨w.heap.size+1,0,none⟩=some (.int .i64 m.1)∧w'.cell? ⟨w.heap.size+1,1,none⟩=some (.int .i64 m.2.1)∧w'.cell? ⟨w.heap.size+1,2,none⟩=some (.int .i64 m.2.2))
    (first | exact keepSix t1 (by assumption) | exact ⟨(Turn.refl _ _).drew,d0,d1,d2,e0,e1,e2⟩ | assumption | go_keep)
    (first | (go_at_call 171; refine (order_any _ _ _ _ _ _ _).mono ?_; rintro e w1 ⟨rfl,t1⟩))
   clear q0 q1 q2
   have HR1:=hid (HR.out.after ((‹Turn (fun _ => False) wr _∧_›).1))
   obtain ⟨f0,f1,f2⟩:=HR1.out.cells
   have fz:=HR1.out.frozen
   obtain ⟨g0,g1,g2⟩:=(‹Turn (fun _ => False) wr _∧_›).2
   by_cases hgt:0 < cdCmp c m
   ·have hgt':0 < oCmp c.1 c.2.1 c.2.2 m.1 m.2.1 m.2.2:=hgt
    go_wp2_with fail
    go_roundw
    case rel => exact ⟨j+1,by omega,by go_num,by rw [HT.out,if_pos hgt]; exact HR1.out.stored c⟩
    case measure => simp [intOf]; omega
   ·have hgt':oCmp c.1 c.2.1 c.2.2 m.1 m.2.1 m.2.2≤0:=by unfold cdCmp at hgt; omega
    go_wp2_with fail
    go_roundw
    case rel => exact ⟨j+1,by omega,by go_num,by rw [HT.out,if_neg hgt]; exact HR1.out⟩
    case measure => simp [intOf]; omega
  ·have hj':j=xs.length:=by omega
   subst hj'
   rw [List.take_length] at hR
   obtain ⟨e0,e1,e2⟩:=hR.cells
   have r0:∀ k,wr.cell? ⟨w.heap.size,k,none⟩=(i64x3 0 0 0)[k]?:=fun k => cell_of_row _ _ _ _ _ _ hR.res
   have s0:=r0 0
   have s1:=r0 1
   have s2:=r0 2
   have z0:∀ k,wr.frozen? ⟨w.heap.size,k,none⟩=false:=fun k => frozen_of_row _ _ _ _ _ hR.res
   have HR:=hid hR
   clear r0 hR
   simp only [i64x3] at s0 s1 s2
   go_wp2_with fail
   refine bodyPost_ret (v:=candV (oBest x0 xs)) (results_cell_row Tryz.results170 _ _ w.heap.size 278 #[.int .i64 (oBest x0 xs).1,.int .i64 (oBest x0 xs).2.1,.int .i64 (oBest x0 xs).2.2] (0,0) _ rfl ?_ Tryz.underlying278 rfl info_cand) rfl ⟨rfl,?_⟩
   ·exact heap_setCell_same _ _ _ _ _ _ (heap_setCell_same _ _ _ _ _ _ (heap_setCell_same _ _ _ _ _ _ HR.out.res))
   ·have hlt':¬ (w.heap.size < w.heap.size):=by omega
    exact ((HR.out.turn.setCell _ _ (fun e => absurd e hlt')).setCell _ _ (fun e => absurd e hlt')).setCell _ _ (fun e => absurd e hlt')
def oVictim:List Cd→Int×Bool
 | [] => (0,false)
 | x :: xs => if oScore (oBest x xs).2.1 (oBest x xs).2.2=0 then (0,false) else ((oBest x xs).1,true)
theorem victim_none (a:Option Addr) (cap:Nat) (w:World):Calls Tryz.prog 81 #[.slice a 0 cap] w fun e w' => e=.returned (.tuple #[.int .i64 0,.bool false])∧w=w':=by
 go_enter Tryz.func81,Tryz.ntmps81
 go_wp2
 go_ret2
 exact ⟨rfl,rfl⟩
theorem victim_some (b off cap:Nat) (x0:Cd) (xs:List Cd) (w:World) (hc:CandsAt w b off (x0 :: xs)) (hl:xs.length < 1000000) (hb:b < w.heap.size) :
  Calls Tryz.prog 81 #[.slice (some ⟨b,off,none⟩) (xs.length+1) cap] w fun e w' => e=.returned (.tuple #[.int .i64 (oVictim (x0 :: xs)).1,.bool (oVictim (x0 :: xs)).2])∧Turn (fun _ => False) w w':=by
 by_cases h:oScore (oBest x0 xs).2.1 (oBest x0 xs).2.2=0
 ·have hv:Hid (oVictim (x0 :: xs)=(0,false)):=hid (by simp [oVictim,h])
  have h1:(oScore (oBest x0 xs).2.1 (oBest x0 xs).2.2 == 0)=true:=beq_iff_eq.2 h
  clear h
  go_enter Tryz.func81,Tryz.ntmps81
  go_wp2_with fail
  refine (max_any b off cap x0 xs w hc hl hb).mono ?_
  rintro e w1 ⟨rfl,t1⟩
  unfold candV
  generalize oBest x0 xs=m at h1
  go_wp2_with fail
  refine (score_any _ _ _ _).mono ?_
  rintro e w2 ⟨rfl,t2⟩
  go_wp2_with fail
  go_ret2
  rw [hv.out]
  exact ⟨rfl,(t1.alloc _).trans t2⟩
 ·have hv:Hid (oVictim (x0 :: xs)=((oBest x0 xs).1,true)):=hid (by simp [oVictim,h])
  have h1:(oScore (oBest x0 xs).2.1 (oBest x0 xs).2.2 == 0)=false:=beq_eq_false_iff_ne.2 h
  clear h
  go_enter Tryz.func81,Tryz.ntmps81
  go_wp2_with fail
  refine (max_any b off cap x0 xs w hc hl hb).mono ?_
  rintro e w1 ⟨rfl,t1⟩
  unfold candV
  generalize oBest x0 xs=m at h1 hv
  go_wp2_with fail
  refine (score_any _ _ _ _).mono ?_
  rintro e w2 ⟨rfl,t2⟩
  have hz:w1.heap.size < w2.heap.size:=by have:=t2.size; simp at this; omega
  have hc0:w2.cell? ⟨w1.heap.size,0,none⟩=some (.int .i64 m.1):=(t2.cell (a:=⟨w1.heap.size,0,none⟩) (by simp) id).trans (World.cell?_alloc_new _ _ _ _)
  go_wp2_with fail
  go_ret2
  rw [hv.out]
  exact ⟨rfl,(t1.alloc _).trans t2⟩
def pk (a n:Int):Int:=(IntKind.u64.wrap a) % n
theorem pk_nonneg (a n:Int) (h:1≤n):0≤pk a n:=Int.emod_nonneg _ (by omega)
theorem pk_lt (a n:Int) (h:1≤n):pk a n < n:=Int.emod_lt_of_pos _ (by omega)
theorem u64_nonneg (a:Int):0≤IntKind.u64.wrap a:=by
 have e:IntKind.u64.wrap a=a % 18446744073709551616:=rfl
 rw [e]; omega
theorem pick_any (a n:Int) (w:World) (hn:1≤n) (hn2:n≤1000000) :
  Calls Tryz.prog 18 #[.int .i64 a,.int .i64 n] w fun e w' => e=.returned (.int .i64 (pk a n))∧w=w':=by
 have h0:=u64_nonneg a
 have h1:=pk_lt a n hn
 have hw:Hid (wrap64 (pk a n)=pk a n):=hid (IntWalk.wrap64_in _ ⟨by have:=pk_nonneg a n hn; omega,by omega⟩)
 unfold pk at h1 hw ⊢
 go_enter Tryz.func18,Tryz.ntmps18
 go_wp2
 go_ret
 exact ⟨ret_int hw.out,rfl⟩
end Go.Proofs.YtamleilijmgoeaaGreatDoor
