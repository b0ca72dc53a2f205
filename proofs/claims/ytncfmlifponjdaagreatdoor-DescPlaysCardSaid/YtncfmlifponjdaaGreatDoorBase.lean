/- What a call turns: base notions for all walks of this seat, with no program in sight. 'Turn S w w1': of the blocks that were there in w only those in S may have turned. No condition. Maps in memory, as association lists: what look-up, store, delete, len and a fresh map do. No program in sight. Conditions: each theorem's own premises. A map literal's insert in a walk. No program in sight. Conditions: each theorem's own premises. errors.As at the target *api.Errno: of nil; of an api.Errno. Turned from the worked example Toyas. Condition: the variable errors.errorType holds what is laid. api.Tell: of nil; of an api.Errno. Condition: the variable errors.errorType holds what is laid ('Laid'). An append to what the call itself owns, as one step of a region that draws its order; small general steps. Conditions: each theorem's own premises. An append to a slice in a block of its own, told where the new slice lies: in the same block, or in a new one. Conditions: each theorem's own premises. A slice of one-cell values in a block of its own: shape, cells, append. No program in sight. Conditions: each theorem's own premises. -/
import Derived.WalkKit
import Derived.WalkSpells
import Derived.WalkLawsBesides
import Derived.Deep.MidRow
import Derived.MapKept
import Derived.Maps.OwnSet
import Derived.Maps.RangeWalk
import Derived.BigRegion
import Derived.Test.YtncfmlifponjdaaGreatDoorProg
import Derived.Test.YtncfmlifponjdaaGreatDoorChecked
import Derived.LaidEql
import Derived.Stop.Asserts
import Derived.RowKitTokens
import Derived.Deep.RegionLaw
import Derived.ArgAppend
namespace Go.Proofs.YtncfmlifponjdaaGreatDoor
open Go.RowKit
set_option linter.unusedVariables false
set_option maxHeartbeats 4000000
set_option maxRecDepth 100000
structure Turn (S:Nat→Prop) (w w':World):Prop where
  os:w'.os=w.os
  tape:w'.tape=w.tape
  output:w'.output=w.output
  size:w.heap.size≤w'.heap.size
  block:∀ k,k < w.heap.size→¬ S k→w'.heap[k]?=w.heap[k]?
namespace Turn
variable {S:Nat→Prop} {w w1 w2:World}
theorem refl (S:Nat→Prop) (w:World):Turn S w w:=⟨rfl,rfl,rfl,Nat.le_refl _,fun _ _ _ => rfl⟩
theorem mono {S':Nat→Prop} (h:Turn S w w1) (hs:∀ k,k < w.heap.size→S k→S' k):Turn S' w w1 :=
  ⟨h.os,h.tape,h.output,h.size,fun k hk hn => h.block k hk (fun s => hn (hs k hk s))⟩
theorem trans (h:Turn S w w1) (g:Turn S w1 w2):Turn S w w2 :=
  ⟨g.os.trans h.os,g.tape.trans h.tape,g.output.trans h.output,Nat.le_trans h.size g.size,
   fun k hk hn => (g.block k (Nat.lt_of_lt_of_le hk h.size) hn).trans (h.block k hk hn)⟩
theorem trans' {S':Nat→Prop} (h:Turn S w w1) (g:Turn S' w1 w2) (hs:∀ k,k < w.heap.size→S' k→S k):Turn S w w2 :=
  ⟨g.os.trans h.os,g.tape.trans h.tape,g.output.trans h.output,Nat.le_trans h.size g.size,
   fun k hk hn => (g.block k (Nat.lt_of_lt_of_le hk h.size) (fun s => hn (hs k hk s))).trans (h.block k hk hn)⟩
theorem drew (h:Turn S w w1):Turn S w w1.drew:=⟨h.os,h.tape,h.output,h.size,h.block⟩
theorem drewN (h:Turn S w w1) (n:Nat):Turn S w (w1.drewN n):=⟨h.os,h.tape,h.output,h.size,h.block⟩
theorem alloc (h:Turn S w w1) (o:Obj):Turn S w (w1.alloc o) :=
  h.trans ⟨rfl,rfl,rfl,by simp,fun k hk _ => Below.heap_alloc _ _ _ hk⟩
theorem setCell (h:Turn S w w1) (a:Addr) (v:Value) (hS:a.block < w.heap.size→S a.block):Turn S w (w1.setCell a v) :=
  h.trans' (S':=fun k => k=a.block) ⟨rfl,rfl,rfl,by simp,fun k _ hn => Below.heap_setCell _ _ _ _ hn⟩ (fun k hk e => by subst e; exact hS hk)
theorem below {B:Nat} (h:Turn (fun k => B≤k) w w1) (hB:B≤w.heap.size):Below B w w1 :=
  ⟨h.os,h.tape,h.output,h.size,fun k hk => h.block k (by omega) (by omega)⟩
theorem cell (h:Turn S w w1) {a:Addr} (ha:a.block < w.heap.size) (hn:¬ S a.block):w1.cell? a=w.cell? a :=
  World.cell?_of_block (w:=w) (h.block a.block ha hn)
theorem frozen (h:Turn S w w1) {a:Addr} (ha:a.block < w.heap.size) (hn:¬ S a.block):w1.frozen? a=w.frozen? a :=
  World.frozen?_of_block (w:=w) (h.block a.block ha hn)
theorem setCells (h:Turn S w w1) (b:Nat):∀ (vs:List Value) (o:Nat),(b < w.heap.size→S b)→Turn S w (w1.setCells b o vs):=by
  intro vs
  induction vs generalizing w1 with
  | nil => intro o _; exact h
  | cons v r ih => intro o hS; exact ih (h.setCell ⟨b,o,none⟩ v hS) (o+1) hS
end Turn
theorem lt_of_cell {w:World} {a:Addr} {v:Value} (h:w.cell? a=some v):a.block < w.heap.size:=World.block_lt_of_cell? _ _ h
theorem ret_int {k:IntKind} {a b:Int} (h:a=b):Ending.returned (.int k a)=.returned (.int k b):=by rw [h]
theorem hid {p:Prop} (h:p):Hid p:=h
section
open Go.RowKit Go.MapKept
set_option linter.unusedSectionVars false
section plain
variable {κ β:Type} [DecidableEq κ]
def mget (m:List (κ×β)) (k:κ):Option β:=(m.find? (fun p => decide (p.1=k))).map (·.2)
def mupd (m:List (κ×β)) (k:κ) (v:β):List (κ×β):=m.map fun p => if p.1=k then (p.1,v) else p
def mput (m:List (κ×β)) (k:κ) (v:β):List (κ×β):=if (mget m k).isSome then mupd m k v else m ++ [(k,v)]
def mdel (m:List (κ×β)) (k:κ):List (κ×β):=m.filter fun p => decide (p.1≠k)
def MNodup (m:List (κ×β)):Prop:=(m.map Prod.fst).Nodup
theorem mget_none {m:List (κ×β)} {k:κ} (h:∀ p∈m,p.1≠k):mget m k=none:=by
 unfold mget
 rw [List.find?_eq_none.2 (by simpa using h)]; rfl
theorem mget_none_iff {m:List (κ×β)} {k:κ}:mget m k=none ↔ ∀ p∈m,p.1≠k:=by
 constructor
 ·intro h p hp e
  unfold mget at h
  rw [Option.map_eq_none_iff,List.find?_eq_none] at h
  exact h p hp (by simpa using e)
 ·exact mget_none
theorem mget_mem {m:List (κ×β)} (hn:MNodup m) {k:κ} {v:β} (h:(k,v)∈m):mget m k=some v:=by
 induction m with
 | nil => cases h
 | cons p m ih =>
  simp only [MNodup,List.map_cons,List.nodup_cons] at hn
  unfold mget
  rw [List.find?_cons]
  by_cases e:p.1=k
  ·simp only [e,decide_true,Option.map_some,Option.some.injEq]
   rcases List.mem_cons.1 h with h1 | h1
   ·rw [← h1]
   ·exact absurd (List.mem_map.2 ⟨(k,v),h1,rfl⟩) (by rw [← e]; exact hn.1)
  ·simp only [e,decide_false]
   rcases List.mem_cons.1 h with h1 | h1
   ·exact absurd (by rw [← h1]) e
   ·exact ih hn.2 h1
theorem mem_of_mget {m:List (κ×β)} {k:κ} {v:β} (h:mget m k=some v):(k,v)∈m:=by
 unfold mget at h
 rw [Option.map_eq_some_iff] at h
 obtain ⟨p,hp,rfl⟩:=h
 have h1:=List.mem_of_find?_eq_some hp
 have h2:=List.find?_some hp
 simp only [decide_eq_true_eq] at h2
 rw [← h2]; exact h1
theorem mupd_keys (m:List (κ×β)) (k:κ) (v:β):(mupd m k v).map Prod.fst=m.map Prod.fst:=by
 unfold mupd
 rw [List.map_map]
 apply List.map_congr_left
 intro p _
 simp only [Function.comp]
 split <;> rfl
theorem mget_mupd (m:List (κ×β)) (k j:κ) (v:β):mget (mupd m k v) j=if j=k then (mget m k).map (fun _ => v) else mget m j:=by
 unfold mget mupd
 induction m with
 | nil => simp
 | cons p m ih =>
  rw [List.map_cons,List.find?_cons,List.find?_cons,List.find?_cons]
  by_cases e:p.1=k
  ·by_cases ej:j=k
   ·subst ej; simp [e]
   ·have:¬ p.1=j:=fun e2 => ej (e2.symm.trans e)
    rw [if_neg ej] at ih ⊢
    rw [if_pos e]
    simp only [this,decide_false]
    exact ih
  ·rw [if_neg e]
   by_cases ej:j=k
   ·subst ej
    rw [if_pos rfl] at ih ⊢
    simp only [e,decide_false]
    exact ih
   ·rw [if_neg ej] at ih ⊢
    by_cases e3:p.1=j
    ·simp [e3]
    ·simp only [e3,decide_false]; exact ih
theorem mget_mput (m:List (κ×β)) (k j:κ) (v:β):mget (mput m k v) j=if j=k then some v else mget m j:=by
 unfold mput
 split
 ·rename_i h
  rw [mget_mupd]
  obtain ⟨u,hu⟩:=Option.isSome_iff_exists.1 h
  rw [hu]; rfl
 ·rename_i h
  have hno:mget m k=none:=by simpa using h
  unfold mget at hno ⊢
  rw [List.find?_append]
  by_cases ej:j=k
  ·subst ej
   rw [Option.map_eq_none_iff] at hno
   rw [hno]; simp
  ·rw [if_neg ej]
   have:List.find? (fun p => decide (p.1=j)) [(k,v)]=none:=by simp [Ne.symm ej]
   rw [this]; simp
theorem mput_nodup {m:List (κ×β)} (hn:MNodup m) (k:κ) (v:β):MNodup (mput m k v):=by
 unfold mput
 split
 ·unfold MNodup; rw [mupd_keys]; exact hn
 ·rename_i h
  have hno:mget m k=none:=by simpa using h
  unfold MNodup at hn ⊢
  rw [List.map_append,List.nodup_append]
  refine ⟨hn,by simp,?_⟩
  intro a ha c hc
  simp only [List.map_cons,List.map_nil,List.mem_singleton] at hc
  subst hc
  obtain ⟨p,hp,rfl⟩:=List.mem_map.1 ha
  exact mget_none_iff.1 hno p hp
theorem mput_length (m:List (κ×β)) (k:κ) (v:β):(mput m k v).length=if (mget m k).isSome then m.length else m.length+1:=by
 unfold mput mupd; split <;> simp
theorem mget_mdel (m:List (κ×β)) (k j:κ):mget (mdel m k) j=if j=k then none else mget m j:=by
 unfold mget mdel
 rw [List.find?_filter]
 by_cases ej:j=k
 ·subst ej
  rw [if_pos rfl,Option.map_eq_none_iff,List.find?_eq_none]
  intro p _; simp
 ·rw [if_neg ej]
  congr 1
  congr 1
  funext p
  by_cases e:p.1=j
  ·simp [e,ej]
  ·simp [e]
theorem mdel_nodup {m:List (κ×β)} (hn:MNodup m) (k:κ):MNodup (mdel m k):=by
 unfold MNodup at hn ⊢
 exact ((List.filter_sublist (p:=fun p:κ×β => decide (p.1≠k)) (l:=m)).map Prod.fst).nodup hn
theorem mdel_none {m:List (κ×β)} {k:κ} (h:mget m k=none):mdel m k=m:=by
 unfold mdel
 rw [List.filter_eq_self]
 intro p hp
 simpa using mget_none_iff.1 h p hp
theorem mdel_length {m:List (κ×β)} (hn:MNodup m) {k:κ} {v:β} (h:mget m k=some v):(mdel m k).length+1=m.length:=by
 induction m with
 | nil => simp [mget] at h
 | cons p m ih =>
  simp only [MNodup,List.map_cons,List.nodup_cons] at hn
  unfold mdel
  rw [List.filter_cons]
  by_cases e:p.1=k
  ·have hno:mdel m k=m:=mdel_none (mget_none (fun q hq e2 => hn.1 (List.mem_map.2 ⟨q,hq,e2.trans e.symm⟩)))
   unfold mdel at hno
   simp only [e,ne_eq,not_true_eq_false,decide_false,Bool.false_eq_true,if_false,hno,List.length_cons]
  ·have hg:mget m k=some v:=by
    unfold mget at h ⊢
    rw [List.find?_cons] at h
    simpa [e] using h
   have:=ih hn.2 hg
   unfold mdel at this
   simp only [ne_eq] at this
   simp only [e,ne_eq,not_false_eq_true,decide_true,if_true,List.length_cons]
   omega
theorem mdel_eraseIdx {m:List (κ×β)} (hn:MNodup m) {k:κ} {v:β} {j:Nat} (h:m[j]?=some (k,v)):mdel m k=m.eraseIdx j:=by
 induction m generalizing j with
 | nil => simp at h
 | cons p m ih =>
  simp only [MNodup,List.map_cons,List.nodup_cons] at hn
  cases j with
  | zero =>
   simp only [List.getElem?_cons_zero,Option.some.injEq] at h
   subst h
   rw [List.eraseIdx_cons_zero]
   have:mdel m k=m:=mdel_none (mget_none (fun q hq e2 => hn.1 (List.mem_map.2 ⟨q,hq,e2⟩)))
   unfold mdel at this ⊢
   rw [List.filter_cons,if_neg (by simp)]
   exact this
  | succ j =>
   simp only [List.getElem?_cons_succ] at h
   have hpk:p.1≠k:=fun e2 => hn.1 (List.mem_map.2 ⟨(k,v),List.mem_of_getElem? h,e2.symm⟩)
   rw [List.eraseIdx_cons_succ]
   have:=ih hn.2 h
   unfold mdel at this ⊢
   rw [List.filter_cons,if_pos (by simpa using hpk),this]
theorem map_eraseIdx' {α γ:Type} (f:α→γ):∀ (l:List α) (j:Nat),(l.eraseIdx j).map f=(l.map f).eraseIdx j
 | [],j => by cases j <;> rfl
 | a :: l,0 => by simp
 | a :: l,j+1 => by simp [map_eraseIdx' f l j]
theorem nodup_idx {m:List (κ×β)} (hn:MNodup m):∀ {i j:Nat} {p q:κ×β},m[i]?=some p→m[j]?=some q→p.1=q.1→i=j:=by
 induction m with
 | nil => intro i j p q h; simp at h
 | cons a m ih =>
  simp only [MNodup,List.map_cons,List.nodup_cons] at hn
  intro i j p q hi hj e
  cases i with
  | zero =>
   cases j with
   | zero => rfl
   | succ j =>
    simp only [List.getElem?_cons_zero,Option.some.injEq] at hi
    simp only [List.getElem?_cons_succ] at hj
    subst hi
    exact absurd (List.mem_map.2 ⟨q,List.mem_of_getElem? hj,e.symm⟩) hn.1
  | succ i =>
   cases j with
   | zero =>
    simp only [List.getElem?_cons_zero,Option.some.injEq] at hj
    simp only [List.getElem?_cons_succ] at hi
    subst hj
    exact absurd (List.mem_map.2 ⟨p,List.mem_of_getElem? hi,e⟩) hn.1
   | succ j =>
    simp only [List.getElem?_cons_succ] at hi hj
    rw [ih hn.2 hi hj e]
end plain
structure KeyEnc {κ:Type} (d:TypeDesc) (enc:κ→Value):Prop where
 key:∀ k,IsKey d (enc k)
 inj:∀ a b,enc a=enc b→a=b
def encI (n:Int):Value:=.int .i64 n
def encS (s:ByteArray):Value:=.string s
theorem keyI:KeyEnc (.int .i64) encI:=⟨fun _ => by simp [IsKey,encI],fun a b h => by simp only [encI,Value.int.injEq,true_and] at h; exact h⟩
theorem keyS:KeyEnc .string encS:=⟨fun _ => by simp [IsKey,encS],fun a b h => by simp only [encS,Value.string.injEq] at h; exact h⟩
section
variable {κ β:Type} [DecidableEq κ] {d:TypeDesc} {enc:κ→Value} {val:β→Value} {w:World} {b:Nat} {m:List (κ×β)} {P:Program}
structure MapIs (w:World) (b:Nat) (d:TypeDesc) (enc:κ→Value) (val:β→Value) (m:List (κ×β)):Prop where
 obj:∃ es clock,w.heap[b]?=some (.map es clock)∧Stamped es clock∧es.toList.map (fun e => (e.key,e.val))=m.map (fun p => (enc p.1,val p.2))
 nodup:MNodup m
theorem MapIs.lt (h:MapIs w b d enc val m):b < w.heap.size:=by
 obtain ⟨es,clock,hb,_⟩:=h.obj
 exact (Array.getElem?_eq_some_iff.1 hb).1
theorem MapIs.turned {S:Nat→Prop} {w':World} (h:MapIs w b d enc val m) (t:Turn S w w') (hn:¬ S b):MapIs w' b d enc val m:=by
 obtain ⟨es,clock,hb,r⟩:=h.obj
 exact ⟨⟨es,clock,(t.block b h.lt hn).trans hb,r⟩,h.nodup⟩
theorem MapIs.made (w:World):MapIs (w.alloc (.map #[] 0)) w.heap.size d enc val ([]:List (κ×β)) :=
 ⟨⟨#[],0,(heap_alloc w _).1,stamped_empty 0,rfl⟩,List.nodup_nil⟩
theorem isKey_all (K:KeyEnc d enc) {es:Array MapEntry} (hm:es.toList.map (fun e => (e.key,e.val))=m.map (fun p => (enc p.1,val p.2))):∀ x∈es.toList,IsKey d x.key:=by
 intro x hx
 have:(x.key,x.val)∈m.map (fun p => (enc p.1,val p.2)):=by rw [← hm]; exact List.mem_map.2 ⟨x,hx,rfl⟩
 obtain ⟨p,_,hp⟩:=List.mem_map.1 this
 simp only [Prod.mk.injEq] at hp
 rw [← hp.1]; exact K.key _
theorem find_cases (K:KeyEnc d enc) {es:Array MapEntry} (hm:es.toList.map (fun e => (e.key,e.val))=m.map (fun p => (enc p.1,val p.2))) (hn:MNodup m) (k:κ) :
  (Instr.findNow d (enc k) es.toList 0=some none∧mget m k=none) ∨
  ∃ j e v,Instr.findNow d (enc k) es.toList 0=some (some (j,e.val))∧es[j]?=some e∧e.key=enc k∧m[j]?=some (k,v)∧e.val=val v∧mget m k=some v:=by
 rcases findNow_spec (K.key k) es.toList 0 (isKey_all K hm) with ⟨h1,h2⟩ | ⟨j,e,h1,h2,h3⟩
 ·left
  refine ⟨h1,mget_none fun p hp e => ?_⟩
  have:(enc p.1,val p.2)∈es.toList.map (fun e => (e.key,e.val)):=by rw [hm]; exact List.mem_map.2 ⟨p,hp,rfl⟩
  obtain ⟨x,hx,hxe⟩:=List.mem_map.1 this
  simp only [Prod.mk.injEq] at hxe
  exact h2 x hx (by rw [hxe.1,e])
 ·right
  rw [Nat.zero_add] at h1
  have hj:=congrArg (fun l => l[j]?) hm
  simp only [List.getElem?_map,h2,Option.map_some] at hj
  cases hmj:m[j]? with
  | none => simp [hmj] at hj
  | some p =>
   simp only [hmj,Option.map_some,Option.some.injEq,Prod.mk.injEq] at hj
   have hk:p.1=k:=K.inj _ _ (hj.1.symm.trans h3)
   have hmj':m[j]?=some (k,p.2):=by rw [hmj,← hk]
   exact ⟨j,e,p.2,h1,by simpa using h2,h3,hmj',hj.2,mget_mem hn (List.mem_of_getElem? hmj')⟩
theorem MapIs.run_lookup (h:MapIs w b d enc val m) (K:KeyEnc d enc) {T kt et:TypeId} (hT:P.underlying T=some (.map kt et)) (hd:P.underlying kt=some d) {z:Value} (hz:(zeroValue et).run P w=.ok z w) (k:κ) (c:Bool) :
  (Instr.lookup T (.map (some b)) (enc k) c).run P w=.ok (if c then .tuple #[(mget m k).elim z val,.bool (mget m k).isSome] else (mget m k).elim z val) w:=by
 obtain ⟨es,clock,hb,hs,hm⟩:=h.obj
 rcases find_cases K hm h.nodup k with ⟨h1,h2⟩ | ⟨j,e,v,h1,_,_,_,h5,h6⟩
 ·rw [h2]
  simp [Instr.lookup,run_underlying hT,MapKept.run_getObj_map hb,MapKept.run_checkKey hd (K.key k),MapKept.run_findKey hd h1,hz,Result.andThen]
 ·rw [h6]
  simp [Instr.lookup,run_underlying hT,MapKept.run_getObj_map hb,MapKept.run_checkKey hd (K.key k),MapKept.run_findKey hd h1,h5,Result.andThen]
theorem turn_setHeap (w:World) (b:Nat) (o:Obj):Turn (fun k => k=b) w { w with heap:=w.heap.setIfInBounds b o } :=
 ⟨rfl,rfl,rfl,by simp,fun k hk hn => by simp [Ne.symm hn]⟩
theorem MapIs.run_update (h:MapIs w b d enc val m) (K:KeyEnc d enc) {T kt et:TypeId} (hT:P.underlying T=some (.map kt et)) (hd:P.underlying kt=some d) (k:κ) (v:β) :
  ∃ w',(Instr.mapUpdate T (.map (some b)) (enc k) (val v)).run P w=.ok () w'∧MapIs w' b d enc val (mput m k v)∧Turn (fun k => k=b) w w':=by
 obtain ⟨es,clock,hb,hs,hm⟩:=h.obj
 rcases find_cases K hm h.nodup k with ⟨h1,h2⟩ | ⟨j,e,v0,h1,he,h3,h4,h5,h6⟩
 ·refine ⟨_,by simp [Instr.mapUpdate,run_underlying hT,MapKept.run_getObj_map hb,MapKept.run_checkKey hd (K.key k),MapKept.run_findKey hd h1,MapKept.run_setObj_map _ hb,Result.andThen]; rfl,⟨⟨_,_,(heap_set hb).1,?_,?_⟩,mput_nodup h.nodup k v⟩,turn_setHeap _ _ _⟩
  ·refine stamped_push hs ?_
   intro x hx e
   have:(x.key,x.val)∈m.map (fun p => (enc p.1,val p.2)):=by rw [← hm]; exact List.mem_map.2 ⟨x,hx,rfl⟩
   obtain ⟨p,hp,hpe⟩:=List.mem_map.1 this
   simp only [Prod.mk.injEq] at hpe
   exact mget_none_iff.1 h2 p hp (K.inj _ _ (hpe.1.trans e))
  ·unfold mput
   rw [h2]
   simp [hm]
 ·have hkey:∀ e',es[j]?=some e'→({ e' with key:=enc k,val:=val v }:MapEntry).key=e'.key:=fun e' he' => by rw [he] at he'; cases he'; exact h3.symm
  refine ⟨{ w with heap:=w.heap.setIfInBounds b (.map (es.modify j fun e => { e with key:=enc k,val:=val v }) clock) },by simp [Instr.mapUpdate,run_underlying hT,MapKept.run_getObj_map hb,MapKept.run_checkKey hd (K.key k),MapKept.run_findKey hd h1,he,h3,MapKept.run_keyThatStays (K.key k),MapKept.run_setObj_map _ hb,Result.andThen],⟨⟨_,_,(heap_set hb).1,stamped_modify hs _ _ (fun _ _ => rfl) (fun e' _ he' => hkey e' he'),?_⟩,mput_nodup h.nodup k v⟩,turn_setHeap _ _ _⟩
  unfold mput
  rw [h6]
  simp only [Option.isSome_some,if_true]
  unfold mupd
  apply List.ext_getElem?
  intro i
  have hi:=congrArg (fun l => l[i]?) hm
  simp only [List.getElem?_map,Array.toList_modify,List.getElem?_modify] at hi ⊢
  by_cases hij:j=i
  ·subst hij
   have he':es.toList[j]?=some e:=by simpa using he
   simp only [he',h4,Option.map_some,if_true]
   rfl
  ·simp only [if_neg hij]
   rw [show (fun a:MapEntry => a) <$> es.toList[i]?=es.toList[i]? from by cases es.toList[i]? <;> rfl,hi]
   cases hmi:m[i]? with
   | none => rfl
   | some p =>
    simp only [Option.map_some]
    have:p.1≠k:=by
     intro e2
     exact hij (nodup_idx h.nodup h4 hmi e2.symm)
    rw [if_neg this]
theorem MapIs.run_delete (h:MapIs w b d enc val m) (K:KeyEnc d enc) {T kt et ty:TypeId} (hT:P.underlying T=some (.map kt et)) (hd:P.underlying kt=some d) (k:κ) :
  ∃ w',(Builtin.delete_ #[T,kt] ty #[.map (some b),enc k]).run P w=.ok (.tuple #[]) w'∧MapIs w' b d enc val (mdel m k)∧Turn (fun k => k=b) w w':=by
 obtain ⟨es,clock,hb,hs,hm⟩:=h.obj
 rcases find_cases K hm h.nodup k with ⟨h1,h2⟩ | ⟨j,e,v0,h1,he,h3,h4,h5,h6⟩
 ·refine ⟨_,by simp [Builtin.delete_,run_underlying hT,MapKept.run_getObj_map hb,MapKept.run_checkKey hd (K.key k),MapKept.run_findKey hd h1,MapKept.run_setObj_map _ hb,Result.andThen]; rfl,⟨⟨_,_,?_,hs,?_⟩,mdel_nodup h.nodup k⟩,?_⟩
  ·exact (heap_set hb).1
  ·rw [mdel_none h2]; exact hm
  ·exact turn_setHeap _ _ _
 ·refine ⟨_,by simp [Builtin.delete_,run_underlying hT,MapKept.run_getObj_map hb,MapKept.run_checkKey hd (K.key k),MapKept.run_findKey hd h1,MapKept.run_setObj_map _ hb,Result.andThen]; rfl,⟨⟨_,_,(heap_set hb).1,stamped_erase hs _,?_⟩,mdel_nodup h.nodup k⟩,turn_setHeap _ _ _⟩
  have hj:j < es.size:=(Array.getElem?_eq_some_iff.1 he).1
  have e1:(es.eraseIdxIfInBounds j).toList=es.toList.eraseIdx j:=by
   unfold Array.eraseIdxIfInBounds
   rw [dif_pos hj]; simp
  rw [e1,mdel_eraseIdx h.nodup h4,map_eraseIdx',map_eraseIdx',hm]
theorem MapIs.run_len (h:MapIs w b d enc val m) {T kt et:TypeId} (hT:P.underlying T=some (.map kt et)) (ty:TypeId) :
  (Builtin.len_ #[T] ty #[.map (some b)]).run P w=.ok (.int .i64 m.length) w:=by
 obtain ⟨es,clock,hb,hs,hm⟩:=h.obj
 have hl:es.size=m.length:=by
  have:=congrArg List.length hm
  simpa using this
 simp [Builtin.len_,run_underlying hT,MapKept.run_getObj_map hb,Result.andThen,hl,goInt]
section laws
variable {ops:Array Oper} {rest:List Oper} {o:Oper} {a:Act} {Q:Exit→Act→World→Prop}
theorem wpList_mapdel (hg:o.guard=none) (mo x:Operand) (T kt et:TypeId) (hop:o.op=Op.call { callee:=Callee.builtin Builtin.delete,args:=#[mo,x],argTypes:=#[T,kt] }) (hT:P.underlying T=some (.map kt et)) (hd:P.underlying kt=some d) (K:KeyEnc d enc)
  (b:Nat) (hm:a.eval mo=.map (some b)) (h:MapIs w b d enc val m) (k:κ) (hx:a.eval x=enc k)
  (hK:∀ w',MapIs w' b d enc val (mdel m k)→Turn (fun j => j=b) w w'→wpList P ops Q rest (a.put o.dst (.tuple #[])) w'):wpList P ops Q (o :: rest) a w:=by
 refine wpList_plain hg fun K' hK' => ?_
 obtain ⟨w',hrun,r1,r2⟩:=h.run_delete (ty:=o.type) K hT hd k
 unfold Oper.wp
 simp [execOp,hop,resolve,invoke,builtin,hm,hx,hrun,Result.andThen]
 exact hK' _ _ (hK w' r1 r2)
end laws
end
end
section
open Go.RowKit Go.MapKept
section
variable {κ β:Type} [DecidableEq κ] {d:TypeDesc} {enc:κ→Value} {val:β→Value} {w:World} {m:List (κ×β)} {P:Program}
variable {ops:Array Oper} {rest:List Oper} {o:Oper} {a:Act} {Q:Exit→Act→World→Prop}
end
end
section
open Go.RowKit Go.Extern.Stop Go.Stop Go.Extern
/-! ### closed facts on the model's entries for internal/reflectlite,at this program's types ('27': *api.Errno,'25': api.Errno) -/
theorem AsF.valueOf27 (t:Addr) (w:World):(ReflectliteValue.unpack (.iface 162 (.pointer (some t)))).run Tryz.prog w
 =.ok (.agg #[.pointer (some ⟨4,162,none⟩),.pointer (some ⟨w.heap.size,0,none⟩),.int .u64 150]) (w.alloc (.cells #[.pointer (some t)] 162)):=by kernel_rfl
theorem AsF.type27 (a:Addr) (w:World):(ReflectliteValue.methodAny (ReflectliteValue.valueError "reflectlite.Value.Type" 0) (fun t _ _ _ => ReflectliteType.toType t) #[.agg #[.pointer (some ⟨4,162,none⟩),.pointer (some a),.int .u64 150]]).run Tryz.prog w
 =.ok (.iface 197 (.agg #[.pointer (some ⟨4,162,none⟩)])) w:=by kernel_rfl
theorem AsF.methodKind (h:Value) (w:World):(Go.method 355 197 (.agg #[h]) "Kind").run Tryz.prog w=.ok (137,h) w:=by kernel_rfl
theorem AsF.kind27 (w:World):((ReflectliteType.abiMethod fun t => (fun a:Nat => Value.int IntKind.u8 (a:Int)) <$> Rtype.kind t) #[.pointer (some ⟨4,162,none⟩)]).run Tryz.prog w=.ok (.int .u8 22) w:=by kernel_rfl
theorem AsF.kind25 (w:World):((ReflectliteType.abiMethod fun t => (fun a:Nat => Value.int IntKind.u8 (a:Int)) <$> Rtype.kind t) #[.pointer (some ⟨4,35,none⟩)]).run Tryz.prog w=.ok (.int .u8 2) w:=by kernel_rfl
/-! ### THE ENTRIES THAT READ OR WRITE MEMORY: laws with a premise on the cell (after Derived/Lib/ReflectliteSlice.lean's manner: each unfolding a lemma of its own,by rfl) -/
theorem rlm (z:Sem Value) (f:TypeId→Addr→Nat→Nat→Sem Value) (v:Value) :
  ReflectliteValue.method z f #[v]=(do match ← ReflectliteValue.parts v with | none => z | some (t,a,fl) => f t a fl (fl % 32)):=rfl
theorem AsF.parts27 (a:Addr) (w:World):(ReflectliteValue.parts (.agg #[.pointer (some ⟨4,162,none⟩),.pointer (some a),.int .u64 150])).run Tryz.prog w=.ok (some (162,a,150)) w:=by kernel_rfl
theorem AsF.isNil27 (a p:Addr) (W:World) (ha:W.cell? a=some (.pointer (some p))) :
  (ReflectliteValue.method (ReflectliteValue.valueError "reflectlite.Value.IsNil" 0) ReflectliteValue.isNil #[.agg #[.pointer (some ⟨4,162,none⟩),.pointer (some a),.int .u64 150]]).run Tryz.prog W=.ok (.bool false) W:=by
 rw [rlm]
 simp only [Sem.run_bind,AsF.parts27,Result.andThen]
 simp [ReflectliteValue.isNil,loadVar,isAgg,underlying,Tryz.underlying162,ha,Result.andThen]
theorem AsF.methodElem (h:Value) (w:World):(Go.method 355 197 (.agg #[h]) "Elem").run Tryz.prog w=.ok (151,.agg #[h]) w:=by kernel_rfl
theorem AsF.methodImplements (h:Value) (w:World):(Go.method 355 197 (.agg #[h]) "Implements").run Tryz.prog w=.ok (152,.agg #[h]) w:=by kernel_rfl
theorem AsF.methodAssignableTo (h:Value) (w:World):(Go.method 355 197 (.agg #[h]) "AssignableTo").run Tryz.prog w=.ok (149,.agg #[h]) w:=by kernel_rfl
theorem AsF.elem27 (w:World):(ReflectliteType.method ReflectliteType.elem #[.agg #[.pointer (some ⟨4,162,none⟩)]]).run Tryz.prog w=.ok (.iface 197 (.agg #[.pointer (some ⟨4,35,none⟩)])) w:=by kernel_rfl
theorem AsF.implements25 (w:World):(ReflectliteType.relation "Implements" ReflectliteType.implements_ #[.agg #[.pointer (some ⟨4,35,none⟩)],.iface 197 (.agg #[.pointer (some ⟨4,31,none⟩)])]).run Tryz.prog w=.ok (.bool true) w:=by kernel_rfl
theorem AsF.typeOf25 (v:Value) (w:World):(ReflectliteType.typeOf #[.iface 35 v]).run Tryz.prog w=.ok (.iface 197 (.agg #[.pointer (some ⟨4,35,none⟩)])) w:=by kernel_rfl
theorem AsF.assignable25 (w:World):(ReflectliteType.relation "AssignableTo" ReflectliteType.assignableTo #[.agg #[.pointer (some ⟨4,35,none⟩)],.iface 197 (.agg #[.pointer (some ⟨4,35,none⟩)])]).run Tryz.prog w=.ok (.bool true) w:=by kernel_rfl
theorem AsF.valueOf25 (e:Int) (w:World):(ReflectliteValue.unpack (.iface 35 (.int .i64 e))).run Tryz.prog w
 =.ok (.agg #[.pointer (some ⟨4,35,none⟩),.pointer (some ⟨w.heap.size,0,none⟩),.int .u64 130]) (w.alloc (.cells #[.int .i64 e] 35)):=by kernel_rfl
theorem AsF.elemOf27 (w:World):(Rtype.elem? 162).run Tryz.prog w=.ok (some 35) w:=by kernel_rfl
theorem AsF.mk25 (p:Addr) (w:World):(ReflectliteValue.mk 35 p ReflectliteValue.flagAddr).run Tryz.prog w=.ok (.agg #[.pointer (some ⟨4,35,none⟩),.pointer (some p),.int .u64 386]) w:=by kernel_rfl
theorem AsF.elemV27 (a p:Addr) (W:World) (ha:W.cell? a=some (.pointer (some p))) :
  (ReflectliteValue.method (ReflectliteValue.valueError "reflectlite.Value.Elem" 0) ReflectliteValue.elem #[.agg #[.pointer (some ⟨4,162,none⟩),.pointer (some a),.int .u64 150]]).run Tryz.prog W
  =.ok (.agg #[.pointer (some ⟨4,35,none⟩),.pointer (some p),.int .u64 386]) W:=by
 rw [rlm]
 simp only [Sem.run_bind,AsF.parts27,Result.andThen]
 simp [ReflectliteValue.elem,loadVar,isAgg,underlying,Tryz.underlying162,ha,Result.andThen,AsF.elemOf27,AsF.mk25]
theorem rls (v x:Value):ReflectliteValue.set #[v,x]=(do
  let (some (dst,a,fl),some (src,b,_)):=(← ReflectliteValue.parts v,← ReflectliteValue.parts x)
   | unsupported (.noEntry "extern/(internal/reflectlite.Value).Set.zeroValue")
  if fl / ReflectliteValue.flagAddr % 2 == 0 then unsupported (.noEntry "extern/(internal/reflectlite.Value).Set.unaddressable")
  let val ← loadVar src b
  if ← Rtype.directlyAssignable dst src then storeVar dst a val
  else if ← Rtype.implements dst src then
   if (← Rtype.kind src) == 20 then
    match val with
    | .nilIface => unsupported (.noEntry "extern/reflectlite: a nil value of one interface type handed on as a value of another")
    | _ => storeVar dst a val
   else storeVar dst a (.iface src val)
  else panicString ("reflectlite.Set: value of type " ++ (← Rtype.spelt src) ++ " is not assignable to type " ++ (← Rtype.spelt dst))
  pure (.tuple #[])):=rfl
theorem AsF.parts25a (a:Addr) (w:World):(ReflectliteValue.parts (.agg #[.pointer (some ⟨4,35,none⟩),.pointer (some a),.int .u64 386])).run Tryz.prog w=.ok (some (35,a,386)) w:=by kernel_rfl
theorem AsF.parts25 (a:Addr) (w:World):(ReflectliteValue.parts (.agg #[.pointer (some ⟨4,35,none⟩),.pointer (some a),.int .u64 130])).run Tryz.prog w=.ok (some (35,a,130)) w:=by kernel_rfl
theorem AsF.direct25 (w:World):(Rtype.directlyAssignable 35 35).run Tryz.prog w=.ok true w:=by kernel_rfl
theorem AsF.set25 (ta b:Addr) (e:Int) (old:Value) (W:World) (hb:W.cell? b=some (.int .i64 e)) (ht:W.cell? ta=some old) (hf:W.frozen? ta=false) :
  (ReflectliteValue.set #[.agg #[.pointer (some ⟨4,35,none⟩),.pointer (some ta),.int .u64 386],.agg #[.pointer (some ⟨4,35,none⟩),.pointer (some b),.int .u64 130]]).run Tryz.prog W
  =.ok (.tuple #[]) (W.setCell ta (.int .i64 e)):=by
 rw [rls]
 simp only [Sem.run_bind,AsF.parts25a,AsF.parts25,Result.andThen]
 simp [ReflectliteValue.flagAddr,loadVar,isAgg,underlying,Tryz.underlying35,hb,Result.andThen,AsF.direct25,storeVar,Value.cells,storeCells,Addr.add]
 rw [run_store Tryz.prog W ta _ _ (by rfl)]
 simp [ht,hf]
theorem as_hit (e:Int) (t:Addr) (old:Value) (w:World) (hg:w.cell? ⟨0,0,none⟩=some (.iface 197 (.agg #[.pointer (some ⟨4,31,none⟩)]))) (ht0:w.cell? t=some old) (hf0:w.frozen? t=false) :
  Calls Tryz.prog 79 #[.iface 35 (.int .i64 e),.iface 162 (.pointer (some t))] w fun ev w' => ev=.returned (.bool true)∧w'=((((w.alloc (.cells #[.pointer (some t)] 162)).alloc (.cells #[.pointer (some ⟨4,162,none⟩),.pointer (some ⟨w.heap.size,0,none⟩),.int .u64 150] 178)).alloc (.cells #[.pointer (some ⟨4,162,none⟩),.pointer (some ⟨w.heap.size,0,none⟩),.int .u64 150] 178)).alloc (.cells #[.int .i64 e] 35)).setCell t (.int .i64 e):=by
 have h6:=@run_callFunc_extern Tryz.prog 87 _ (fun args => ReflectliteValue.unpack (args.getD 0 (.tuple #[]))) Tryz.func87 (by kernel_rfl) (by kernel_rfl) (by kernel_rfl) (by kernel_rfl)
 have h7:=@run_callFunc_extern Tryz.prog 88 _ (ReflectliteValue.methodAny (ReflectliteValue.valueError "reflectlite.Value.Type" 0) (fun t _ _ _ => ReflectliteType.toType t)) Tryz.func88 (by kernel_rfl) (by kernel_rfl) (by kernel_rfl) (by kernel_rfl)
 have h8:=@run_callFunc_extern Tryz.prog 89 _ (ReflectliteValue.method (ReflectliteValue.valueError "reflectlite.Value.IsNil" 0) ReflectliteValue.isNil) Tryz.func89 (by kernel_rfl) (by kernel_rfl) (by kernel_rfl) (by kernel_rfl)
 have h27:=@run_callFunc_extern Tryz.prog 137 _ (ReflectliteType.abiMethod fun t => do pure (.int .u8 (← Rtype.kind t))) Tryz.func137 (by kernel_rfl) (by kernel_rfl) (by kernel_rfl) (by kernel_rfl)
 have h37:=@run_callFunc_extern Tryz.prog 151 _ (ReflectliteType.method ReflectliteType.elem) Tryz.func151 (by kernel_rfl) (by kernel_rfl) (by kernel_rfl) (by kernel_rfl)
 have h38:=@run_callFunc_extern Tryz.prog 152 _ (ReflectliteType.relation "Implements" ReflectliteType.implements_) Tryz.func152 (by kernel_rfl) (by kernel_rfl) (by kernel_rfl) (by kernel_rfl)
 have h10:=@run_callFunc_extern Tryz.prog 99 _ ReflectliteType.typeOf Tryz.func99 (by kernel_rfl) (by kernel_rfl) (by kernel_rfl) (by kernel_rfl)
 have h35:=@run_callFunc_extern Tryz.prog 149 _ (ReflectliteType.relation "AssignableTo" ReflectliteType.assignableTo) Tryz.func149 (by kernel_rfl) (by kernel_rfl) (by kernel_rfl) (by kernel_rfl)
 have h11:=@run_callFunc_extern Tryz.prog 100 _ (ReflectliteValue.method (ReflectliteValue.valueError "reflectlite.Value.Elem" 0) ReflectliteValue.elem) Tryz.func100 (by kernel_rfl) (by kernel_rfl) (by kernel_rfl) (by kernel_rfl)
 have h12:=@run_callFunc_extern Tryz.prog 101 _ ReflectliteValue.set Tryz.func101 (by kernel_rfl) (by kernel_rfl) (by kernel_rfl) (by kernel_rfl)
 have tO:=AsF.typeOf25
 have mA:=AsF.methodAssignableTo
 have a25:=AsF.assignable25
 have v25:=AsF.valueOf25
 have f6:=AsF.valueOf27
 have f7:=AsF.type27
 have mK:=AsF.methodKind
 have mE:=AsF.methodElem
 have mI:=AsF.methodImplements
 have k27:=AsF.kind27
 have k25:=AsF.kind25
 have e27:=AsF.elem27
 have i25:=AsF.implements25
 have n8:=AsF.isNil27 ⟨w.heap.size,0,none⟩ t ((w.alloc (.cells #[.pointer (some t)] 162)).alloc (.cells #[.pointer (some ⟨4,162,none⟩),.pointer (some ⟨w.heap.size,0,none⟩),.int .u64 150] 178)) (by simp)
 have hlt:(⟨0,0,none⟩:Addr).block < w.heap.size:=World.block_lt_of_cell? _ _ hg
 have hg2:((w.alloc (.cells #[.pointer (some t)] 162)).alloc (.cells #[.pointer (some ⟨4,162,none⟩),.pointer (some ⟨w.heap.size,0,none⟩),.int .u64 150] 178)).cell? ⟨0,0,none⟩=some (.iface 197 (.agg #[.pointer (some ⟨4,31,none⟩)])):=by
  rw [World.cell?_alloc_lt _ _ ⟨0,0,none⟩ (by simp only [World.size_alloc]; exact Nat.lt_succ_of_lt hlt),World.cell?_alloc_lt _ _ ⟨0,0,none⟩ hlt]; exact hg
 have htl:t.block < w.heap.size:=by
  rcases Nat.lt_or_ge t.block w.heap.size with h | h
  ·exact h
  ·simp [World.cell?,Array.getElem?_eq_none h] at ht0
 have el:=AsF.elemV27 ⟨w.heap.size,0,none⟩ t (((w.alloc (.cells #[.pointer (some t)] 162)).alloc (.cells #[.pointer (some ⟨4,162,none⟩),.pointer (some ⟨w.heap.size,0,none⟩),.int .u64 150] 178)).alloc (.cells #[.pointer (some ⟨4,162,none⟩),.pointer (some ⟨w.heap.size,0,none⟩),.int .u64 150] 178)) (by rw [World.cell?_alloc_lt _ _ ⟨w.heap.size,0,none⟩ (by simp; omega)]; simp)
 have st:=AsF.set25 t ⟨w.heap.size+1+1+1,0,none⟩ e old ((((w.alloc (.cells #[.pointer (some t)] 162)).alloc (.cells #[.pointer (some ⟨4,162,none⟩),.pointer (some ⟨w.heap.size,0,none⟩),.int .u64 150] 178)).alloc (.cells #[.pointer (some ⟨4,162,none⟩),.pointer (some ⟨w.heap.size,0,none⟩),.int .u64 150] 178)).alloc (.cells #[.int .i64 e] 35))
  (by rw [World.cell?_alloc_at _ _ _ _ (by simp)]; rfl)
  (by rw [World.cell?_alloc_lt _ _ t (by simp; omega),World.cell?_alloc_lt _ _ t (by simp; omega),World.cell?_alloc_lt _ _ t (by simp; omega),World.cell?_alloc_lt _ _ t htl]; exact ht0)
  (by rw [World.frozen?_alloc_old _ _ t (by simp; omega),World.frozen?_alloc_old _ _ t (by simp; omega),World.frozen?_alloc_old _ _ t (by simp; omega),World.frozen?_alloc_old _ _ t (Nat.ne_of_lt htl)]; exact hf0)
 go_enter Tryz.func79,Tryz.ntmps79
 go_wp2
 refine wp_loop_rounds 1 ?_
 rw [rounds_succ]
 go_wp2
 go_ret
 exact ⟨rfl,rfl⟩
end
def Laid (w:World):Prop:=w.cell? ⟨0,0,none⟩=some (.iface 197 (.agg #[.pointer (some ⟨4,31,none⟩)]))
theorem Laid.turned {S:Nat→Prop} {w w1:World} (h:Laid w) (t:Turn S w w1) (hn:¬ S 0):Laid w1:=by
 unfold Laid at h ⊢
 rw [t.cell (lt_of_cell h) hn]; exact h
theorem Laid.turned0 {w w1:World} (h:Laid w) (t:Turn (fun _ => False) w w1):Laid w1:=h.turned t id
theorem Laid.lt {w:World} (h:Laid w):0 < w.heap.size:=lt_of_cell h
theorem tell_nil (w:World):Calls Tryz.prog 52 #[.nilIface] w fun e w' => e=.returned (.int .i64 0)∧w'=w:=by
 go_enter Tryz.func52,Tryz.ntmps52
 go_wp2
 go_ret
 exact ⟨rfl,rfl⟩
theorem tell_errno (z:Int) (w:World) (hg:Laid w) :
  Calls Tryz.prog 52 #[.iface 35 (.int .i64 z)] w fun e w' => e=.returned (.int .i64 z)∧Turn (fun _ => False) w w':=by
 have hlt:=hg.lt
 have ha:=as_hit z ⟨w.heap.size,0,none⟩ (.int .i64 0) (w.alloc (.cells #[.int .i64 0] 35)) (by rw [World.cell?_alloc_lt _ _ _ hlt]; exact hg) (by simp) (by simp)
 go_enter Tryz.func52,Tryz.ntmps52
 go_wp2_with fail
 refine ha.mono ?_
 rintro e w1 ⟨rfl,rfl⟩
 go_wp2_with fail
 go_ret
 refine ⟨rfl,?_⟩
 exact ((((Turn.refl _ _).alloc _).alloc _).alloc _ |>.alloc _).alloc _
theorem wp_append_at {P:Program} {o:Oper} {a:Act} {w:World} {K:Act→World→Prop} {Q:Exit→Act→World→Prop}
  (hg:o.guard=none) (s x:Operand) (t:TypeId) (hop:o.op=Op.call { callee:=Callee.builtin Builtin.append,args:=#[s,x],argTypes:=#[t,t] })
  (e:TypeId) (i:TypeInfo) (z:Value) (size bytes:Nat) (h1:P.underlying t=some (.slice e)) (h2:P.info? e=some i) (h3:i.zero=some z) (h4:i.size=size) (h5:i.bytes=bytes) (h6:z.cells.size=size) (h7:0 < size)
  (v:Value) (n:Nat) (xs:List Value) (hs:a.eval s=v) (hown:w.ownsRow 0 e size v n xs)
  (ad:Addr) (m c:Nat) (news:List Value) (hx:a.eval x=.slice (some ad) m c) (hn:news.length=m * size) (hc:∀ j u,news[j]?=some u→w.cell? (ad.add j)=some u) (h1c:∀ u∈news,u.oneCell'=true) (hm:0 < m∨v≠.slice none 0 0)
  (b1:n+m≤maxLen) (b2:(n+m) * bytes≤140737488355328)
  (hK:∀ g cap w',w'.ownsRow 0 e size (.slice (some ⟨g,0,none⟩) (n+m) cap) (n+m) (xs ++ news)→Turn (fun j => v.ownBlock=some j) w w'→(v.ownBlock=some g∨w.heap.size≤g)→K (a.put o.dst (.slice (some ⟨g,0,none⟩) (n+m) cap)) w') :
  o.wp P a w K Q:=by
 have toTurn:∀ {w':World},w.grownBy w' v.ownBlock→Turn (fun j => v.ownBlock=some j) w w':=fun {w'} hgr => ⟨hgr.os,hgr.tape,hgr.output,hgr.size,fun k hk hne => hgr.block k hk (fun e => hne e.symm)⟩
 rcases hown.2 with ⟨rfl,rfl⟩ | ⟨g,cap,cur,rfl,hb,hgg,hnc,hcm,hcs,htk⟩
 ·have hx0:xs=[]:=List.eq_nil_of_length_eq_zero (by simpa using hown.1)
  subst hx0
  refine wp_append_own w s x t hop w.heap.size e i z size bytes h1 h2 h3 h4 h5 h6 h7 _ 0 [] hs (World.ownsRow_nil _ _ _ _) ad m c news hx hn hc h1c b1 b2 (Nat.le_refl _) ?_
  intro v' w' a1 a2 a3
  obtain ⟨_,⟨h0,h00⟩ | ⟨g,cap,cur,rfl,hb,r⟩⟩:=a1
  ·rcases hm with hm | hm
   ·omega
   ·exact absurd rfl hm
  ·exact hK g cap w' ⟨‹_›,.inr ⟨g,cap,cur,rfl,Nat.zero_le _,r⟩⟩ (toTurn a2) (.inr hb)
 ·by_cases hroom:n+m≤cap
  ·subst h4
   have hlen:(xs ++ news).length=(n+m) * i.size:=by rw [List.length_append,hown.1,hn,Nat.add_mul]
   have hfit:n * i.size+news.length≤cur.size:=by rw [hn,hcs,← Nat.add_mul]; exact Nat.mul_le_mul_right _ hroom
   have hr:=run_append_room (P:=P) w t o.type e i h1 h2 g n cap cur hgg ad m c news hn hc h1c hroom hfit
   have hres:=hK g cap _ ⟨hlen,.inr ⟨g,cap,_,rfl,hb,setRow_heap w g cur (cur.toList.take (n * i.size) ++ news ++ cur.toList.drop (n * i.size+news.length)).toArray e _ hgg,hroom,hcm,by
     simp only [List.size_toArray,List.length_append,List.length_take,List.length_drop,Array.length_toList]
     omega,by
     rw [htk,← hlen]
     exact List.take_left⟩⟩ ⟨rfl,rfl,rfl,by simp,fun k _ hk => setRow_other w g k _ (fun e => hk (by simp [Value.ownBlock,e]))⟩ (.inl rfl)
   unfold Oper.wp
   simp [execOp,hop,resolve,invoke,builtin,hs,hx,hr,Result.andThen]
   simp only [List.append_assoc] at hres
   exact hres
  ·obtain ⟨v',w',hrun,a1,a2⟩:=run_append_arg_grows (P:=P) w t o.type e i z size bytes h1 h2 h3 h4 h5 h6 h7 ⟨g,0,none⟩ n cap xs hown.1 (hown.cells (g:=g) rfl) ad m c news hn hc (by omega) b1 b2
   have hres:K (a.put o.dst v') w':=by
    obtain ⟨hl,⟨h0,h00⟩ | ⟨g',cap',cur',rfl,hb',r⟩⟩:=a1
    ·omega
    ·exact hK g' cap' w' ⟨hl,.inr ⟨g',cap',cur',rfl,Nat.zero_le _,r⟩⟩ ⟨a2.os,a2.tape,a2.output,a2.size,fun k hk _ => a2.block k hk (by simp)⟩ (.inr hb')
   unfold Oper.wp
   simp [execOp,hop,resolve,invoke,builtin,hs,hx,hrun,Result.andThen]
   exact hres
theorem step_append_at {P:Program} {ops:Array Oper} {o:Oper} {a:Act} {w:World} {K:Act→World→Prop} {Q:Exit→Act→World→Prop} {E:Prop}
  (hg:o.guard=none) (s x:Operand) (t:TypeId) (hop:o.op=Op.call { callee:=Callee.builtin Builtin.append,args:=#[s,x],argTypes:=#[t,t] })
  (e:TypeId) (i:TypeInfo) (z:Value) (size bytes:Nat) (h1:P.underlying t=some (.slice e)) (h2:P.info? e=some i) (h3:i.zero=some z) (h4:i.size=size) (h5:i.bytes=bytes) (h6:z.cells.size=size) (h7:0 < size)
  (v:Value) (n:Nat) (xs:List Value) (hs:a.eval s=v) (hown:w.ownsRow 0 e size v n xs)
  (ad:Addr) (m c:Nat) (news:List Value) (hx:a.eval x=.slice (some ad) m c) (hn:news.length=m * size) (hc:∀ j u,news[j]?=some u→w.cell? (ad.add j)=some u) (h1c:∀ u∈news,u.oneCell'=true) (hm:0 < m∨v≠.slice none 0 0)
  (b1:n+m≤maxLen) (b2:(n+m) * bytes≤140737488355328)
  (hK:∀ g cap w',w'.ownsRow 0 e size (.slice (some ⟨g,0,none⟩) (n+m) cap) (n+m) (xs ++ news)→Turn (fun j => v.ownBlock=some j) w w'→(v.ownBlock=some g∨w.heap.size≤g)→K (a.put o.dst (.slice (some ⟨g,0,none⟩) (n+m) cap)) w') :
  if Region.wanted o (yielded ops a.tmps)=true then Oper.wp P o a w K Q else E:=by
 have hw:Region.wanted o (yielded ops a.tmps)=true:=by simp [Region.wanted,hg]
 rw [if_pos hw]
 exact wp_append_at hg s x t hop e i z size bytes h1 h2 h3 h4 h5 h6 h7 v n xs hs hown ad m c news hx hn hc h1c hm b1 b2 hK
theorem wpList_append_at {P:Program} {ops:Array Oper} {rest:List Oper} {o:Oper} {a:Act} {w:World} {Q:Exit→Act→World→Prop}
  (hg:o.guard=none) (s x:Operand) (t:TypeId) (hop:o.op=Op.call { callee:=Callee.builtin Builtin.append,args:=#[s,x],argTypes:=#[t,t] })
  (e:TypeId) (i:TypeInfo) (z:Value) (size bytes:Nat) (h1:P.underlying t=some (.slice e)) (h2:P.info? e=some i) (h3:i.zero=some z) (h4:i.size=size) (h5:i.bytes=bytes) (h6:z.cells.size=size) (h7:0 < size)
  (v:Value) (n:Nat) (xs:List Value) (hs:a.eval s=v) (hown:w.ownsRow 0 e size v n xs)
  (ad:Addr) (m c:Nat) (news:List Value) (hx:a.eval x=.slice (some ad) m c) (hn:news.length=m * size) (hc:∀ j u,news[j]?=some u→w.cell? (ad.add j)=some u) (h1c:∀ u∈news,u.oneCell'=true) (hm:0 < m∨v≠.slice none 0 0)
  (b1:n+m≤maxLen) (b2:(n+m) * bytes≤140737488355328)
  (hK:∀ g cap w',w'.ownsRow 0 e size (.slice (some ⟨g,0,none⟩) (n+m) cap) (n+m) (xs ++ news)→Turn (fun j => v.ownBlock=some j) w w'→(v.ownBlock=some g∨w.heap.size≤g)→wpList P ops Q rest (a.put o.dst (.slice (some ⟨g,0,none⟩) (n+m) cap)) w') :
  wpList P ops Q (o :: rest) a w :=
 wpList_plain hg fun _ hK' => wp_append_at hg s x t hop e i z size bytes h1 h2 h3 h4 h5 h6 h7 v n xs hs hown ad m c news hx hn hc h1c hm b1 b2 (fun g cap w' a1 a2 a3 => hK' _ _ (hK g cap w' a1 a2 a3))
theorem info_split {P:Program} {t:TypeId} {z:Value} {size bytes:Nat} (h:(P.info? t).map (fun i => (i.zero,i.size,i.bytes))=some (some z,size,bytes)):∃ i,P.info? t=some i∧i.zero=some z∧i.size=size∧i.bytes=bytes:=by
 cases hi:P.info? t with
 | none => rw [hi] at h; cases h
 | some i =>
  rw [hi] at h
  simp only [Option.map_some,Option.some.injEq,Prod.mk.injEq] at h
  exact ⟨i,rfl,h.1,h.2.1,h.2.2⟩
def RowV (w:World) (e:TypeId) (v:Value) (xs:List Value):Prop:=w.ownsRow 0 e 1 v xs.length xs
theorem RowV.shape {w:World} {e:TypeId} {v:Value} {xs:List Value} (h:RowV w e v xs):(v=.slice none 0 0∧xs=[])∨∃ g cap,v=.slice (some ⟨g,0,none⟩) xs.length cap∧xs.length≤cap∧cap≤maxLen∧g < w.heap.size:=by
 obtain ⟨_,h0 | ⟨g,cap,cur,rfl,_,hg,h1,h2,_⟩⟩:=h
 ·exact .inl ⟨h0.1,List.length_eq_zero_iff.1 h0.2⟩
 ·exact .inr ⟨g,cap,rfl,h1,h2,(Array.getElem?_eq_some_iff.1 hg).1⟩
theorem RowV.cell {w:World} {e:TypeId} {g cap:Nat} {xs:List Value} (h:RowV w e (.slice (some ⟨g,0,none⟩) xs.length cap) xs) (j:Nat) (x:Value) (hj:xs[j]?=some x):w.cell? ⟨g,j,none⟩=some x:=by
 have hl:=(List.getElem?_eq_some_iff.1 hj).1
 rw [World.ownsRow.cellAt h j (by omega),hj]
theorem RowV.turned {S:Nat→Prop} {w w':World} {e:TypeId} {v:Value} {xs:List Value} (h:RowV w e v xs) (t:Turn S w w') (hn:∀ g,v.ownBlock=some g→¬ S g):RowV w' e v xs:=by
 refine ⟨h.1,?_⟩
 rcases h.2 with h0 | ⟨g,cap,cur,rfl,hb,hg,r⟩
 ·exact .inl h0
 ·exact .inr ⟨g,cap,cur,rfl,hb,(t.block g (Array.getElem?_eq_some_iff.1 hg).1 (hn g rfl)).trans hg,r⟩
theorem RowV.own_lt {w:World} {e:TypeId} {v:Value} {xs:List Value} (h:RowV w e v xs) (g:Nat) (hg:v.ownBlock=some g):g < w.heap.size:=by
 rcases h.shape with ⟨rfl,_⟩ | ⟨g',cap,rfl,_,_,hl⟩
 ·cases hg
 ·cases hg; exact hl
theorem RowV.one (w:World) (e:TypeId) (x:Value):RowV (w.alloc (.cells #[x] e)) e (.slice (some ⟨w.heap.size,0,none⟩) 1 1) [x]:=by
 refine ⟨by simp,.inr ⟨w.heap.size,1,#[x],rfl,Nat.zero_le _,(MapKept.heap_alloc w _).1,by simp,by unfold maxLen; omega,by simp,by simp⟩⟩
theorem wpList_append_val {P:Program} {ops:Array Oper} {rest:List Oper} {o:Oper} {a:Act} {w:World} {Q:Exit→Act→World→Prop} {e t:TypeId} {z:Value} {bytes:Nat}
  (hg:o.guard=none) (s x:Operand) (hop:o.op=Op.call { callee:=Callee.builtin Builtin.append,args:=#[s,x],argTypes:=#[t,t] }) (hT:P.underlying t=some (.slice e)) (hI:(P.info? e).map (fun i => (i.zero,i.size,i.bytes))=some (some z,1,bytes)) (hz:z.cells.size=1) (hb:bytes≤16)
  (v:Value) (xs:List Value) (hs:a.eval s=v) (hi:RowV w e v xs) (b0 c:Nat) (y:Value) (hx:a.eval x=.slice (some ⟨b0,0,none⟩) 1 c) (hc:w.cell? ⟨b0,0,none⟩=some y) (h1:y.oneCell'=true) (hl:xs.length≤1000000)
  (hK:∀ g cap w',RowV w' e (.slice (some ⟨g,0,none⟩) (xs.length+1) cap) (xs ++ [y])→Turn (fun j => v.ownBlock=some j) w w'→(v.ownBlock=some g∨w.heap.size≤g)→wpList P ops Q rest (a.put o.dst (.slice (some ⟨g,0,none⟩) (xs.length+1) cap)) w') :
  wpList P ops Q (o :: rest) a w:=by
 obtain ⟨i0,hi0,hz0,hz1,hz2⟩:=info_split hI
 refine wpList_append_at hg s x t hop e i0 z 1 bytes hT hi0 hz0 hz1 hz2 hz (by decide) v xs.length _ hs hi ⟨b0,0,none⟩ 1 c [y] hx rfl ?_ ?_ (.inl (by decide)) (by unfold maxLen; omega) (by
  have h2:(xs.length+1) * bytes≤1000001 * 16:=Nat.mul_le_mul (by omega) hb
  omega) ?_
 ·intro j u hj
  rw [Addr.add_mid]
  cases j with
  | zero => simp at hj; subst hj; exact hc
  | succ j => simp at hj
 ·intro u hu; simp at hu; subst hu; exact h1
 ·intro g cap w' r1 r2 r3
  refine hK g cap w' ?_ r2 r3
  unfold RowV
  rw [List.length_append,List.length_singleton]
  exact r1
theorem step_append_val {P:Program} {ops:Array Oper} {o:Oper} {a:Act} {w:World} {K:Act→World→Prop} {Q:Exit→Act→World→Prop} {E:Prop} {e t:TypeId} {z:Value} {bytes:Nat}
  (hg:o.guard=none) (s x:Operand) (hop:o.op=Op.call { callee:=Callee.builtin Builtin.append,args:=#[s,x],argTypes:=#[t,t] }) (hT:P.underlying t=some (.slice e)) (hI:(P.info? e).map (fun i => (i.zero,i.size,i.bytes))=some (some z,1,bytes)) (hz:z.cells.size=1) (hb:bytes≤16)
  (v:Value) (xs:List Value) (hs:a.eval s=v) (hi:RowV w e v xs) (b0 c:Nat) (y:Value) (hx:a.eval x=.slice (some ⟨b0,0,none⟩) 1 c) (hc:w.cell? ⟨b0,0,none⟩=some y) (h1:y.oneCell'=true) (hl:xs.length≤1000000)
  (hK:∀ g cap w',RowV w' e (.slice (some ⟨g,0,none⟩) (xs.length+1) cap) (xs ++ [y])→Turn (fun j => v.ownBlock=some j) w w'→(v.ownBlock=some g∨w.heap.size≤g)→K (a.put o.dst (.slice (some ⟨g,0,none⟩) (xs.length+1) cap)) w') :
  if Region.wanted o (yielded ops a.tmps)=true then Oper.wp P o a w K Q else E:=by
 obtain ⟨i0,hi0,hz0,hz1,hz2⟩:=info_split hI
 refine step_append_at hg s x t hop e i0 z 1 bytes hT hi0 hz0 hz1 hz2 hz (by decide) v xs.length _ hs hi ⟨b0,0,none⟩ 1 c [y] hx rfl ?_ ?_ (.inl (by decide)) (by unfold maxLen; omega) (by
  have h2:(xs.length+1) * bytes≤1000001 * 16:=Nat.mul_le_mul (by omega) hb
  omega) ?_
 ·intro j u hj
  rw [Addr.add_mid]
  cases j with
  | zero => simp at hj; subst hj; exact hc
  | succ j => simp at hj
 ·intro u hu; simp at hu; subst hu; exact h1
 ·intro g cap w' r1 r2 r3
  refine hK g cap w' ?_ r2 r3
  unfold RowV
  rw [List.length_append,List.length_singleton]
  exact r1
end Go.Proofs.YtncfmlifponjdaaGreatDoor
