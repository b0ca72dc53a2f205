/- What a call turns: base notions for all walks of this seat, with no program in sight. 'Turn S w w1': of the blocks that were there in w only those in S may have turned. No condition. -/
import Derived.WalkKit
import Derived.WalkSpells
import Derived.WalkLawsBesides
import Derived.Deep.MidRow
namespace Go.Proofs.YtacoaahomdjfnaaDoor
open Go.RowKit
set_option linter.unusedVariables false
structure Turn (S:Nat→Prop) (w w':World):Prop where
  os:w'.os=w.os
  tape:w'.tape=w.tape
  output:w'.output=w.output
  size:w.heap.size≤w'.heap.size
  block:∀ k,k < w.heap.size→¬ S k→w'.heap[k]?=w.heap[k]?
namespace Turn
variable {S:Nat→Prop} {w w1 w2:World}
theorem refl (S:Nat→Prop) (w:World):Turn S w w:=⟨rfl,rfl,rfl,Nat.le_refl _,fun _ _ _ => rfl⟩
theorem mono {S':Nat→Prop} (h:Turn S w w1) (hs:∀ k,k < w.heap.size→S k→S' k):Turn S' w w1 :=
  ⟨h.os,h.tape,h.output,h.size,fun k hk hn => h.block k hk (fun s => hn (hs k hk s))⟩
theorem trans (h:Turn S w w1) (g:Turn S w1 w2):Turn S w w2 :=
  ⟨g.os.trans h.os,g.tape.trans h.tape,g.output.trans h.output,Nat.le_trans h.size g.size,
   fun k hk hn => (g.block k (Nat.lt_of_lt_of_le hk h.size) hn).trans (h.block k hk hn)⟩
theorem trans' {S':Nat→Prop} (h:Turn S w w1) (g:Turn S' w1 w2) (hs:∀ k,k < w.heap.size→S' k→S k):Turn S w w2 :=
  ⟨g.os.trans h.os,g.tape.trans h.tape,g.output.trans h.output,Nat.le_trans h.size g.size,
   fun k hk hn => (g.block k (Nat.lt_of_lt_of_le hk h.size) (fun s => hn (hs k hk s))).trans (h.block k hk hn)⟩
theorem drew (h:Turn S w w1):Turn S w w1.drew:=⟨h.os,h.tape,h.output,h.size,h.block⟩
theorem drewN (h:Turn S w w1) (n:Nat):Turn S w (w1.drewN n):=⟨h.os,h.tape,h.output,h.size,h.block⟩
theorem alloc (h:Turn S w w1) (o:Obj):Turn S w (w1.alloc o) :=
  h.trans ⟨rfl,rfl,rfl,by simp,fun k hk _ => Below.heap_alloc _ _ _ hk⟩
theorem setCell (h:Turn S w w1) (a:Addr) (v:Value) (hS:a.block < w.heap.size→S a.block):Turn S w (w1.setCell a v) :=
  h.trans' (S':=fun k => k=a.block) ⟨rfl,rfl,rfl,by simp,fun k _ hn => Below.heap_setCell _ _ _ _ hn⟩ (fun k hk e => by subst e; exact hS hk)
theorem below {B:Nat} (h:Turn (fun k => B≤k) w w1) (hB:B≤w.heap.size):Below B w w1 :=
  ⟨h.os,h.tape,h.output,h.size,fun k hk => h.block k (by omega) (by omega)⟩
theorem cell (h:Turn S w w1) {a:Addr} (ha:a.block < w.heap.size) (hn:¬ S a.block):w1.cell? a=w.cell? a :=
  World.cell?_of_block (w:=w) (h.block a.block ha hn)
theorem frozen (h:Turn S w w1) {a:Addr} (ha:a.block < w.heap.size) (hn:¬ S a.block):w1.frozen? a=w.frozen? a :=
  World.frozen?_of_block (w:=w) (h.block a.block ha hn)
end Turn
theorem lt_of_cell {w:World} {a:Addr} {v:Value} (h:w.cell? a=some v):a.block < w.heap.size:=World.block_lt_of_cell? _ _ h
theorem hid {p:Prop} (h:p):Hid p:=h
theorem ownBlock_ge {w:World} {base:Nat} {e:TypeId} {size:Nat} {v:Value} {n:Nat} {xs:List Value} (h:w.ownsRow base e size v n xs) {k:Nat} (hk:v.ownBlock=some k):base≤k:=by
  obtain ⟨_,h0 | ⟨g,cap,cur,rfl,hb,_⟩⟩:=h
  · rw [h0.1] at hk; cases hk
  · simp only [Value.ownBlock,Option.some.injEq] at hk; omega
end Go.Proofs.YtacoaahomdjfnaaDoor
