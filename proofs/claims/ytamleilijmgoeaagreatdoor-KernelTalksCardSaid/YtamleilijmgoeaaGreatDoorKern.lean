/- Package kernel: what a kernel has, in memory: its store and the spaces, its files and the tables, its processes, their ledgers, and who has what. Conditions: each theorem's own premises. Package kernel: what a kernel keeps, plain; who; what is seen of it. Conditions: each theorem's own premises. Package kernel: Has, Pids; charging a ledger by one ask; an error without a place. Conditions: each theorem's own premises; the variable errors.errorType holds what is laid. Package kernel: Protect, Load, Unmap, Map. Conditions: each theorem's own premises; the variable errors.errorType holds what is laid. Package kernel: whatever is asked by who does not run: ErrMissing, and nothing turns. Conditions: each theorem's own premises. Package kernel: Protect, Unmap, Map. Conditions: each theorem's own premises; the variable errors.errorType holds what is laid. Package kernel: Limit, Adjust, Kill, Ignore, Wait, Pids. Conditions: each theorem's own premises. Package kernel: Kill, Ignore, Wait, Nodes, Pids. Conditions: each theorem's own premises. Package kernel: Exit. Conditions: each theorem's own premises. Package kernel: Read, Seek, Mark. Conditions: each theorem's own premises. Package kernel: Close. Conditions: each theorem's own premises. Package kernel: Exec. Conditions: each theorem's own premises. Package kernel: what Take does to the whole. Conditions: each theorem's own premises. Package kernel: New. Conditions: each theorem's own premises. Package kernel: Fork. Conditions: each theorem's own premises. Package kernel: cands: all that may go. Conditions: each theorem's own premises. Package kernel: Store: who weighs most goes, until there is a frame. Conditions: each theorem's own premises; the variable errors.errorType holds what is laid. Package kernel: the laws' own first look ('kept'): a kernel of four frames does what it should. Condition: the variable errors.errorType holds what is laid. -/
import Derived.Test.YtamleilijmgoeaaGreatDoorVm
import Derived.Test.YtamleilijmgoeaaGreatDoorProcWait
import Derived.Test.YtamleilijmgoeaaGreatDoorBase
import Derived.Test.YtamleilijmgoeaaGreatDoorDescLaw
import Derived.Test.YtamleilijmgoeaaGreatDoorDescTab
import Derived.Test.YtamleilijmgoeaaGreatDoorProcPids
import Derived.Deep.RegionHeld3
import Derived.Test.YtamleilijmgoeaaGreatDoorProc
import Derived.Test.YtamleilijmgoeaaGreatDoorVmClear
namespace Go.Proofs.YtamleilijmgoeaaGreatDoor
open Go.RowKit
set_option linter.unusedVariables false
structure KO where
 ob : Nat
 lb : Nat
 u : Nat → Int
 m : Nat → Int
 adj : Int
structure KA where
 kb : Nat
 s : SB
 n : Nat
 tb : Nat
 fb : Nat
 pb : Nat
 pm : Nat
 om : Nat
structure KS where
 t : St
 l : List Spc
 S : PS
 ts : List (Nat × PTab)
 os : List KO
 ow : List (Int × Nat)
 pl : List (Int × Nat)
 pf : Nat → Pr
structure OwnAt (w : World) (ob sp tab lb : Nat) (adj : Int) : Prop where
 c0 : w.cell? ⟨ob, 0, none⟩ = some (.pointer (some ⟨sp, 0, none⟩))
 c1 : w.cell? ⟨ob, 1, none⟩ = some (.pointer (some ⟨tab, 0, none⟩))
 c2 : w.cell? ⟨ob, 2, none⟩ = some (.pointer (some ⟨lb, 0, none⟩))
 c3 : w.cell? ⟨ob, 3, none⟩ = some (.int .i64 adj)
 fz : ∀ i, w.frozen? ⟨ob, i, none⟩ = false
def obOf (os : List KO) (i : Nat) : Nat := (os[i]?).elim 0 (·.ob)
def keysK (os : List KO) (ow : List (Int × Nat)) : List (Int × Nat) := ow.map fun t => (t.1, obOf os t.2)
structure KIn (W w : World) (a : KA) (k : KS) (C : Nat → Nat × Nat) : Prop where
 c0 : w.cell? ⟨a.kb, 0, none⟩ = some (.pointer (some ⟨a.s.sb, 0, none⟩))
 c1 : w.cell? ⟨a.kb, 1, none⟩ = some (.pointer (some ⟨a.tb, 0, none⟩))
 c2 : w.cell? ⟨a.kb, 2, none⟩ = some (.pointer (some ⟨a.fb, 0, none⟩))
 c3 : w.cell? ⟨a.kb, 3, none⟩ = some (.pointer (some ⟨a.pb, 0, none⟩))
 c4 : w.cell? ⟨a.kb, 4, none⟩ = some (.map (some a.om))
 own : ∀ (i : Nat) o, k.os[i]? = some o → ∃ x y, k.l[i]? = some x ∧ k.ts[i]? = some y ∧ OwnAt w o.ob x.sp y.1 o.lb o.adj ∧ LedgerIs w o.lb o.u o.m
 mp : MapIs w a.om (.int .i64) encI ptr (keysK k.os k.ow)
 has : ∀ t ∈ k.ow, ∃ o, k.os[t.2]? = some o
 vm : VmAll w a.s a.n k.t k.l
 pr : PrTab w a.pb a.pm k.pl k.pf
 desc : DLawB ⟨w, fun j => j < W.heap.size ∨ C j ≠ (0, 0)⟩ w a.fb a.tb k.S k.ts
 ckb : C a.kb = (1, 0)
 com : C a.om = (2, 0)
 cob : ∀ (i : Nat) o, k.os[i]? = some o → C o.ob = (3, i)
 clb : ∀ (i : Nat) o, k.os[i]? = some o → C o.lb = (4, i)
 cvm : ∀ j, AllFoot a.s k.t.vs k.l j → C j = (5, 0)
 cpr : ∀ j, TFoot a.pb a.pm k.pl j → C j = (6, 0)
 low : ∀ j, C j ≠ (0, 0) → W.heap.size ≤ j ∧ j < w.heap.size
 turn : Turn (fun _ => False) W w
def KIs (W w : World) (a : KA) (k : KS) : Prop := ∃ C, KIn W w a k C
section
variable {W w w' w1 : World} {a : KA} {k : KS} {C C' : Nat → Nat × Nat}
theorem OwnAt.lt {ob sp tab lb : Nat} {adj : Int} (h : OwnAt w ob sp tab lb adj) : ob < w.heap.size := lt_of_cell h.c0
theorem OwnAt.turned {ob sp tab lb : Nat} {adj : Int} {X : Nat → Prop} (h : OwnAt w ob sp tab lb adj) (t : Turn X w w') (hn : ¬ X ob) : OwnAt w' ob sp tab lb adj :=
 ⟨(t.cell (a := ⟨ob, 0, none⟩) h.lt hn).trans h.c0, (t.cell (a := ⟨ob, 1, none⟩) h.lt hn).trans h.c1, (t.cell (a := ⟨ob, 2, none⟩) h.lt hn).trans h.c2, (t.cell (a := ⟨ob, 3, none⟩) h.lt hn).trans h.c3, fun i => (t.frozen (a := ⟨ob, i, none⟩) h.lt hn).trans (h.fz i)⟩
theorem DLawB.rebase {B : Base} {old' : Nat → Prop} {fb tb : Nat} {S : PS} {ts : List (Nat × PTab)} (h : DLawB B w fb tb S ts) (t : Turn B.old w w') (hnew : ∀ j, old' j → B.old j ∨ w.heap.size ≤ j) (hlow : ∀ j, old' j → j < w'.heap.size) : DLawB ⟨w', old'⟩ w' fb tb S ts := by
 obtain ⟨F, h1, h2, h3⟩ := h.files
 refine ⟨⟨F, h1.turned t h2, fun j hj ho => ?_, h3⟩, fun j x hx => ?_, h.apart, Turn.refl _ _, hlow⟩
 ·rcases hnew j ho with h4 | h4
  ·exact h2 j hj h4
  ·have := h1.low j hj; omega
 ·obtain ⟨h5, h6⟩ := h.tabs j x hx
  refine ⟨h5.turned t h6, fun ho => ?_⟩
  rcases hnew x.1 ho with h4 | h4
  ·exact h6 h4
  ·have := h5.lt; omega
theorem KIn.still (h : KIn W w a k C) (t : Turn (fun _ => False) w w') : KIn W w' a k C :=
  { h with
    c0 := (t.cell (lt_of_cell h.c0) id).trans h.c0
    c1 := (t.cell (lt_of_cell h.c1) id).trans h.c1
    c2 := (t.cell (lt_of_cell h.c2) id).trans h.c2
    c3 := (t.cell (lt_of_cell h.c3) id).trans h.c3
    c4 := (t.cell (lt_of_cell h.c4) id).trans h.c4
    own := fun i o ho => by
      obtain ⟨x, y, h1, h2, h3, h4⟩ := h.own i o ho
      exact ⟨x, y, h1, h2, h3.turned t id, h4.turned t id⟩
    mp := h.mp.turned t id
    vm := h.vm.turned t (fun _ _ => id)
    pr := h.pr.turned t (fun _ _ => id)
    desc := h.desc.rebase (t.mono (fun _ _ h => h.elim)) (fun j hj => .inl hj) (fun j hj => Nat.lt_of_lt_of_le (h.desc.low j hj) t.size)
    low := fun j hj => ⟨(h.low j hj).1, Nat.lt_of_lt_of_le (h.low j hj).2 t.size⟩
    turn := h.turn.trans t }
theorem KIs.still (h : KIs W w a k) (t : Turn (fun _ => False) w w') : KIs W w' a k := by
 obtain ⟨C, h⟩ := h
 exact ⟨C, h.still t⟩
theorem KIs.turn (h : KIs W w a k) : Turn (fun _ => False) W w := by
 obtain ⟨C, h⟩ := h
 exact h.turn
theorem kmark {x y : Nat × Nat} {i j : Nat} (h1 : C i = x) (h2 : C j = y) (h : x ≠ y) : i ≠ j := fun e => h (by rw [← h1, ← h2, e])
theorem KIn.others {z : Nat × Nat} (h : KIn W w a k C) (t : Turn (fun j => C j = z) w w') (hz : z ≠ (0, 0)) :
  (z ≠ (1, 0) → w'.cell? ⟨a.kb, 0, none⟩ = some (.pointer (some ⟨a.s.sb, 0, none⟩)) ∧ w'.cell? ⟨a.kb, 1, none⟩ = some (.pointer (some ⟨a.tb, 0, none⟩)) ∧ w'.cell? ⟨a.kb, 2, none⟩ = some (.pointer (some ⟨a.fb, 0, none⟩)) ∧ w'.cell? ⟨a.kb, 3, none⟩ = some (.pointer (some ⟨a.pb, 0, none⟩)) ∧ w'.cell? ⟨a.kb, 4, none⟩ = some (.map (some a.om))) ∧
  (z ≠ (2, 0) → MapIs w' a.om (.int .i64) encI ptr (keysK k.os k.ow)) ∧
  (∀ (i : Nat) o, k.os[i]? = some o → ∃ x y, k.l[i]? = some x ∧ k.ts[i]? = some y ∧ (z ≠ (3, i) → OwnAt w' o.ob x.sp y.1 o.lb o.adj) ∧ (z ≠ (4, i) → LedgerIs w' o.lb o.u o.m)) ∧
  (z ≠ (5, 0) → VmAll w' a.s a.n k.t k.l) ∧ (z ≠ (6, 0) → PrTab w' a.pb a.pm k.pl k.pf) ∧ Turn (fun _ => False) W w' := by
 refine ⟨fun hn => ?_, fun hn => ?_, fun i o ho => ?_, fun hn => ?_, fun hn => ?_, ?_⟩
 ·have hk : ¬ C a.kb = z := fun e => hn (e.symm.trans h.ckb)
  exact ⟨(t.cell (lt_of_cell h.c0) hk).trans h.c0, (t.cell (lt_of_cell h.c1) hk).trans h.c1, (t.cell (lt_of_cell h.c2) hk).trans h.c2, (t.cell (lt_of_cell h.c3) hk).trans h.c3, (t.cell (lt_of_cell h.c4) hk).trans h.c4⟩
 ·exact h.mp.turned t (fun e => hn (e.symm.trans h.com))
 ·obtain ⟨x, y, h1, h2, h3, h4⟩ := h.own i o ho
  exact ⟨x, y, h1, h2, fun hn => h3.turned t (fun e => hn (e.symm.trans (h.cob i o ho))), fun hn => h4.turned t (fun e => hn (e.symm.trans (h.clb i o ho)))⟩
 ·exact h.vm.turned t (fun j hj e => hn (e.symm.trans (h.cvm j hj)))
 ·exact h.pr.turned t (fun j hj e => hn (e.symm.trans (h.cpr j hj)))
 ·exact h.turn.trans' t (fun j hj e => by have := (h.low j (by rw [e]; exact hz)).1; omega)
open Classical in
noncomputable def markF (C : Nat → Nat × Nat) (F' : Nat → Prop) (z : Nat × Nat) : Nat → Nat × Nat := fun j => if F' j then z else C j
theorem markF_in {F' : Nat → Prop} {z : Nat × Nat} {j : Nat} (h : F' j) : markF C F' z j = z := if_pos h
theorem markF_out {F' : Nat → Prop} {z : Nat × Nat} {j : Nat} (h : ¬ F' j) : markF C F' z j = C j := if_neg h
theorem markF_keep {F' : Nat → Prop} {z y : Nat × Nat} {j : Nat} (hF : ∀ j, F' j → C j = z ∨ w.heap.size ≤ j) (hl : ∀ j, C j ≠ (0, 0) → j < w.heap.size) (hj : C j = y) (hy : y ≠ (0, 0)) (hne : y ≠ z) : markF C F' z j = y := by
 rw [markF_out (fun hf => ?_)]
 ·exact hj
 ·rcases hF j hf with e | e
  ·exact hne (hj.symm.trans e)
  ·have := hl j (by rw [hj]; exact hy); omega
theorem markF_old {F' : Nat → Prop} {z : Nat × Nat} {j : Nat} (hF : ∀ j, F' j → C j = z ∨ w.heap.size ≤ j) (hz : z ≠ (0, 0)) (h : markF C F' z j ≠ (0, 0)) : C j ≠ (0, 0) ∨ w.heap.size ≤ j := by
 by_cases hf : F' j
 ·rcases hF j hf with e | e
  ·exact .inl (by rw [e]; exact hz)
  ·exact .inr e
 ·rw [markF_out hf] at h; exact .inl h
def Own7 (C C' : Nat → Nat × Nat) (w w' : World) : Prop := (∀ j, C j = (7, 0) → C' j = (7, 0)) ∧ Turn (fun j => C j ≠ (7, 0)) w w'
theorem Own7.trans {C1 C2 : Nat → Nat × Nat} {w2 : World} (h1 : Own7 C C1 w w1) (h2 : Own7 C1 C2 w1 w2) : Own7 C C2 w w2 :=
 ⟨fun j hj => h2.1 j (h1.1 j hj), h1.2.trans (h2.2.mono (fun j _ hn e => hn (h1.1 j e)))⟩
theorem Own7.still (t : Turn (fun _ => False) w w') : Own7 C C w w' := ⟨fun _ h => h, t.mono (fun _ _ h => h.elim)⟩
theorem own7_mark {F' : Nat → Prop} {z : Nat × Nat} (hF : ∀ j, F' j → C j = z ∨ w.heap.size ≤ j) (hl : ∀ j, C j ≠ (0, 0) → j < w.heap.size) (hz : z ≠ (7, 0)) (t : Turn (fun j => C j = z) w w') (h7 : ((7, 0) : Nat × Nat) ≠ (0, 0)) : Own7 C (markF C F' z) w w' :=
 ⟨fun j hj => markF_keep hF hl hj h7 (fun e => hz e.symm), t.mono (fun j _ hj e => hz (hj.symm.trans e))⟩
theorem KIn.vmStepC (h : KIn W w a k C) {t' : St} {l' : List Spc} (hA : AllAfter a.s a.n k.t k.l w w' t' l') (hl : ∀ (i : Nat) x, k.l[i]? = some x → ∃ x', l'[i]? = some x' ∧ x'.sp = x.sp) : KIn W w' a { k with t := t', l := l' } (markF C (AllFoot a.s t'.vs l') (5, 0)) ∧ Own7 C (markF C (AllFoot a.s t'.vs l') (5, 0)) w w' := by
 obtain ⟨hv, t, hf⟩ := hA
 have tC : Turn (fun j => C j = (5, 0)) w w' := t.mono (fun j _ hj => h.cvm j hj)
 obtain ⟨o1, o2, o3, _, o5, o6⟩ := h.others tC (by decide)
 obtain ⟨k0, k1, k2, k3, k4⟩ := o1 (by decide)
 have hF : ∀ j, AllFoot a.s t'.vs l' j → C j = (5, 0) ∨ w.heap.size ≤ j := fun j hj => (hf j hj).imp (h.cvm j) id
 have hlo : ∀ j, C j ≠ (0, 0) → j < w.heap.size := fun j hj => (h.low j hj).2
 have keep : ∀ {j : Nat} {y : Nat × Nat}, C j = y → y ≠ (0, 0) → y ≠ (5, 0) → markF C (AllFoot a.s t'.vs l') (5, 0) j = y := fun h1 h2 h3 => markF_keep hF hlo h1 h2 h3
 refine ⟨⟨k0, k1, k2, k3, k4, fun i o ho => ?_, o2 (by decide), h.has, hv, o5 (by decide), ?_, keep h.ckb (by decide) (by decide), keep h.com (by decide) (by decide), fun i o ho => keep (h.cob i o ho) (by simp) (by simp), fun i o ho => keep (h.clb i o ho) (by simp) (by simp), fun j hj => markF_in hj, fun j hj => keep (h.cpr j hj) (by decide) (by decide), fun j hj => ?_, o6⟩, own7_mark hF hlo (by decide) tC (by decide)⟩
 ·obtain ⟨x, y, h1, h2, h3, h4⟩ := o3 i o ho
  obtain ⟨x', h5, h6⟩ := hl i x h1
  exact ⟨x', y, h5, h2, by rw [h6]; exact h3 (by simp), h4 (by simp)⟩
 ·refine h.desc.rebase (tC.mono (fun j _ hj => .inr (by rw [hj]; decide))) (fun j hj => ?_) (fun j hj => ?_)
  ·rcases hj with hj | hj
   ·exact .inl (.inl hj)
   ·exact (markF_old hF (by decide) hj).imp .inr id
  ·rcases hj with hj | hj
   ·exact Nat.lt_of_lt_of_le hj o6.size
   ·by_cases hg : AllFoot a.s t'.vs l' j
    ·exact hv.foot_lt j hg
    ·rw [markF_out hg] at hj; exact Nat.lt_of_lt_of_le (hlo j hj) t.size
 ·by_cases hg : AllFoot a.s t'.vs l' j
  ·refine ⟨?_, hv.foot_lt j hg⟩
   rcases hF j hg with e | e
   ·exact (h.low j (by rw [e]; decide)).1
   ·exact Nat.le_trans h.turn.size e
  ·rw [markF_out hg] at hj
   exact ⟨(h.low j hj).1, Nat.lt_of_lt_of_le (hlo j hj) t.size⟩
theorem KIn.prStepC (h : KIn W w a k C) {pl' : List (Int × Nat)} {pf' : Nat → Pr} (hp : PrTab w' a.pb a.pm pl' pf') (t : Turn (TFoot a.pb a.pm k.pl) w w') (hf : ∀ j, TFoot a.pb a.pm pl' j → TFoot a.pb a.pm k.pl j ∨ w.heap.size ≤ j) : KIn W w' a { k with pl := pl', pf := pf' } (markF C (TFoot a.pb a.pm pl') (6, 0)) ∧ Own7 C (markF C (TFoot a.pb a.pm pl') (6, 0)) w w' := by
 have tC : Turn (fun j => C j = (6, 0)) w w' := t.mono (fun j _ hj => h.cpr j hj)
 obtain ⟨o1, o2, o3, o4, _, o6⟩ := h.others tC (by decide)
 obtain ⟨k0, k1, k2, k3, k4⟩ := o1 (by decide)
 have hF : ∀ j, TFoot a.pb a.pm pl' j → C j = (6, 0) ∨ w.heap.size ≤ j := fun j hj => (hf j hj).imp (h.cpr j) id
 have hlo : ∀ j, C j ≠ (0, 0) → j < w.heap.size := fun j hj => (h.low j hj).2
 have keep : ∀ {j : Nat} {y : Nat × Nat}, C j = y → y ≠ (0, 0) → y ≠ (6, 0) → markF C (TFoot a.pb a.pm pl') (6, 0) j = y := fun h1 h2 h3 => markF_keep hF hlo h1 h2 h3
 refine ⟨⟨k0, k1, k2, k3, k4, fun i o ho => ?_, o2 (by decide), h.has, o4 (by decide), hp, ?_, keep h.ckb (by decide) (by decide), keep h.com (by decide) (by decide), fun i o ho => keep (h.cob i o ho) (by simp) (by simp), fun i o ho => keep (h.clb i o ho) (by simp) (by simp), fun j hj => keep (h.cvm j hj) (by decide) (by decide), fun j hj => markF_in hj, fun j hj => ?_, o6⟩, own7_mark hF hlo (by decide) tC (by decide)⟩
 ·obtain ⟨x, y, h1, h2, h3, h4⟩ := o3 i o ho
  exact ⟨x, y, h1, h2, h3 (by simp), h4 (by simp)⟩
 ·refine h.desc.rebase (tC.mono (fun j _ hj => .inr (by rw [hj]; decide))) (fun j hj => ?_) (fun j hj => ?_)
  ·rcases hj with hj | hj
   ·exact .inl (.inl hj)
   ·exact (markF_old hF (by decide) hj).imp .inr id
  ·rcases hj with hj | hj
   ·exact Nat.lt_of_lt_of_le hj o6.size
   ·by_cases hg : TFoot a.pb a.pm pl' j
    ·exact hp.foot_lt j hg
    ·rw [markF_out hg] at hj; exact Nat.lt_of_lt_of_le (hlo j hj) t.size
 ·by_cases hg : TFoot a.pb a.pm pl' j
  ·refine ⟨?_, hp.foot_lt j hg⟩
   rcases hF j hg with e | e
   ·exact (h.low j (by rw [e]; decide)).1
   ·exact Nat.le_trans h.turn.size e
  ·rw [markF_out hg] at hj
   exact ⟨(h.low j hj).1, Nat.lt_of_lt_of_le (hlo j hj) t.size⟩
theorem KIn.prStep (h : KIn W w a k C) {pl' : List (Int × Nat)} {pf' : Nat → Pr} (hp : PrTab w' a.pb a.pm pl' pf') (t : Turn (TFoot a.pb a.pm k.pl) w w') (hf : ∀ j, TFoot a.pb a.pm pl' j → TFoot a.pb a.pm k.pl j ∨ w.heap.size ≤ j) : KIs W w' a { k with pl := pl', pf := pf' } := ⟨_, (h.prStepC hp t hf).1⟩
theorem KIn.descStepC (h : KIn W w a k C) {S' : PS} {ts' : List (Nat × PTab)} (hd : DLawB ⟨w, fun j => j < W.heap.size ∨ C j ≠ (0, 0)⟩ w' a.fb a.tb S' ts') (hl : ∀ (i : Nat) y, k.ts[i]? = some y → ∃ y', ts'[i]? = some y' ∧ y'.1 = y.1) : KIn W w' a { k with S := S', ts := ts' } C := by
 have t := hd.turn
 have tt : ∀ {j : Nat}, C j ≠ (0, 0) → ¬ ¬ (j < W.heap.size ∨ C j ≠ (0, 0)) := fun hj hn => hn (.inr hj)
 have hkb : ¬ ¬ (a.kb < W.heap.size ∨ C a.kb ≠ (0, 0)) := tt (by rw [h.ckb]; decide)
 refine ⟨(t.cell (a := ⟨a.kb, 0, none⟩) (lt_of_cell h.c0) hkb).trans h.c0, (t.cell (a := ⟨a.kb, 1, none⟩) (lt_of_cell h.c1) hkb).trans h.c1, (t.cell (a := ⟨a.kb, 2, none⟩) (lt_of_cell h.c2) hkb).trans h.c2, (t.cell (a := ⟨a.kb, 3, none⟩) (lt_of_cell h.c3) hkb).trans h.c3, (t.cell (a := ⟨a.kb, 4, none⟩) (lt_of_cell h.c4) hkb).trans h.c4, fun i o ho => ?_, h.mp.turned t (tt (by rw [h.com]; decide)), h.has, h.vm.turned t (fun j hj => tt (by rw [h.cvm j hj]; decide)), h.pr.turned t (fun j hj => tt (by rw [h.cpr j hj]; decide)), ?_, h.ckb, h.com, h.cob, h.clb, h.cvm, h.cpr, fun j hj => ⟨(h.low j hj).1, Nat.lt_of_lt_of_le (h.low j hj).2 t.size⟩, h.turn.trans' t (fun j hj hn => (hn (.inl hj)).elim)⟩
 ·obtain ⟨x, y, h1, h2, h3, h4⟩ := h.own i o ho
  obtain ⟨y', h5, h6⟩ := hl i y h2
  exact ⟨x, y', h1, h5, by rw [h6]; exact h3.turned t (tt (by rw [h.cob i o ho]; simp)), h4.turned t (tt (by rw [h.clb i o ho]; simp))⟩
 ·exact hd.rebase (Turn.refl _ _) (fun j hj => .inl hj) (fun j hj => Nat.lt_of_lt_of_le (h.desc.low j hj) t.size)
theorem keysK_set {os : List KO} {i : Nat} {o o' : KO} (ho : os[i]? = some o) (e : o'.ob = o.ob) (ow : List (Int × Nat)) : keysK (os.set i o') ow = keysK os ow := by
 unfold keysK
 refine List.map_congr_left fun t _ => ?_
 have : obOf (os.set i o') t.2 = obOf os t.2 := by
  unfold obOf
  rw [List.getElem?_set]
  by_cases h : i = t.2
  ·subst h
   have hl := (List.getElem?_eq_some_iff.1 ho).1
   rw [if_pos rfl, if_pos hl, ho]
   exact e
  ·rw [if_neg h]
 rw [this]
theorem has_set {os : List KO} {i : Nat} {o o' : KO} {ow : List (Int × Nat)} (ho : os[i]? = some o) (h : ∀ t ∈ ow, ∃ o, os[t.2]? = some o) : ∀ t ∈ ow, ∃ p, (os.set i o')[t.2]? = some p := fun t ht => by
 obtain ⟨p, hp⟩ := h t ht
 by_cases e : i = t.2
 ·subst e
  exact ⟨o', by rw [List.getElem?_set, if_pos rfl, if_pos (List.getElem?_eq_some_iff.1 ho).1]⟩
 ·exact ⟨p, by rw [List.getElem?_set, if_neg e]; exact hp⟩
theorem os_set {os : List KO} {i j : Nat} {o o' p : KO} (ho : os[i]? = some o) (h : (os.set i o')[j]? = some p) : (j = i ∧ p = o') ∨ (j ≠ i ∧ os[j]? = some p) := by
 rw [List.getElem?_set] at h
 by_cases e : i = j
 ·subst e
  rw [if_pos rfl, if_pos (List.getElem?_eq_some_iff.1 ho).1] at h
  cases h
  exact .inl ⟨rfl, rfl⟩
 ·rw [if_neg e] at h
  exact .inr ⟨fun e2 => e e2.symm, h⟩
theorem KIn.ownStepC {z : Nat × Nat} (h : KIn W w a k C) {i : Nat} {o o' : KO} (ho : k.os[i]? = some o) (t : Turn (fun j => C j = z) w w') (hz : z = (3, i) ∨ z = (4, i)) (e1 : o'.ob = o.ob) (e2 : o'.lb = o.lb)
  (hO : ∀ x y, k.l[i]? = some x → k.ts[i]? = some y → OwnAt w' o.ob x.sp y.1 o.lb o'.adj ∧ LedgerIs w' o.lb o'.u o'.m) : KIn W w' a { k with os := k.os.set i o' } C := by
 have hz0 : z ≠ (0, 0) := by rcases hz with e | e <;> rw [e] <;> simp
 have hz1 : z ≠ (1, 0) := by rcases hz with e | e <;> rw [e] <;> simp
 have hz2 : z ≠ (2, 0) := by rcases hz with e | e <;> rw [e] <;> simp
 have hz5 : z ≠ (5, 0) := by rcases hz with e | e <;> rw [e] <;> simp
 have hz6 : z ≠ (6, 0) := by rcases hz with e | e <;> rw [e] <;> simp
 obtain ⟨o1, o2, o3, o4, o5, o6⟩ := h.others t hz0
 obtain ⟨k0, k1, k2, k3, k4⟩ := o1 hz1
 refine ⟨k0, k1, k2, k3, k4, fun j p hp => ?_, by rw [show keysK (k.os.set i o') k.ow = keysK k.os k.ow from keysK_set ho e1 _]; exact o2 hz2, has_set ho h.has, o4 hz5, o5 hz6, ?_, h.ckb, h.com, fun j p hp => ?_, fun j p hp => ?_, h.cvm, h.cpr, fun j hj => ⟨(h.low j hj).1, Nat.lt_of_lt_of_le (h.low j hj).2 t.size⟩, o6⟩
 ·rcases os_set ho hp with ⟨rfl, rfl⟩ | ⟨hne, hp'⟩
  ·obtain ⟨x, y, h1, h2, _⟩ := h.own _ o ho
   obtain ⟨h3, h4⟩ := hO x y h1 h2
   exact ⟨x, y, h1, h2, by rw [e1, e2]; exact h3, by rw [e2]; exact h4⟩
  ·obtain ⟨x, y, h1, h2, h3, h4⟩ := o3 j p hp'
   have h8 : z ≠ (3, j) := by rcases hz with e | e <;> rw [e] <;> simp <;> exact fun e3 => hne e3.symm
   have h9 : z ≠ (4, j) := by rcases hz with e | e <;> rw [e] <;> simp <;> exact fun e3 => hne e3.symm
   exact ⟨x, y, h1, h2, h3 h8, h4 h9⟩
 ·exact h.desc.rebase (t.mono (fun j _ hj => .inr (by rw [hj]; exact hz0))) (fun j hj => .inl hj) (fun j hj => Nat.lt_of_lt_of_le (h.desc.low j hj) t.size)
 ·rcases os_set ho hp with ⟨rfl, rfl⟩ | ⟨hne, hp'⟩
  ·rw [e1]; exact h.cob _ o ho
  ·exact h.cob j p hp'
 ·rcases os_set ho hp with ⟨rfl, rfl⟩ | ⟨hne, hp'⟩
  ·rw [e2]; exact h.clb _ o ho
  ·exact h.clb j p hp'
theorem KIn.ledgerC (h : KIn W w a k C) {i : Nat} {o : KO} (ho : k.os[i]? = some o) {u' m' : Nat → Int} (hL : LedgerIs w' o.lb u' m') (t : Turn (fun j => j = o.lb) w w') : KIn W w' a { k with os := k.os.set i { o with u := u', m := m' } } C := by
 refine h.ownStepC (z := (4, i)) (o' := { o with u := u', m := m' }) ho (t.mono (fun j _ e => by subst e; exact h.clb i o ho)) (.inr rfl) rfl rfl (fun x y h1 h2 => ⟨?_, hL⟩)
 obtain ⟨x', y', h3, h4, h5, _⟩ := h.own i o ho
 rw [h1] at h3; rw [h2] at h4
 cases h3; cases h4
 exact h5.turned t (kmark (h.cob i o ho) (h.clb i o ho) (by simp))
theorem KIn.ledger (h : KIn W w a k C) {i : Nat} {o : KO} (ho : k.os[i]? = some o) {u' m' : Nat → Int} (hL : LedgerIs w' o.lb u' m') (t : Turn (fun j => j = o.lb) w w') : KIs W w' a { k with os := k.os.set i { o with u := u', m := m' } } := ⟨C, h.ledgerC ho hL t⟩
theorem KIn.marked (h : KIn W w a k C) (t : Turn (fun _ => False) w w') (P : Nat → Prop) (hP : ∀ j, P j → w.heap.size ≤ j ∧ j < w'.heap.size) : KIn W w' a k (markF C P (7, 0)) := by
 have g := h.still t
 have hF : ∀ j, P j → C j = (7, 0) ∨ w.heap.size ≤ j := fun j hj => .inr (hP j hj).1
 have hlo : ∀ j, C j ≠ (0, 0) → j < w.heap.size := fun j hj => (h.low j hj).2
 have keep : ∀ {j : Nat} {y : Nat × Nat}, C j = y → y ≠ (0, 0) → markF C P (7, 0) j = y := fun {j y} h1 h2 => by
  rw [markF_out (fun hp => ?_)]
  ·exact h1
  ·have := hlo j (by rw [h1]; exact h2)
   have := (hP j hp).1
   omega
 refine ⟨g.c0, g.c1, g.c2, g.c3, g.c4, g.own, g.mp, g.has, g.vm, g.pr, ?_, keep h.ckb (by decide), keep h.com (by decide), fun i o ho => keep (h.cob i o ho) (by simp), fun i o ho => keep (h.clb i o ho) (by simp), fun j hj => keep (h.cvm j hj) (by decide), fun j hj => keep (h.cpr j hj) (by decide), fun j hj => ?_, g.turn⟩
 ·refine h.desc.rebase (t.mono (fun j _ hj => hj.elim)) (fun j hj => ?_) (fun j hj => ?_)
  ·rcases hj with hj | hj
   ·exact .inl (.inl hj)
   ·exact (markF_old hF (by decide) hj).imp .inr id
  ·rcases hj with hj | hj
   ·exact Nat.lt_of_lt_of_le hj g.turn.size
   ·by_cases hg : P j
    ·exact (hP j hg).2
    ·rw [markF_out hg] at hj; exact Nat.lt_of_lt_of_le (hlo j hj) t.size
 ·by_cases hg : P j
  ·exact ⟨Nat.le_trans h.turn.size (hP j hg).1, (hP j hg).2⟩
  ·rw [markF_out hg] at hj
   exact ⟨(h.low j hj).1, Nat.lt_of_lt_of_le (hlo j hj) t.size⟩
theorem KIn.ownsC (h : KIn W w a k C) {ow' : List (Int × Nat)} (hm : MapIs w' a.om (.int .i64) encI ptr (keysK k.os ow')) (hh : ∀ t ∈ ow', ∃ o, k.os[t.2]? = some o) (t : Turn (fun j => j = a.om) w w') : KIn W w' a { k with ow := ow' } C := by
 obtain ⟨o1, o2, o3, o4, o5, o6⟩ := h.others (z := (2, 0)) (t.mono (fun j _ e => by subst e; exact h.com)) (by decide)
 obtain ⟨k0, k1, k2, k3, k4⟩ := o1 (by decide)
 refine ⟨k0, k1, k2, k3, k4, fun i o ho => ?_, hm, hh, o4 (by decide), o5 (by decide), ?_, h.ckb, h.com, h.cob, h.clb, h.cvm, h.cpr, fun j hj => ⟨(h.low j hj).1, Nat.lt_of_lt_of_le (h.low j hj).2 t.size⟩, o6⟩
 ·obtain ⟨x, y, h1, h2, h3, h4⟩ := o3 i o ho
  exact ⟨x, y, h1, h2, h3 (by simp), h4 (by simp)⟩
 ·exact h.desc.rebase (t.mono (fun j _ hj => .inr (by rw [hj, h.com]; decide))) (fun j hj => .inl hj) (fun j hj => Nat.lt_of_lt_of_le (h.desc.low j hj) t.size)
theorem KIn.owns (h : KIn W w a k C) {ow' : List (Int × Nat)} (hm : MapIs w' a.om (.int .i64) encI ptr (keysK k.os ow')) (hh : ∀ t ∈ ow', ∃ o, k.os[t.2]? = some o) (t : Turn (fun j => j = a.om) w w') : KIs W w' a { k with ow := ow' } := ⟨C, h.ownsC hm hh t⟩
theorem own7_desc {S' : PS} {ts' : List (Nat × PTab)} {fb tb : Nat} (hd : DLawB ⟨w, fun j => j < W.heap.size ∨ C j ≠ (0, 0)⟩ w' fb tb S' ts') : Own7 C C w w' :=
 ⟨fun _ h => h, hd.turn.mono (fun j _ hn e => hn (.inr (by rw [e]; decide)))⟩
theorem own7_at {b : Nat} {z : Nat × Nat} (hb : C b = z) (hz : z ≠ (7, 0)) (t : Turn (fun j => j = b) w w') : Own7 C C w w' :=
 ⟨fun _ h => h, t.mono (fun j _ e h => hz (by rw [← hb, ← e]; exact h))⟩
theorem keysK_more {os : List KO} {ow : List (Int × Nat)} (h : ∀ t ∈ ow, ∃ o, os[t.2]? = some o) (p : KO) : keysK (os ++ [p]) ow = keysK os ow := by
 unfold keysK
 refine List.map_congr_left fun t ht => ?_
 obtain ⟨o, ho⟩ := h t ht
 have : obOf (os ++ [p]) t.2 = obOf os t.2 := by
  unfold obOf
  rw [List.getElem?_append_left (List.getElem?_eq_some_iff.1 ho).1]
 rw [this]
theorem KIn.more (h : KIn W w a k C) {x : Spc} {y : Nat × PTab} {p : KO} (hx : k.l[k.os.length]? = some x) (hy : k.ts[k.os.length]? = some y) (t : Turn (fun _ => False) w w') (h1 : w.heap.size ≤ p.ob ∧ p.ob < w'.heap.size) (h2 : w.heap.size ≤ p.lb ∧ p.lb < w'.heap.size) (hne : p.ob ≠ p.lb)
  (hO : OwnAt w' p.ob x.sp y.1 p.lb p.adj) (hL : LedgerIs w' p.lb p.u p.m) : KIs W w' a { k with os := k.os ++ [p] } := by
 have g := h.still t
 have hlo : ∀ j, C j ≠ (0, 0) → j < w.heap.size := fun j hj => (h.low j hj).2
 let C' : Nat → Nat × Nat := fun j => if j = p.ob then (3, k.os.length) else if j = p.lb then (4, k.os.length) else C j
 have keep : ∀ {j : Nat} {z : Nat × Nat}, C j = z → z ≠ (0, 0) → C' j = z := fun {j z} e hz => by
  have hj := hlo j (by rw [e]; exact hz)
  show (if j = p.ob then _ else if j = p.lb then _ else C j) = z
  rw [if_neg (by omega), if_neg (by omega)]; exact e
 have old : ∀ j, C' j ≠ (0, 0) → C j ≠ (0, 0) ∨ (w.heap.size ≤ j ∧ j < w'.heap.size) := fun j hj => by
  by_cases e1 : j = p.ob
  ·exact .inr (by rw [e1]; exact h1)
  ·by_cases e2 : j = p.lb
   ·exact .inr (by rw [e2]; exact h2)
   ·have hj : (if j = p.ob then (3, k.os.length) else if j = p.lb then (4, k.os.length) else C j) ≠ (0, 0) := hj
    rw [if_neg e1, if_neg e2] at hj; exact .inl hj
 have get : ∀ (i : Nat) o, (k.os ++ [p])[i]? = some o → k.os[i]? = some o ∨ (i = k.os.length ∧ o = p) := fun i o ho => by
  by_cases e : i < k.os.length
  ·rw [List.getElem?_append_left e] at ho; exact .inl ho
  ·rw [List.getElem?_append_right (by omega)] at ho
   have e2 := (List.getElem?_eq_some_iff.1 ho).1
   simp at e2
   have e3 : i = k.os.length := by omega
   subst e3
   simp at ho
   exact .inr ⟨rfl, ho.symm⟩
 refine ⟨C', g.c0, g.c1, g.c2, g.c3, g.c4, fun i o ho => ?_, by rw [show keysK (k.os ++ [p]) k.ow = keysK k.os k.ow from keysK_more h.has p]; exact g.mp, fun t ht => ?_, g.vm, g.pr, ?_, keep h.ckb (by decide), keep h.com (by decide), fun i o ho => ?_, fun i o ho => ?_, fun j hj => keep (h.cvm j hj) (by decide), fun j hj => keep (h.cpr j hj) (by decide), fun j hj => ?_, g.turn⟩
 ·rcases get i o ho with ho | ⟨rfl, rfl⟩
  ·exact g.own i o ho
  ·exact ⟨x, y, hx, hy, hO, hL⟩
 ·obtain ⟨o, ho⟩ := h.has t ht
  exact ⟨o, by show (k.os ++ [p])[t.2]? = _; rw [List.getElem?_append_left (List.getElem?_eq_some_iff.1 ho).1]; exact ho⟩
 ·refine h.desc.rebase (t.mono (fun _ _ h => h.elim)) (fun j hj => ?_) (fun j hj => ?_)
  ·rcases hj with hj | hj
   ·exact .inl (.inl hj)
   ·exact (old j hj).imp .inr (fun e => e.1)
  ·rcases hj with hj | hj
   ·exact Nat.lt_of_lt_of_le hj g.turn.size
   ·rcases old j hj with e | e
    ·exact Nat.lt_of_lt_of_le (hlo j e) t.size
    ·exact e.2
 ·rcases get i o ho with ho | ⟨rfl, rfl⟩
  ·exact keep (h.cob i o ho) (by simp)
  ·show (if o.ob = o.ob then _ else _) = _; rw [if_pos rfl]
 ·rcases get i o ho with ho | ⟨rfl, rfl⟩
  ·exact keep (h.clb i o ho) (by simp)
  ·show (if o.lb = o.ob then _ else if o.lb = o.lb then _ else _) = _; rw [if_neg (fun e => hne e.symm), if_pos rfl]
 ·rcases old j hj with e | e
  ·exact ⟨(h.low j e).1, Nat.lt_of_lt_of_le (hlo j e) t.size⟩
  ·exact ⟨Nat.le_trans h.turn.size e.1, e.2⟩
theorem KIn.grow7 (h : KIn W w a k C) (t : Turn (fun j => C j = (7, 0)) w w') (P : Nat → Prop) (hP : ∀ j, P j → w.heap.size ≤ j ∧ j < w'.heap.size) : KIn W w' a k (markF C P (7, 0)) := by
 obtain ⟨o1, o2, o3, o4, o5, o6⟩ := h.others t (by decide)
 obtain ⟨k0, k1, k2, k3, k4⟩ := o1 (by decide)
 have hF : ∀ j, P j → C j = (7, 0) ∨ w.heap.size ≤ j := fun j hj => .inr (hP j hj).1
 have hlo : ∀ j, C j ≠ (0, 0) → j < w.heap.size := fun j hj => (h.low j hj).2
 have keep : ∀ {j : Nat} {y : Nat × Nat}, C j = y → y ≠ (0, 0) → markF C P (7, 0) j = y := fun {j y} h1 h2 => by
  rw [markF_out (fun hp => ?_)]
  ·exact h1
  ·have := hlo j (by rw [h1]; exact h2)
   have := (hP j hp).1
   omega
 refine ⟨k0, k1, k2, k3, k4, fun i o ho => ?_, o2 (by decide), h.has, o4 (by decide), o5 (by decide), ?_, keep h.ckb (by decide), keep h.com (by decide), fun i o ho => keep (h.cob i o ho) (by simp), fun i o ho => keep (h.clb i o ho) (by simp), fun j hj => keep (h.cvm j hj) (by decide), fun j hj => keep (h.cpr j hj) (by decide), fun j hj => ?_, o6⟩
 ·obtain ⟨x, y, h1, h2, h3, h4⟩ := o3 i o ho
  exact ⟨x, y, h1, h2, h3 (by simp), h4 (by simp)⟩
 ·refine h.desc.rebase (t.mono (fun j _ hj => .inr (by rw [hj]; decide))) (fun j hj => ?_) (fun j hj => ?_)
  ·rcases hj with hj | hj
   ·exact .inl (.inl hj)
   ·exact (markF_old hF (by decide) hj).imp .inr id
  ·rcases hj with hj | hj
   ·exact Nat.lt_of_lt_of_le hj o6.size
   ·by_cases hg : P j
    ·exact (hP j hg).2
    ·rw [markF_out hg] at hj; exact Nat.lt_of_lt_of_le (hlo j hj) t.size
 ·by_cases hg : P j
  ·exact ⟨Nat.le_trans h.turn.size (hP j hg).1, (hP j hg).2⟩
  ·rw [markF_out hg] at hj
   exact ⟨(h.low j hj).1, Nat.lt_of_lt_of_le (hlo j hj) t.size⟩
theorem KIn.more7 (h : KIn W w a k C) {x : Spc} {y : Nat × PTab} {p : KO} (hx : k.l[k.os.length]? = some x) (hy : k.ts[k.os.length]? = some y) (t : Turn (fun _ => False) w w') (h1 : w.heap.size ≤ p.ob ∧ p.ob < w'.heap.size) (h2 : C p.lb = (7, 0))
  (hO : OwnAt w' p.ob x.sp y.1 p.lb p.adj) (hL : LedgerIs w' p.lb p.u p.m) : ∃ C', KIn W w' a { k with os := k.os ++ [p] } C' := by
 have g := h.still t
 have hlo : ∀ j, C j ≠ (0, 0) → j < w.heap.size := fun j hj => (h.low j hj).2
 have hlb := hlo p.lb (by rw [h2]; decide)
 have hne : p.ob ≠ p.lb := by omega
 let C' : Nat → Nat × Nat := fun j => if j = p.ob then (3, k.os.length) else if j = p.lb then (4, k.os.length) else C j
 have keep : ∀ {j : Nat} {z : Nat × Nat}, C j = z → z ≠ (0, 0) → z ≠ (7, 0) → C' j = z := fun {j z} e hz hz7 => by
  have hj := hlo j (by rw [e]; exact hz)
  show (if j = p.ob then _ else if j = p.lb then _ else C j) = z
  rw [if_neg (by omega), if_neg (fun e2 => hz7 (by rw [← e, e2, h2]))]; exact e
 have old : ∀ j, C' j ≠ (0, 0) → C j ≠ (0, 0) ∨ (w.heap.size ≤ j ∧ j < w'.heap.size) := fun j hj => by
  by_cases e1 : j = p.ob
  ·exact .inr (by rw [e1]; exact h1)
  ·by_cases e2 : j = p.lb
   ·exact .inl (by rw [e2, h2]; decide)
   ·have hj : (if j = p.ob then (3, k.os.length) else if j = p.lb then (4, k.os.length) else C j) ≠ (0, 0) := hj
    rw [if_neg e1, if_neg e2] at hj; exact .inl hj
 have get : ∀ (i : Nat) o, (k.os ++ [p])[i]? = some o → k.os[i]? = some o ∨ (i = k.os.length ∧ o = p) := fun i o ho => by
  by_cases e : i < k.os.length
  ·rw [List.getElem?_append_left e] at ho; exact .inl ho
  ·rw [List.getElem?_append_right (by omega)] at ho
   have e2 := (List.getElem?_eq_some_iff.1 ho).1
   simp at e2
   have e3 : i = k.os.length := by omega
   subst e3
   simp at ho
   exact .inr ⟨rfl, ho.symm⟩
 refine ⟨C', g.c0, g.c1, g.c2, g.c3, g.c4, fun i o ho => ?_, by rw [show keysK (k.os ++ [p]) k.ow = keysK k.os k.ow from keysK_more h.has p]; exact g.mp, fun t ht => ?_, g.vm, g.pr, ?_, keep h.ckb (by decide) (by decide), keep h.com (by decide) (by decide), fun i o ho => ?_, fun i o ho => ?_, fun j hj => keep (h.cvm j hj) (by decide) (by decide), fun j hj => keep (h.cpr j hj) (by decide) (by decide), fun j hj => ?_, g.turn⟩
 ·rcases get i o ho with ho | ⟨rfl, rfl⟩
  ·exact g.own i o ho
  ·exact ⟨x, y, hx, hy, hO, hL⟩
 ·obtain ⟨o, ho⟩ := h.has t ht
  exact ⟨o, by show (k.os ++ [p])[t.2]? = _; rw [List.getElem?_append_left (List.getElem?_eq_some_iff.1 ho).1]; exact ho⟩
 ·refine h.desc.rebase (t.mono (fun _ _ h => h.elim)) (fun j hj => ?_) (fun j hj => ?_)
  ·rcases hj with hj | hj
   ·exact .inl (.inl hj)
   ·exact (old j hj).imp .inr (fun e => e.1)
  ·rcases hj with hj | hj
   ·exact Nat.lt_of_lt_of_le hj g.turn.size
   ·rcases old j hj with e | e
    ·exact Nat.lt_of_lt_of_le (hlo j e) t.size
    ·exact e.2
 ·rcases get i o ho with ho | ⟨rfl, rfl⟩
  ·exact keep (h.cob i o ho) (by simp) (by simp)
  ·show (if o.ob = o.ob then _ else _) = _; rw [if_pos rfl]
 ·rcases get i o ho with ho | ⟨rfl, rfl⟩
  ·exact keep (h.clb i o ho) (by simp) (by simp)
  ·show (if o.lb = o.ob then _ else if o.lb = o.lb then _ else _) = _; rw [if_neg (fun e => hne e.symm), if_pos rfl]
 ·rcases old j hj with e | e
  ·exact ⟨(h.low j e).1, Nat.lt_of_lt_of_le (hlo j e) t.size⟩
  ·exact ⟨Nat.le_trans h.turn.size e.1, e.2⟩
end
end Go.Proofs.YtamleilijmgoeaaGreatDoor
namespace Go.Proofs.YtamleilijmgoeaaGreatDoor
open Go.RowKit
set_option linter.unusedVariables false
def Owned (k : KS) (i : Nat) : Prop := ∃ pid, mget k.ow pid = some i
structure KOk (k : KS) : Prop where
 kin : Kin k.pl k.pf
 dok : DOk k.S
 joint : Joint k.S k.ts
 len : k.l.length = k.os.length ∧ k.ts.length = k.os.length ∧ k.os.length ≤ 100
 run : ∀ pid, RunsIn k.pl k.pf pid ↔ (mget k.ow pid).isSome = true
 nd : MNodup k.ow
 inj : ∀ p q i, mget k.ow p = some i → mget k.ow q = some i → p = q
 live : ∀ (i : Nat) o x y, k.os[i]? = some o → k.l[i]? = some x → k.ts[i]? = some y → Owned k i → o.u 0 = lenP x.P ∧ o.u 1 = usedL y.2 ∧ o.u 2 = 0
 fit : ∀ (i : Nat) o, k.os[i]? = some o → Fit o.u o.m ∧ -100 ≤ o.adj ∧ o.adj ≤ 100
 dead : ∀ (i : Nat) x y, k.l[i]? = some x → k.ts[i]? = some y → ¬ Owned k i → (x.P = fun _ => none) ∧ usedL y.2 = 0
 lt : ∀ pid i, mget k.ow pid = some i → i < k.os.length
section
variable {W w w' w1 : World} {a : KA} {k : KS} {C C' : Nat → Nat × Nat} {pid : Int} {i : Nat} {o : KO}
theorem mget_keysK (os : List KO) : ∀ (ow : List (Int × Nat)) (pid : Int), mget (keysK os ow) pid = (mget ow pid).map (obOf os)
 | [], _ => rfl
 | t :: ow, pid => by
  have ih := mget_keysK os ow pid
  unfold keysK mget at *
  rw [List.map_cons, List.find?_cons, List.find?_cons]
  by_cases e : t.1 = pid
  ·simp only [e, decide_true]; rfl
  ·simp only [e, decide_false]; exact ih
theorem zeroOwn (w : World) : (zeroValue 107).run Tryz.prog w = .ok (.pointer none) w := by kernel_rfl
theorem KIn.look (h : KIn W w a k C) (hi : mget k.ow pid = some i) (ho : k.os[i]? = some o) : (Instr.lookup 116 (.map (some a.om)) (.int .i64 pid) false).run Tryz.prog w = .ok (.pointer (some ⟨o.ob, 0, none⟩)) w := by
 have h1 := h.mp.run_lookup (P := Tryz.prog) keyI Tryz.underlying116 Tryz.underlying3 (zeroOwn w) pid false
 rw [mget_keysK, hi] at h1
 have e : obOf k.os i = o.ob := by unfold obOf; rw [ho]; rfl
 rw [Option.map_some, e] at h1
 exact h1
theorem who_yes (h : KIn W w a k C) (hok : KOk k) (hi : mget k.ow pid = some i) (ho : k.os[i]? = some o) :
  Calls Tryz.prog 52 #[.pointer (some ⟨a.kb, 0, none⟩), .int .i64 pid] w fun e w' => e = .returned (.tuple #[.pointer (some ⟨o.ob, 0, none⟩), .nilIface]) ∧ w' = w := by
 have hr : RunsIn k.pl k.pf pid := (hok.run pid).2 (by rw [hi]; rfl)
 have HR := hid (runs_yes h.pr pid hr)
 have lk := h.look hi ho
 have c3 := h.c3
 have c4 := h.c4
 clear h hok hi ho hr
 go_enter Tryz.func52, Tryz.ntmps52
 go_wp2_with fail
 refine HR.out.mono ?_
 rintro e w1 ⟨rfl, rfl⟩
 go_wp2_with fail
 go_returns
 exact ⟨rfl, rfl⟩
def kUsed (a : KA) (k : KS) : Nat := usedN k.t.R a.n
theorem kleft_is (h : KIn W w a k C) : Calls Tryz.prog 27 #[.pointer (some ⟨a.kb, 0, none⟩)] w fun e w' => e = .returned (.int .i64 ((a.n : Int) - kUsed a k)) ∧ w' = w := by
 have HL := hid (vmLeft_is h.vm.store)
 have c0 := h.c0
 clear h
 go_enter Tryz.func27, Tryz.ntmps27
 go_wp2_with fail
 refine HL.out.mono ?_
 rintro e w1 ⟨rfl, rfl⟩
 go_wp2_with fail
 go_returns
 exact ⟨rfl, rfl⟩
theorem kopen_is (h : KIn W w a k C) : Calls Tryz.prog 21 #[.pointer (some ⟨a.kb, 0, none⟩)] w fun e w' => e = .returned (.int .i64 (k.S.es.length : Int)) ∧ w' = w := by
 have HL := hid (law_open h.desc)
 have c2 := h.c2
 clear h
 go_enter Tryz.func21, Tryz.ntmps21
 go_wp2_with fail
 refine HL.out.mono ?_
 rintro e w1 ⟨rfl, hw⟩; subst w1
 go_wp2_with fail
 go_returns
 exact ⟨rfl, rfl⟩
end
end Go.Proofs.YtamleilijmgoeaaGreatDoor
namespace Go.Proofs.YtamleilijmgoeaaGreatDoor
open Go.RowKit
set_option linter.unusedVariables false
section
variable {W w w' w1 : World} {a : KA} {k : KS} {C C' : Nat → Nat × Nat} {pid : Int} {i : Nat} {o : KO} {x : Spc} {y : Nat × PTab}
structure Mine (k : KS) (pid : Int) (i : Nat) (o : KO) (x : Spc) (y : Nat × PTab) : Prop where
 own : mget k.ow pid = some i
 ko : k.os[i]? = some o
 sp : k.l[i]? = some x
 tab : k.ts[i]? = some y
theorem KIn.mine (h : KIn W w a k C) (hok : KOk k) (hi : mget k.ow pid = some i) : ∃ o x y, Mine k pid i o x y := by
 have hl := hok.lt pid i hi
 obtain ⟨o, ho⟩ : ∃ o, k.os[i]? = some o := ⟨_, List.getElem?_eq_getElem hl⟩
 obtain ⟨x, y, h1, h2, _⟩ := h.own i o ho
 exact ⟨o, x, y, hi, ho, h1, h2⟩
theorem KIn.at_ (h : KIn W w a k C) (hm : Mine k pid i o x y) : OwnAt w o.ob x.sp y.1 o.lb o.adj ∧ LedgerIs w o.lb o.u o.m := by
 obtain ⟨x', y', h1, h2, h3, h4⟩ := h.own i o hm.ko
 rw [hm.sp] at h1; rw [hm.tab] at h2
 cases h1; cases h2
 exact ⟨h3, h4⟩
def Charged1 (lb : Nat) (u m : Nat → Int) (kind n : Int) (w : World) (e : Ending) (w' : World) : Prop :=
 (why u m (kind, n) = 0 ∧ e = .returned .nilIface ∧ LedgerIs w' lb (done u (kind, n)) m ∧ Fit (done u (kind, n)) m ∧ Turn (fun j => j = lb) w w') ∨
 (why u m (kind, n) ≠ 0 ∧ ∃ b, e = .returned (.iface 246 (.pointer (some ⟨b, 0, none⟩))) ∧ w'.cell? ⟨b, 0, none⟩ = some (.int .i64 (why u m (kind, n))) ∧ Turn (fun _ => False) w w' ∧ w.heap.size ≤ b)
theorem charge_one {lb : Nat} {u m : Nat → Int} (h : LedgerIs w lb u m) (hf : Fit u m) (kind n : Int) :
  Calls Tryz.prog 60 #[.pointer (some ⟨lb, 0, none⟩), .slice (some ⟨w.heap.size, 0, none⟩) 1 1] (w.alloc (.cells #[.int .i64 kind, .int .i64 n] 129)) (Charged1 lb u m kind n w) := by
 have ta : Turn (fun _ => False) w (w.alloc (.cells #[.int .i64 kind, .int .i64 n] 129)) := (Turn.refl _ _).alloc _
 refine (charge_any (h.turned ta id) hf (some ⟨w.heap.size, 0, none⟩) [(kind, n)] 1 (by simp) (fun _ => ⟨w.heap.size, 0, rfl, fun j z hz => ?_, by simp⟩)).mono ?_
 ·cases j with
  | zero => simp at hz; subst hz; simp
  | succ j => simp at hz
 ·rintro e w' (⟨v, hc, hfit, rfl, hl, t⟩ | ⟨er, i, b, hc, hne, rfl, h0, h1, hb, t⟩)
  ·unfold chg at hc
   by_cases e : why u m (kind, n) = 0
   ·rw [if_pos e] at hc
    unfold chg at hc
    cases hc
    exact .inl ⟨e, rfl, hl, hfit, (ta.mono (fun _ _ h => h.elim)).trans t⟩
   ·rw [if_neg e] at hc; cases hc
  ·unfold chg at hc
   by_cases e : why u m (kind, n) = 0
   ·rw [if_pos e] at hc
    unfold chg at hc
    cases hc
   ·rw [if_neg e] at hc
    cases hc
    exact .inr ⟨e, b, rfl, h0, ta.trans t, Nat.le_trans ta.size hb⟩
theorem kbare_at (z : Int) (b : Nat) (w : World) (hg : Laid w) (hat : w.cell? ⟨b, 0, none⟩ = some (.int .i64 z)) :
  Calls Tryz.prog 130 #[.iface 246 (.pointer (some ⟨b, 0, none⟩))] w fun e w' => e = .returned (.iface 36 (.int .i64 z)) ∧ Turn (fun _ => False) w w' := by
 have HT := hid (tell_at z b w hg hat)
 clear hg hat
 go_enter Tryz.func130, Tryz.ntmps130
 go_wp2_with fail
 refine HT.out.mono ?_
 rintro e w1 ⟨rfl, t⟩
 have HT1 := hid t
 clear t
 go_wp2_with fail
 go_returns
 exact ⟨rfl, HT1.out⟩
end
end Go.Proofs.YtamleilijmgoeaaGreatDoor
namespace Go.Proofs.YtamleilijmgoeaaGreatDoor
open Go.RowKit
set_option linter.unusedVariables false
section
variable {W w w' w1 : World} {a : KA} {k : KS} {C C' : Nat → Nat × Nat} {pid : Int} {i : Nat} {o : KO} {x : Spc} {y : Nat × PTab} {P P' : Int → Option Pg} {t' : St} {u' : Nat → Int}
/-! ### how many pages -/
theorem lenP_set (P : Int → Option Pg) (i : Int) (q : Option Pg) (h0 : 0 ≤ i) (h : i < 64) : lenP (setP P i q) + (if (P i).isSome then 1 else 0) = lenP P + (if q.isSome then 1 else 0) := by
 obtain ⟨j, rfl⟩ : ∃ j : Nat, i = j := ⟨i.toNat, by omega⟩
 have h1 := sumN_upd (fun i : Nat => if (P (i : Int)).isSome then 1 else 0) j (if q.isSome then 1 else 0) 64 (by omega)
 have h2 : (fun i : Nat => if (setP P (j : Int) q (i : Int)).isSome then 1 else 0) = fun i : Nat => if i = j then (if q.isSome then 1 else 0) else if (P (i : Int)).isSome then 1 else 0 := by
  funext i
  unfold setP
  by_cases e : i = j
  ·subst e; rw [if_pos rfl, if_pos rfl]
  ·rw [if_neg e]
   have e2 : (if ((i : Nat) : Int) = (j : Int) then q else P (i : Int)) = P (i : Int) := if_neg (by omega)
   simp only [e2]
 unfold lenP
 rw [h2]
 exact h1
theorem thereN_zero {P : Int → Option Pg} {a : Int} {n : Nat} (h : thereN P a n = 0) (j : Nat) (hj : j < n) : P (a + j) = none := by
 unfold thereN at h
 induction n with
 | zero => omega
 | succ n ih =>
  rw [cntB_succ] at h
  by_cases e : j = n
  ·subst e
   cases hp : P (a + j) with
   | none => rfl
   | some q => rw [hp] at h; simp at h
  ·exact ih (by omega) (by omega)
theorem lenP_map {a n prot : Int} (h : mapE P a n prot = 0) : (lenP (mapP P a n prot) : Int) = lenP P + n ∧ 1 ≤ n ∧ n ≤ 64 ∧ ∀ i, a ≤ i → i < a + n → P i = none := by
 unfold mapE at h
 by_cases h1 : RightP a n
 ·rw [if_neg (fun e => e h1)] at h
  split at h
  ·cases h
  ·split at h
   ·cases h
   ·rename_i _ h3
    obtain ⟨r1, r2, r3, r4⟩ := h1
    obtain ⟨N, rfl⟩ : ∃ N : Nat, n = N := ⟨n.toNat, by omega⟩
    have h0 : thereN P a N = 0 := by simpa using h3
    have hno := thereN_zero h0
    have key : ∀ j : Nat, j ≤ N → lenP (mapP P a j prot) = lenP P + j := by
     intro j
     induction j with
     | zero => intro _; rw [show ((0 : Nat) : Int) = 0 from rfl, mapP_start]; rfl
     | succ j ih =>
      intro hj
      have e : mapP P a ((j + 1 : Nat) : Int) prot = setP (mapP P a j prot) (a + j) (some (prot, -1)) := mapP_more P a prot j
      have hz : mapP P a j prot (a + j) = none := by
       unfold mapP
       rw [if_neg (by omega)]
       exact hno j (by omega)
      have h5 := lenP_set (mapP P a j prot) (a + j) (some (prot, -1)) (by omega) (by omega)
      rw [hz] at h5
      rw [e]
      have h6 := ih (by omega)
      simp at h5
      omega
    refine ⟨by rw [key N (Nat.le_refl _)]; omega, r2, r3, fun i h4 h5 => ?_⟩
    have := hno (i - a).toNat (by omega)
    rwa [show a + ((i - a).toNat : Int) = i by omega] at this
 ·rw [if_pos h1] at h; cases h
theorem lenP_none : lenP (fun _ => none) = 0 := sumN_zero fun i _ => rfl
theorem unmap_map {a n prot : Int} (h : ∀ i, a ≤ i → i < a + n → P i = none) : unmapP (mapP P a n prot) a n = P := by
 funext i
 unfold unmapP mapP
 by_cases e : a ≤ i ∧ i < a + n
 ·rw [if_pos e, h i e.1 e.2]
 ·rw [if_neg e, if_neg e]
/-! ### one process's pages turn -/
def stepK (k : KS) (i : Nat) (o : KO) (x : Spc) (P' : Int → Option Pg) (t' : St) (u' : Nat → Int) : KS := { k with t := t', l := k.l.set i ⟨x.sp, x.pm, P'⟩, os := k.os.set i { o with u := u' } }
theorem list_set_same {α : Type} {l : List α} {i : Nat} {z : α} (h : l[i]? = some z) : l.set i z = l := by
 apply List.ext_getElem?
 intro j
 rw [List.getElem?_set]
 by_cases e : i = j
 ·subst e
  rw [if_pos rfl, if_pos (List.getElem?_eq_some_iff.1 h).1, h]
 ·rw [if_neg e]
theorem get_set_cases {α : Type} {l : List α} {i j : Nat} {z v : α} (h : (l.set i z)[j]? = some v) : (j = i ∧ v = z ∧ ∃ v0, l[i]? = some v0) ∨ (j ≠ i ∧ l[j]? = some v) := by
 rw [List.getElem?_set] at h
 by_cases e : i = j
 ·subst e
  rw [if_pos rfl] at h
  by_cases hl : i < l.length
  ·rw [if_pos hl] at h
   cases h
   exact .inl ⟨rfl, rfl, ⟨_, List.getElem?_eq_getElem hl⟩⟩
  ·rw [if_neg hl] at h; cases h
 ·rw [if_neg e] at h
  exact .inr ⟨fun e2 => e e2.symm, h⟩
theorem KIn.vmAtC (h : KIn W w a k C) (hx : k.l[i]? = some x) (hA : VmAfter a.s a.n k.t x.sp x.pm (fun f => sumC (k.l.eraseIdx i) f) w w' P' t') : ∃ C', KIn W w' a { k with t := t', l := k.l.set i ⟨x.sp, x.pm, P'⟩ } C' ∧ Own7 C C' w w' :=
 ⟨_, h.vmStepC (h.vm.after hx hA) (fun j z hz => by
  by_cases e : i = j
  ·subst e
   rw [hx] at hz; cases hz
   exact ⟨⟨x.sp, x.pm, P'⟩, by rw [List.getElem?_set, if_pos rfl, if_pos (List.getElem?_eq_some_iff.1 hx).1], rfl⟩
  ·exact ⟨z, by rw [List.getElem?_set, if_neg e]; exact hz, rfl⟩)⟩
theorem KIn.vmAt (h : KIn W w a k C) (hx : k.l[i]? = some x) (hA : VmAfter a.s a.n k.t x.sp x.pm (fun f => sumC (k.l.eraseIdx i) f) w w' P' t') : KIs W w' a { k with t := t', l := k.l.set i ⟨x.sp, x.pm, P'⟩ } := by
 obtain ⟨C', h', _⟩ := h.vmAtC hx hA
 exact ⟨C', h'⟩
theorem KOk.step (h : KOk k) (hm : Mine k pid i o x y) (hu : u' 0 = lenP P' ∧ u' 1 = o.u 1 ∧ u' 2 = o.u 2) (hf : Fit u' o.m) : KOk (stepK k i o x P' t' u') := by
 refine ⟨h.kin, h.dok, h.joint, ⟨by unfold stepK; simp only [List.length_set]; exact h.len.1, by unfold stepK; simp only [List.length_set]; exact h.len.2.1, by unfold stepK; simp only [List.length_set]; exact h.len.2.2⟩, h.run, h.nd, h.inj, fun j p v z hp hv hz hown => ?_, fun j p hp => ?_, fun j v z hv hz hno => ?_, fun q j hq => by unfold stepK; simp only [List.length_set]; exact h.lt q j hq⟩
 ·rcases get_set_cases hp with ⟨rfl, rfl, _⟩ | ⟨hne, hp⟩
  ·rcases get_set_cases hv with ⟨_, rfl, _⟩ | ⟨hne, _⟩
   ·have hz' : z = y := by have := hm.tab; rw [show k.ts[j]? = some z from hz] at this; cases this; rfl
    subst hz'
    have hl := h.live j o x z hm.ko hm.sp hz hown
    exact ⟨hu.1, hu.2.1.trans hl.2.1, hu.2.2.trans hl.2.2⟩
   ·exact absurd rfl hne
  ·rcases get_set_cases hv with ⟨e, _⟩ | ⟨_, hv⟩
   ·exact absurd e hne
   ·exact h.live j p v z hp hv hz hown
 ·rcases get_set_cases hp with ⟨rfl, rfl, _⟩ | ⟨hne, hp⟩
  ·exact ⟨hf, (h.fit j o hm.ko).2⟩
  ·exact h.fit j p hp
 ·rcases get_set_cases hv with ⟨rfl, rfl, _⟩ | ⟨hne, hv⟩
  ·exact absurd ⟨pid, hm.own⟩ hno
  ·exact h.dead j v z hv hz hno
theorem KOk.tst (h : KOk k) (t' : St) : KOk { k with t := t' } := ⟨h.kin, h.dok, h.joint, h.len, h.run, h.nd, h.inj, h.live, h.fit, h.dead, h.lt⟩
def KTo (W : World) (a : KA) (k : KS) (z : Int) (R : KS → Prop) (w' : World) : Prop :=
 ∃ k', KIs W w' a k' ∧ KOk k' ∧ (z = 0 → R k') ∧ (z ≠ 0 → ∃ t', t'.m = k.t.m ∧ k' = { k with t := t' })
theorem KTo.no {z : Int} {R : KS → Prop} (h : KIs W w' a k) (hok : KOk k) (hz : z ≠ 0) : KTo W a k z R w' := ⟨k, h, hok, fun e => absurd e hz, fun _ => ⟨k.t, rfl, rfl⟩⟩
theorem KIn.frames (h : KIn W w a k C) (hx : k.l[i]? = some x) : ∀ j q, x.P j = some q → 0 ≤ q.2 → 0 < k.t.R q.2 := fun j q hq h0 => by
 have h1 := h.vm.refs q.2 h0
 have h2 := sumC_pos hx q.2
 have h3 := cntF_ge (P := x.P) (i := j) (f := q.2) ((h.vm.sps i x hx).dom j q hq).1 ((h.vm.sps i x hx).dom j q hq).2
 rw [hq, hasF_some, if_pos rfl] at h3
 omega
set_option maxRecDepth 100000 in
theorem kload_yes (h : KIn W w a k C) (hok : KOk k) (hm : Mine k pid i o x y) (p q : Int) :
  Calls Tryz.prog 31 #[.pointer (some ⟨a.kb, 0, none⟩), .int .i64 pid, .int .i64 p, .int .i64 q] w (LoadIs x.P k.t.m p q w) := by
 have HW := hid (who_yes h hok hm.own hm.ko)
 obtain ⟨hO, hL⟩ := h.at_ hm
 have HLd := hid (vmLoad_is h.vm.store (h.vm.sps i x hm.sp) (h.frames hm.sp) p q)
 have c0 := hO.c0
 clear h hok hm hO hL
 unfold LoadIs at HLd ⊢
 go_enter Tryz.func31, Tryz.ntmps31
 go_wp2_with fail
 refine HW.out.mono ?_
 rintro e w1 ⟨rfl, hw⟩; subst w1
 go_wp2_with fail
 refine HLd.out.mono ?_
 rintro e w2 ⟨rfl, t⟩
 have HT := hid t
 clear t
 go_wp2_with fail
 go_returns
 exact ⟨rfl, HT.out⟩
end
end Go.Proofs.YtamleilijmgoeaaGreatDoor
namespace Go.Proofs.YtamleilijmgoeaaGreatDoor
open Go.RowKit
set_option linter.unusedVariables false
section
variable {W w w' w1 : World} {a : KA} {k : KS} {C C' : Nat → Nat × Nat} {pid : Int}
end
end Go.Proofs.YtamleilijmgoeaaGreatDoor
namespace Go.Proofs.YtamleilijmgoeaaGreatDoor
open Go.RowKit
set_option linter.unusedVariables false
section
variable {W w w' w1 : World} {a : KA} {k : KS} {C C' : Nat → Nat × Nat} {pid : Int} {i : Nat} {o : KO} {x : Spc} {y : Nat × PTab} {P P' : Int → Option Pg} {t' : St} {u' : Nat → Int}
theorem why_more {u m : Nat → Int} (hf : Fit u m) (kind : Nat) (hk : kind < 3) (n : Int) (h0 : 0 ≤ n) (h1 : n ≤ 1000000) : why u m ((kind : Int), n) = if 0 < n ∧ m kind < u kind + n then 4 else 0 := by
 have h2 := hf kind hk
 unfold why
 simp only [Int.toNat_natCast]
 rw [if_neg (by omega), if_neg (by omega)]
 by_cases e : 0 < n ∧ m kind < u kind + n
 ·rw [if_pos e, if_pos e]
 ·rw [if_neg e, if_neg e, if_neg (by omega)]
theorem why_less {u m : Nat → Int} (hf : Fit u m) (kind : Nat) (hk : kind < 3) (n : Int) (h0 : 0 ≤ n) (h1 : n ≤ u kind) : why u m ((kind : Int), -n) = 0 := by
 have h2 := hf kind hk
 unfold why
 simp only [Int.toNat_natCast]
 rw [if_neg (by omega), if_neg (by omega), if_neg (by omega), if_neg (by omega)]
def kmapE (o : KO) (x : Spc) (p n r : Int) : Int := if mapE x.P p n r ≠ 0 then mapE x.P p n r else if o.m 0 < o.u 0 + n then 4 else 0
def MapTo (W : World) (a : KA) (k : KS) (i : Nat) (o : KO) (x : Spc) (p n r : Int) (e : Ending) (w' : World) : Prop :=
 e = .returned (VmErr (kmapE o x p n r)) ∧ KTo W a k (kmapE o x p n r) (fun k' => k' = stepK k i o x (mapP x.P p n r) k.t (upd o.u 0 (o.u 0 + n))) w'
theorem unmapE_mapped {P : Int → Option Pg} {a n r : Int} (h : mapE P a n r = 0) : unmapE (mapP P a n r) a n = 0 := by
 have hr : RightP a n := by
  by_cases e : RightP a n
  ·exact e
  ·unfold mapE at h; rw [if_pos e] at h; cases h
 obtain ⟨r1, r2, r3, r4⟩ := hr
 unfold unmapE
 rw [if_neg (fun e => e ⟨r1, r2, r3, r4⟩), if_neg]
 obtain ⟨N, rfl⟩ : ∃ N : Nat, n = N := ⟨n.toNat, by omega⟩
 have key : ∀ m : Nat, m ≤ N → thereN (mapP P a N r) a m = m := by
  intro m
  unfold thereN
  induction m with
  | zero => intro _; rfl
  | succ m ih =>
   intro hm
   rw [cntB_succ, ih (by omega)]
   have : mapP P a (N : Int) r (a + (m : Int)) = some (r, -1) := if_pos (by omega)
   rw [this]; rfl
 have := key N (Nat.le_refl _)
 simp only [Int.toNat_natCast]
 omega
theorem done1 (u : Nat → Int) (n : Int) : done u ((0 : Int), n) = upd u 0 (u 0 + n) := rfl
theorem set_at {α : Type} {l : List α} {i : Nat} {x z : α} (h : l[i]? = some x) : (l.set i z)[i]? = some z := by
 rw [List.getElem?_set, if_pos rfl, if_pos (List.getElem?_eq_some_iff.1 h).1]
set_option maxHeartbeats 2000000 in
set_option maxRecDepth 100000 in
theorem kmap_yes (h : KIn W w a k C) (hok : KOk k) (hm : Mine k pid i o x y) (hLd : Laid W) (p n r : Int) :
  Calls Tryz.prog 45 #[.pointer (some ⟨a.kb, 0, none⟩), .int .i64 pid, .int .i64 p, .int .i64 n, .int .i64 r] w (fun e w' => MapTo W a k i o x p n r e w') := by
 have HW := hid (who_yes h hok hm.own hm.ko)
 obtain ⟨hO, hL⟩ := h.at_ hm
 have HP := hid (vmMap_any (h.vm.at hm.sp).space p n r)
 have c0 := hO.c0
 have H := hid h
 have HOk := hid hok
 have HM := hid hm
 have HLd := hid hLd
 have hlive := (hok.live i o x y hm.ko hm.sp hm.tab ⟨pid, hm.own⟩).1
 have HLv := hid hlive
 by_cases hz : mapE x.P p n r = 0
 ·have HPn := hid (lenP_map hz)
  have HZ := hid hz
  rw [hz] at HP
  rw [show VmErr 0 = .nilIface from rfl] at HP
  have hbd := HPn.out
  have hfit := (hok.fit i o hm.ko).1
  have hwy : why o.u o.m ((0 : Int), n) = if 0 < n ∧ o.m 0 < o.u 0 + n then 4 else 0 := why_more hfit 0 (by omega) n (by omega) (by omega)
  clear h hok hm hO hL hlive hz hLd
  by_cases hlim : o.m 0 < o.u 0 + n
  ·have hE : kmapE o x p n r = 4 := by unfold kmapE; rw [if_neg (fun e => e HZ.out), if_pos hlim]
   rw [if_pos ⟨by omega, hlim⟩] at hwy
   have HWy := hid hwy
   have HE := hid hE
   unfold MapTo
   rw [hE]
   clear hlim hwy hE hbd
   go_enter Tryz.func45, Tryz.ntmps45
   go_wp2_with fail
   refine HW.out.mono ?_
   rintro e w1 ⟨rfl, hw⟩; subst w1
   go_wp2_with fail
   refine HP.out.mono ?_
   rintro e w2 ⟨rfl, hS, tm⟩
   rw [if_pos trivial] at hS
   have hA := (H.out.vm.at HM.out.sp).ofSp tm hS (fun f hf => mapP_cnt HZ.out f hf)
   obtain ⟨C2, hK⟩ := H.out.vmAt HM.out.sp hA
   obtain ⟨x2, y2, hx2, _, hO2, hL2⟩ := hK.own i o HM.out.ko
   have hx3 : x2 = ⟨x.sp, x.pm, mapP x.P p n r⟩ := by
    have := set_at (z := (⟨x.sp, x.pm, mapP x.P p n r⟩ : Spc)) HM.out.sp
    rw [show (k.l.set i ⟨x.sp, x.pm, mapP x.P p n r⟩)[i]? = some x2 from hx2] at this
    exact Option.some.inj this
   have hcg := charge_one hL2 hfit 0 n
   unfold Charged1 at hcg
   have HCg := hid hcg
   have HK := hid hK
   have k2 := hO2.c2
   have HO2 := hid hO2
   have HX3 := hid hx3
   clear hA hK hcg hO2 hL2 hfit hx2 hS tm hx3
   go_wp2_with fail
   refine HCg.out.mono ?_
   rintro e w3 (⟨h0, _⟩ | ⟨_, b, rfl, hb, t3, hbf⟩)
   ·rw [HWy.out] at h0; cases h0
   ·rw [HWy.out] at hb
    have HK3 := hid (HK.out.still t3)
    have hO3 := HO2.out.turned t3 id
    have k0 := hO3.c0
    rw [HX3.out] at k0
    have hU := vmUnmap_any (HK3.out.vm.at (set_at HM.out.sp)) p n
    have HU := hid hU
    have HB := hid hb
    have HBf := hid hbf
    clear t3 hU hb hO3 k2 hbf
    simp only at k0
    go_wp2_with fail
    refine HU.out.mono ?_
    rintro e w4 hun
    obtain ⟨rfl, t4, hm4, hA4⟩ := hun
    rw [show unmapE (mapP x.P p n r) p n = 0 from unmapE_mapped HZ.out] at *
    rw [if_pos rfl] at hA4
    have hAA := HK3.out.vm.after (set_at HM.out.sp) hA4
    have hB4 : w4.cell? ⟨b, 0, none⟩ = some (.int .i64 4) := (hAA.2.1.cell (a := ⟨b, 0, none⟩) (lt_of_cell HB.out) (fun hf => by
     have := HK.out.vm.foot_lt b hf
     have := HBf.out
     omega)).trans HB.out
    have hK4 := HK3.out.vmAt (set_at HM.out.sp) hA4
    rw [unmap_map HPn.out.2.2.2] at hK4
    have e4 : (k.l.set i ⟨x.sp, x.pm, mapP x.P p n r⟩).set i ⟨x.sp, x.pm, x.P⟩ = k.l := by
     rw [List.set_set]
     exact list_set_same HM.out.sp
    simp only [e4] at hK4
    have HK4 := hid hK4
    have HM4 := hid hm4
    have HBr := hid (kbare_at 4 b w4 (HLd.out.turned0 hK4.turn) hB4)
    clear hK4 hB4 hAA hA4 hm4 e4 k0
    go_wp2_with fail
    refine HBr.out.mono ?_
    rintro e w5 ⟨rfl, t5⟩
    have HR := hid (HK4.out.still t5)
    clear t5
    go_wp2_with fail
    go_returns
    exact ⟨rfl, _, HR.out, HOk.out.tst t4, fun e => absurd e (by decide), fun _ => ⟨t4, HM4.out, rfl⟩⟩
  ·have hE : kmapE o x p n r = 0 := by unfold kmapE; rw [if_neg (fun e => e HZ.out), if_neg hlim]
   rw [if_neg (fun e => hlim e.2)] at hwy
   have HWy := hid hwy
   unfold MapTo
   rw [hE]
   clear hlim hwy hE hbd
   go_enter Tryz.func45, Tryz.ntmps45
   go_wp2_with fail
   refine HW.out.mono ?_
   rintro e w1 ⟨rfl, hw⟩; subst w1
   go_wp2_with fail
   refine HP.out.mono ?_
   rintro e w2 ⟨rfl, hS, tm⟩
   rw [if_pos trivial] at hS
   have hA := (H.out.vm.at HM.out.sp).ofSp tm hS (fun f hf => mapP_cnt HZ.out f hf)
   obtain ⟨C2, hK⟩ := H.out.vmAt HM.out.sp hA
   obtain ⟨x2, y2, hx2, _, hO2, hL2⟩ := hK.own i o HM.out.ko
   have hcg := charge_one hL2 hfit 0 n
   unfold Charged1 at hcg
   have HCg := hid hcg
   have HK := hid hK
   have k2 := hO2.c2
   clear hA hK hcg hO2 hL2 hfit hx2 hS tm
   go_wp2_with fail
   refine HCg.out.mono ?_
   rintro e w3 (⟨_, rfl, hl3, hf3, t3⟩ | ⟨hne, _⟩)
   ·have HR := hid (HK.out.ledger (o := o) (i := i) HM.out.ko hl3 t3)
    have HF3 := hid hf3
    clear hl3 t3 hf3
    go_wp2_with fail
    go_returns
    refine ⟨rfl, _, HR.out, ?_, fun _ => rfl, fun hn => absurd rfl hn⟩
    have hbd := HPn.out
    refine HOk.out.step HM.out ⟨?_, ?_, ?_⟩ HF3.out
    ·rw [done1, upd_same, HLv.out]; omega
    ·rw [done1, upd_other _ _ (by decide)]
    ·rw [done1, upd_other _ _ (by decide)]
   ·exact absurd HWy.out hne
 ·obtain ⟨z, hzz⟩ : ∃ z, mapE x.P p n r = z := ⟨_, rfl⟩
  have hE : kmapE o x p n r = z := by unfold kmapE; rw [if_pos hz, hzz]
  unfold MapTo
  rw [hE]
  rw [hzz] at HP hz
  have hve : VmErr z = .iface 36 (.int .i64 z) := vmErr_of hz
  have HZ := hid hz
  rw [hve] at HP ⊢
  clear h hok hm hO hL hlive hzz hz hve hE hLd
  go_enter Tryz.func45, Tryz.ntmps45
  go_wp2_with fail
  refine HW.out.mono ?_
  rintro e w1 ⟨rfl, hw⟩; subst w1
  go_wp2_with fail
  refine HP.out.mono ?_
  rintro e w2 ⟨rfl, hS, tm⟩
  rw [if_neg HZ.out] at hS
  have hK := H.out.vmAt HM.out.sp ((H.out.vm.at HM.out.sp).ofSp tm hS (fun f hf => rfl))
  rw [show k.l.set i ⟨x.sp, x.pm, x.P⟩ = k.l from list_set_same HM.out.sp] at hK
  have HK := hid hK
  clear hK hS tm
  go_wp2_with fail
  go_returns
  exact ⟨rfl, KTo.no HK.out HOk.out HZ.out⟩
end
end Go.Proofs.YtamleilijmgoeaaGreatDoor
namespace Go.Proofs.YtamleilijmgoeaaGreatDoor
open Go.RowKit
set_option linter.unusedVariables false
section
variable {W w w' w1 : World} {a : KA} {k : KS} {C C' : Nat → Nat × Nat} {pid : Int} {i : Nat} {o o' : KO} {x : Spc} {y : Nat × PTab}
end
end Go.Proofs.YtamleilijmgoeaaGreatDoor
namespace Go.Proofs.YtamleilijmgoeaaGreatDoor
open Go.RowKit
set_option linter.unusedVariables false
section
variable {W w w' w1 : World} {a : KA} {k : KS} {C C' : Nat → Nat × Nat} {pid : Int} {i : Nat} {o o' : KO} {x : Spc} {y : Nat × PTab} {pl : List (Int × Nat)} {pf pf' : Nat → Pr} {tb mb : Nat}
def Quiet (pl : List (Int × Nat)) (pf pf' : Nat → Pr) : Prop := ∀ t ∈ pl, (pf' t.2).state = (pf t.2).state ∧ (pf' t.2).parent = (pf t.2).parent ∧ (pf' t.2).code = (pf t.2).code
theorem Quiet.refl (pl : List (Int × Nat)) (pf : Nat → Pr) : Quiet pl pf pf := fun _ _ => ⟨rfl, rfl, rfl⟩
theorem Quiet.trans {pf2 : Nat → Pr} (h : Quiet pl pf pf') (g : Quiet pl pf' pf2) : Quiet pl pf pf2 := fun t ht => ⟨(g t ht).1.trans (h t ht).1, (g t ht).2.1.trans (h t ht).2.1, (g t ht).2.2.trans (h t ht).2.2⟩
theorem Quiet.upd (b : Nat) (p : Pr) (h1 : p.state = (pf b).state) (h2 : p.parent = (pf b).parent) (h3 : p.code = (pf b).code) : Quiet pl pf (updPr pf b p) := fun t _ => by
 unfold updPr
 by_cases e : t.2 = b
 ·rw [if_pos e, e]; exact ⟨h1, h2, h3⟩
 ·rw [if_neg e]; exact ⟨rfl, rfl, rfl⟩
theorem Quiet.st (h : Quiet pl pf pf') (q : Int) : stR pl pf' q = stR pl pf q := stR_congr (fun t ht => (h t ht).1) q
theorem KOk.quiet (h : KOk k) (hq : Quiet k.pl k.pf pf') (hk : Kin k.pl pf') : KOk { k with pf := pf' } :=
  { h with
    kin := hk
    run := fun p => by
      unfold RunsIn
      rw [hq.st p]
      exact h.run p }
def killE (pl : List (Int × Nat)) (pf : Nat → Pr) (q s : Int) : Int := if ¬ (1 ≤ s ∧ s ≤ 8) then 2 else if stR pl pf q ≠ 1 then 7 else 0
def KillF (pl : List (Int × Nat)) (pf : Nat → Pr) (q s : Int) (pf' : Nat → Pr) : Prop := ∃ b Wt Ig : Nat, mget pl q = some b ∧ (pf b).waits = (Wt : Nat) ∧ (pf b).ignores = (Ig : Nat) ∧ pf' = updPr pf b { pf b with waits := (killR Wt Ig s.toNat : Nat) }
def Killed (pl : List (Int × Nat)) (pf : Nat → Pr) (tb mb : Nat) (q s : Int) (w : World) (e : Ending) (w' : World) : Prop :=
 e = .returned (VmErr (killE pl pf q s)) ∧ ∃ pf', PrTab w' tb mb pl pf' ∧ Kin pl pf' ∧ Quiet pl pf pf' ∧ Turn (TFoot tb mb pl) w w' ∧ (killE pl pf q s = 0 → KillF pl pf q s pf') ∧ (killE pl pf q s ≠ 0 → pf' = pf)
theorem pkill_is (h : PrTab w tb mb pl pf) (hk : Kin pl pf) (q s : Int) :
  Calls Tryz.prog 63 #[.pointer (some ⟨tb, 0, none⟩), .int .i64 q, .int .i64 s] w (Killed pl pf tb mb q s w) := by
 by_cases hs : 1 ≤ s ∧ s ≤ 8
 ·by_cases hr : RunsIn pl pf q
  ·obtain ⟨b, hb⟩ := runs_block hr
   have hE : killE pl pf q s = 0 := by unfold killE; rw [if_neg (fun e => e hs), if_neg (fun e => e (show stR pl pf q = 1 from hr))]
   obtain ⟨s, rfl⟩ : ∃ n : Nat, s = n := ⟨s.toNat, by omega⟩
   have hm := mem_of_mget hb
   obtain ⟨Wt, Ig, e1, e2, w9, i9⟩ := hk.bits _ hm
   simp only at e1 e2
   refine (kill_runs h q b s Wt Ig hr hb (by omega) (by omega) e1 e2 w9 i9).mono ?_
   rintro e w' ⟨rfl, hT, t⟩
   unfold Killed
   rw [hE]
   refine ⟨rfl, _, hT, hk.upd b _ rfl rfl ⟨_, Ig, rfl, e2, ?_, i9⟩, Quiet.upd b _ rfl rfl rfl, t.mono (fun k _ e => .inr (.inr (List.mem_map.2 ⟨_, hm, e.symm⟩))), fun _ => ⟨b, Wt, Ig, hb, e1, e2, by rw [Int.toNat_natCast]⟩, fun e => absurd rfl e⟩
   unfold killR
   split
   ·exact w9
   ·exact or_lt ⟨Wt, w9⟩ ⟨s, by omega⟩
  ·refine (kill_missing h q s hr hs.1 hs.2).mono ?_
   rintro e w' ⟨rfl, rfl⟩
   have hE : killE pl pf q s = 7 := by unfold killE; rw [if_neg (fun e => e hs), if_pos (show stR pl pf q ≠ 1 from hr)]
   unfold Killed
   rw [hE]
   exact ⟨rfl, pf, h, hk, Quiet.refl _ _, Turn.refl _ _, (fun e => by cases e), fun _ => rfl⟩
 ·refine (kill_range tb q s hs).mono ?_
  rintro e w' ⟨rfl, rfl⟩
  have hE : killE pl pf q s = 2 := by unfold killE; rw [if_pos hs]
  unfold Killed
  rw [hE]
  exact ⟨rfl, pf, h, hk, Quiet.refl _ _, Turn.refl _ _, (fun e => by cases e), fun _ => rfl⟩
theorem KIn.tree (h : KIn W w a k C) : ∃ F, TreeIs w a.tb k.S.T F := by
 obtain ⟨F, ⟨om, B, P, Ft, Cm, hf, _⟩, _⟩ := h.desc.files
 exact ⟨Ft, hf.tr⟩
theorem kpids_is (h : KIn W w a k C) (hok : KOk k) : Calls Tryz.prog 25 #[.pointer (some ⟨a.kb, 0, none⟩)] w fun e w' => ∃ v, e = .returned v ∧ w'.ownsRow w.heap.size 3 1 v k.pl.length ((pidsOf k.pl).map fun n : Int => Value.int .i64 n) ∧ Turn (fun _ => False) w w' := by
 have HL := hid (pids_is h.pr hok.kin.wf (by have := hok.kin.len; omega))
 have c3 := h.c3
 clear h
 go_enter Tryz.func25, Tryz.ntmps25
 go_wp2_with fail
 refine HL.out.mono ?_
 rintro e w1 ⟨v, rfl, hr, hb⟩
 have HR := hid hr
 have HB := hid hb
 clear hr hb
 go_wp2_with fail
 go_returns
 exact ⟨v, rfl, HR.out, ⟨HB.out.os, HB.out.tape, HB.out.output, HB.out.size, fun j hj _ => HB.out.block j hj⟩⟩
end
end Go.Proofs.YtamleilijmgoeaaGreatDoor
namespace Go.Proofs.YtamleilijmgoeaaGreatDoor
open Go.RowKit
set_option linter.unusedVariables false
section
variable {W w w' w1 : World} {a : KA} {k : KS} {C C' : Nat → Nat × Nat} {pid : Int} {i j : Nat} {o o' : KO} {x : Spc} {y : Nat × PTab} {S S' : PS} {L L' L0 : PTab} {ts : List (Nat × PTab)} {tab : Nat} {t' : St}
/-! ### a table that is cleared -/
theorem closeL_self (h : TabOk S L) (hp : 0 ≤ (L i).1) (hi : i < 8) : (closeL S L (i : Int) i).1 = 0 := by
 unfold closeL
 cases he : entL S L (i : Int) with
 | none =>
  have h1 := entL_none h he
  unfold slotL at h1
  by_cases hz : (L i).1 = 0
  ·exact hz
  ·rw [if_pos ⟨by omega, by omega, by rw [Int.toNat_natCast]; exact hz⟩] at h1; cases h1
 | some z => simp only [Option.elim, Int.toNat_natCast]; rw [tset_self]
theorem clear_zero : ∀ (f i : Nat) (S : PS) (L : PTab), i + f = 8 → DOk S → Joint S (ts.set j (tab, L)) → (∃ z, ts[j]? = some z) → (∀ m, i ≤ m → m < 8 → L m = L0 m) → (∀ m, m < i → (L m).1 = 0) → ∀ m, m < 8 → ((clearFrom L0 true f i S L).2 m).1 = 0
 | 0, i, S, L, hi, _, _, _, _, h2, m, hm => h2 m (by omega)
 | f + 1, i, S, L, hi, hS, hJ, hz, h1, h2, m, hm => by
  obtain ⟨z, hz⟩ := hz
  have hget : (ts.set j (tab, L))[j]? = some (tab, L) := set_at hz
  have hpos := hJ.pos j _ hget
  by_cases hc : 0 < (L0 i).1
  ·rw [clear_go f i ⟨hc, .inl rfl⟩]
   have hJ2 := joint_close hJ hS hget (i : Int)
   rw [List.set_set] at hJ2
   refine clear_zero f (i + 1) _ _ (by omega) (hS.close L i) hJ2 ⟨z, hz⟩ (fun m' h3 h4 => ?_) (fun m' h3 => ?_) m hm
   ·rw [closeL_other S L (i : Int) (by rw [Int.toNat_natCast]; omega)]
    exact h1 m' (by omega) h4
   ·by_cases e : m' = i
    ·subst e
     exact closeL_self (hJ.there hget) (hpos m' (by omega)).1 (by omega)
    ·rw [closeL_other S L (i : Int) (by rw [Int.toNat_natCast]; exact e)]
     exact h2 m' (by omega)
  ·rw [clear_no f i (fun h => hc h.1)]
   refine clear_zero f (i + 1) S L (by omega) hS hJ ⟨z, hz⟩ (fun m' h3 h4 => h1 m' (by omega) h4) (fun m' h3 => ?_) m hm
   by_cases e : m' = i
   ·subst e
    have h5 := h1 m' (Nat.le_refl _) (by omega)
    have h6 := hpos m' (by omega)
    simp only at h6
    rw [h5] at h6 ⊢
    omega
   ·exact h2 m' (by omega)
theorem used_zero (h : ∀ m, m < 8 → (L m).1 = 0) : usedL L = 0 := by
 have key : ∀ f i, i + f ≤ 8 → usedFrom L f i = 0 := by
  intro f
  induction f with
  | zero => intro i _; rfl
  | succ f ih =>
   intro i hi
   show (if 0 < (L i).1 then 1 else 0) + usedFrom L f (i + 1) = 0
   rw [h i (by omega), if_neg (by omega), ih (i + 1) (by omega)]
 exact key 8 0 (by omega)
theorem cleared_zero (hS : DOk S) (hJ : Joint S ts) (hi : ts[i]? = some (tab, L)) : ∀ m, m < 8 → (clearL S L true m).1 = 0 := by
 unfold clearL
 exact clear_zero (j := i) (ts := ts) (tab := tab) 8 0 S L rfl hS (by rw [set_same hi]; exact hJ) ⟨_, hi⟩ (fun _ _ _ => rfl) (fun m h => absurd h (Nat.not_lt_zero _))
theorem tab_first {y' : PTab} (hi : ts[i]? = some y) : ∀ (m : Nat) z, ts[m]? = some z → ∃ z', (ts.set i (y.1, y'))[m]? = some z' ∧ z'.1 = z.1 := fun m z hz => by
 by_cases e : i = m
 ·subst e
  rw [hi] at hz; cases hz
  exact ⟨_, set_at hi, rfl⟩
 ·exact ⟨z, by rw [List.getElem?_set, if_neg e]; exact hz, rfl⟩
/-! ### Exit -/
def exitK (k : KS) (pid : Int) (i : Nat) (x : Spc) (y : Nat × PTab) (b : Nat) (c : Int) (t' : St) : KS :=
  { k with t := t', l := k.l.set i ⟨x.sp, x.pm, fun _ => none⟩, S := clearS k.S y.2 true, ts := k.ts.set i (y.1, clearL k.S y.2 true), ow := mdel k.ow pid, pf := exitF k.pf b pid c }
def exE (pid : Int) : Int := if pid = 1 then 6 else 0
def ExitTo (W : World) (a : KA) (k : KS) (pid : Int) (i : Nat) (x : Spc) (y : Nat × PTab) (c : Int) (e : Ending) (w' : World) : Prop :=
 e = .returned (VmErr (exE pid)) ∧ KTo W a k (exE pid) (fun k' => ∃ t' b, t'.m = k.t.m ∧ mget k.pl pid = some b ∧ k' = exitK k pid i x y b c t') w'
theorem mdel_get {ow : List (Int × Nat)} {p q : Int} : mget (mdel ow p) q = if q = p then none else mget ow q := mget_mdel ow p q
theorem KOk.exit (h : KOk k) (hm : Mine k pid i o x y) (h1 : pid ≠ 1) {b : Nat} (hb : mget k.pl pid = some b) (c : Int) (hd : DOk (clearS k.S y.2 true)) (hj : Joint (clearS k.S y.2 true) (k.ts.set i (y.1, clearL k.S y.2 true))) : KOk (exitK k pid i x y b c t') := by
 have hno : ∀ j, (∃ q, mget (mdel k.ow pid) q = some j) ↔ Owned k j ∧ j ≠ i := fun j => by
  constructor
  ·rintro ⟨q, hq⟩
   rw [mdel_get] at hq
   by_cases e : q = pid
   ·rw [if_pos e] at hq; cases hq
   ·rw [if_neg e] at hq
    exact ⟨⟨q, hq⟩, fun e2 => e (h.inj q pid i (by rw [← e2]; exact hq) hm.own)⟩
  ·rintro ⟨⟨q, hq⟩, hne⟩
   refine ⟨q, ?_⟩
   rw [mdel_get, if_neg (fun e => hne ?_)]
   ·exact hq
   ·subst e
    have h3 := hm.own
    rw [hq] at h3
    exact Option.some.inj h3
 refine ⟨h.kin.exit hb h1 c, hd, hj, ⟨by unfold exitK; simp only [List.length_set]; exact h.len.1, by unfold exitK; simp only [List.length_set]; exact h.len.2.1, h.len.2.2⟩, fun p => ?_, mdel_nodup h.nd _, fun p q j hp hq => ?_, fun j v z u hv hz hu hown => ?_, h.fit, fun j z u hz hu hown => ?_, fun p j hp => ?_⟩
 ·unfold RunsIn
  show stR k.pl (exitF k.pf b pid c) p = 1 ↔ (mget (mdel k.ow pid) p).isSome = true
  rw [stR_exit h.kin.inj hb, mdel_get]
  by_cases e : p = pid
  ·rw [if_pos e, if_pos e]; simp
  ·rw [if_neg e, if_neg e]; exact h.run p
 ·have hp' : mget (mdel k.ow pid) p = some j := hp
  have hq' : mget (mdel k.ow pid) q = some j := hq
  rw [mdel_get] at hp' hq'
  split at hp'
  ·cases hp'
  ·split at hq'
   ·cases hq'
   ·exact h.inj p q j hp' hq'
 ·obtain ⟨hown, hne⟩ := (hno j).1 hown
  rcases get_set_cases hz with ⟨e, _⟩ | ⟨_, hz⟩
  ·exact absurd e hne
  ·rcases get_set_cases hu with ⟨e, _⟩ | ⟨_, hu⟩
   ·exact absurd e hne
   ·exact h.live j v z u hv hz hu hown
 ·rcases get_set_cases hz with ⟨rfl, rfl, _⟩ | ⟨hne, hz⟩
  ·rcases get_set_cases hu with ⟨_, rfl, _⟩ | ⟨hne, _⟩
   ·exact ⟨rfl, used_zero (cleared_zero h.dok h.joint (by rw [hm.tab]))⟩
   ·exact absurd rfl hne
  ·rcases get_set_cases hu with ⟨e, _⟩ | ⟨_, hu⟩
   ·exact absurd e hne
   ·exact h.dead j z u hz hu (fun ho => hown ((hno j).2 ⟨ho, hne⟩))
 ·have hp' : mget (mdel k.ow pid) p = some j := hp
  rw [mdel_get] at hp'
  split at hp'
  ·cases hp'
  ·exact h.lt p j hp'
theorem keysK_del (os : List KO) (ow : List (Int × Nat)) (pid : Int) : keysK os (mdel ow pid) = mdel (keysK os ow) pid := by
 unfold keysK mdel
 rw [List.filter_map]
 rfl
theorem mem_mdel2 {ow : List (Int × Nat)} {pid : Int} {t : Int × Nat} (h : t ∈ mdel ow pid) : t ∈ ow := (List.mem_filter.1 h).1
def ExitKeep (W : World) (a : KA) (k : KS) (pid : Int) (i : Nat) (x : Spc) (y : Nat × PTab) (c : Int) (C : Nat → Nat × Nat) (w : World) (e : Ending) (w' : World) : Prop :=
 e = .returned (VmErr (exE pid)) ∧ ∃ k' C', KIn W w' a k' C' ∧ Own7 C C' w w' ∧ KOk k' ∧ (pid ≠ 1 → ∃ t' b, t'.m = k.t.m ∧ mget k.pl pid = some b ∧ k' = exitK k pid i x y b c t') ∧ (pid = 1 → k' = k)
set_option maxHeartbeats 2000000 in
set_option maxRecDepth 100000 in
theorem kexit_keep (h : KIn W w a k C) (hok : KOk k) (hm : Mine k pid i o x y) (c : Int) :
  Calls Tryz.prog 20 #[.pointer (some ⟨a.kb, 0, none⟩), .int .i64 pid, .int .i64 c] w (fun e w' => ExitKeep W a k pid i x y c C w e w') := by
 have HW := hid (who_yes h hok hm.own hm.ko)
 have hr : RunsIn k.pl k.pf pid := (hok.run pid).2 (by rw [hm.own]; rfl)
 obtain ⟨hO, hL⟩ := h.at_ hm
 have c3 := h.c3
 have H := hid h
 have HOk := hid hok
 have HM := hid hm
 by_cases h1 : pid = 1
 ·subst h1
  have HP := hid (exit_one h.pr c hr)
  unfold ExitKeep
  rw [show exE 1 = 6 from rfl]
  clear h hok hm hO hL hr
  go_enter Tryz.func20, Tryz.ntmps20
  go_wp2_with fail
  refine HW.out.mono ?_
  rintro e w1 ⟨rfl, hw⟩; subst w1
  go_wp2_with fail
  refine HP.out.mono ?_
  rintro e w2 ⟨rfl, rfl⟩
  go_wp2_with fail
  go_returns
  exact ⟨rfl, k, C, H.out, Own7.still (Turn.refl _ _), HOk.out, fun e => absurd rfl e, fun _ => rfl⟩
 ·obtain ⟨b, hb⟩ := runs_block hr
  have HP := hid (exit_runs h.pr pid c b hr hb h1)
  have HB := hid hb
  have H1 := hid h1
  unfold ExitKeep
  rw [show exE pid = 0 from if_neg h1]
  clear h hok hm hO hL hr h1 hb
  go_enter Tryz.func20, Tryz.ntmps20
  go_wp2_with fail
  refine HW.out.mono ?_
  rintro e w1 ⟨rfl, hw⟩; subst w1
  go_wp2_with fail
  refine HP.out.mono ?_
  rintro e w2 ⟨rfl, hT, t2⟩
  obtain ⟨C2, hK2, o2⟩ : ∃ C2, KIn W w2 a _ C2 ∧ Own7 C C2 w w2 := ⟨_, H.out.prStepC hT (t2.mono (fun _ _ e => .inr (.inr e))) (fun j hj => .inl hj)⟩
  have HK2 := hid hK2
  have HO2 := hid o2
  have hO2 := (hK2.at_ (pid := pid) (i := i) (o := o) (x := x) (y := y) ⟨HM.out.own, HM.out.ko, HM.out.sp, HM.out.tab⟩).1
  have c0 := hO2.c0
  have hcl := vmClear_is (hK2.vm.at HM.out.sp)
  unfold Cleared at hcl
  have HCl := hid hcl
  clear hT t2 hK2 hO2 hcl o2
  go_wp2_with fail
  refine HCl.out.mono ?_
  rintro e w3 ⟨rfl, t3, hm3, hA3⟩
  obtain ⟨C3, hK3, o3⟩ := HK2.out.vmAtC HM.out.sp hA3
  have HK3 := hid hK3
  have HO3 := hid (HO2.out.trans o3)
  have HM3 := hid hm3
  obtain ⟨x3, y3, hx3, hy3, hO3, hL3⟩ := hK3.own i o HM.out.ko
  have hy4 : y3 = y := by
   have := HM.out.tab
   rw [show k.ts[i]? = some y3 from hy3] at this
   exact Option.some.inj this
  rw [hy4] at hO3
  have td : Turn (fun _ => False) w3 w3.drew := (Turn.refl _ _).drew
  have HFc := hid (law_clear ((hK3.still td).desc) HOk.out.dok HOk.out.joint HM.out.tab)
  have q1 := (td.cell (lt_of_cell hO3.c1) id).trans hO3.c1
  have q2 := (td.cell (lt_of_cell hK3.c2) id).trans hK3.c2
  have HTd := hid td
  clear hA3 hK3 hm3 hx3 hy3 hO3 hL3 hy4 td c0 c3 o3
  go_wp2_with fail
  go_region_held3 (fun w' => w'.cell? ⟨o.ob, 1, none⟩ = some (.pointer (some ⟨y.1, 0, none⟩)) ∧ w'.cell? ⟨a.kb, 2, none⟩ = some (.pointer (some ⟨a.fb, 0, none⟩)))
   (first | exact ⟨q1, q2⟩ | exact ⟨r1, r2⟩ | go_keep)
   (first | (go_at_call 68; refine HFc.out.mono ?_; rintro e w4 ⟨rfl, hd4, hok4, hj4⟩; have hK4 := (HK3.out.still HTd.out).descStepC hd4 (tab_first HM.out.tab); have HK4 := hid hK4; have HO4 := hid ((HO3.out.trans (Own7.still HTd.out)).trans (own7_desc hd4)); have HOk4 := hid hok4; have HJ4 := hid hj4; have r4 := hK4.c4; have r2 := hK4.c2; have r1 := (hK4.at_ (pid := pid) (i := i) (o := o) ⟨HM.out.own, HM.out.ko, set_at HM.out.sp, set_at HM.out.tab⟩).1.c1; clear hd4 hok4 hj4 hK4))
  all_goals go_wp2_with (at_delete; refine wpList_mapdel rfl _ _ 116 3 107 rfl Tryz.underlying116 Tryz.underlying3 keyI a.om rfl HK4.out.mp pid rfl ?_; intro w5 hm5 t5; have HM5 := hid hm5; have HT5 := hid t5; clear hm5 t5)
  all_goals go_returns
  all_goals
   have hm5 := HM5.out
   rw [← keysK_del] at hm5
   have hK5 := HK4.out.ownsC hm5 (fun t ht => HK4.out.has t (mem_mdel2 ht)) HT5.out
   have ho5 := HO4.out.trans (own7_at HK4.out.com (by decide) HT5.out)
   exact ⟨rfl, exitK k pid i x y b c t3, C3, hK5, ho5, HOk.out.exit HM.out H1.out HB.out c HOk4.out HJ4.out, fun _ => ⟨t3, HM3.out, b, HB.out, rfl⟩, fun e => absurd e H1.out⟩
theorem kexit_yes (h : KIn W w a k C) (hok : KOk k) (hm : Mine k pid i o x y) (c : Int) :
  Calls Tryz.prog 20 #[.pointer (some ⟨a.kb, 0, none⟩), .int .i64 pid, .int .i64 c] w (fun e w' => ExitTo W a k pid i x y c e w') := by
 refine (kexit_keep h hok hm c).mono ?_
 rintro e w' ⟨he, k', C', h1, _, h2, h3, h4⟩
 refine ⟨he, k', ⟨C', h1⟩, h2, fun hz => ?_, fun hz => ?_⟩
 ·obtain ⟨t', b, e1, e2, e3⟩ := h3 (fun e => by subst e; cases hz)
  exact ⟨t', b, e1, e2, e3⟩
 ·have e1 : pid = 1 := by
   by_cases e : pid = 1
   ·exact e
   ·exact absurd (if_neg e) hz
  exact ⟨k.t, rfl, h4 e1⟩
end
end Go.Proofs.YtamleilijmgoeaaGreatDoor
namespace Go.Proofs.YtamleilijmgoeaaGreatDoor
open Go.RowKit
set_option linter.unusedVariables false
section
variable {W w w' w1 : World} {a : KA} {k : KS} {C C' : Nat → Nat × Nat} {pid : Int} {i j : Nat} {o o' : KO} {x : Spc} {y : Nat × PTab} {S S' : PS} {L L' L0 : PTab} {ts : List (Nat × PTab)} {tab : Nat} {t' : St} {u' : Nat → Int} {e : PE} {n : Int}
def fileK (k : KS) (i : Nat) (o : KO) (y : Nat × PTab) (S' : PS) (L' : PTab) (u' : Nat → Int) : KS := { k with S := S', ts := k.ts.set i (y.1, L'), os := k.os.set i { o with u := u' } }
theorem fileK_same (hm : Mine k pid i o x y) : fileK k i o y k.S y.2 o.u = k := by
 unfold fileK
 have e1 : k.ts.set i (y.1, y.2) = k.ts := list_set_same hm.tab
 have e2 : k.os.set i { o with u := o.u } = k.os := list_set_same hm.ko
 rw [e1, e2]
theorem KOk.file (h : KOk k) (hm : Mine k pid i o x y) (hd : DOk S') (hj : Joint S' (k.ts.set i (y.1, L'))) (hu : u' 0 = o.u 0 ∧ u' 1 = usedL L' ∧ u' 2 = o.u 2) (hf : Fit u' o.m) : KOk (fileK k i o y S' L' u') := by
 refine ⟨h.kin, hd, hj, ⟨by unfold fileK; simp only [List.length_set]; exact h.len.1, by unfold fileK; simp only [List.length_set]; exact h.len.2.1, by unfold fileK; simp only [List.length_set]; exact h.len.2.2⟩, h.run, h.nd, h.inj, fun j p v z hp hv hz hown => ?_, fun j p hp => ?_, fun j v z hv hz hno => ?_, fun q j hq => by unfold fileK; simp only [List.length_set]; exact h.lt q j hq⟩
 ·rcases get_set_cases hp with ⟨rfl, rfl, _⟩ | ⟨hne, hp⟩
  ·rcases get_set_cases hz with ⟨_, rfl, _⟩ | ⟨hne, _⟩
   ·have hv' : v = x := by have := hm.sp; rw [show k.l[j]? = some v from hv] at this; cases this; rfl
    subst hv'
    have hl := h.live j o v y hm.ko hm.sp hm.tab hown
    exact ⟨hu.1.trans hl.1, hu.2.1, hu.2.2.trans hl.2.2⟩
   ·exact absurd rfl hne
  ·rcases get_set_cases hz with ⟨e, _⟩ | ⟨_, hz⟩
   ·exact absurd e hne
   ·exact h.live j p v z hp hv hz hown
 ·rcases get_set_cases hp with ⟨rfl, rfl, _⟩ | ⟨hne, hp⟩
  ·exact ⟨hf, (h.fit j o hm.ko).2⟩
  ·exact h.fit j p hp
 ·rcases get_set_cases hz with ⟨rfl, rfl, _⟩ | ⟨hne, hz⟩
  ·exact absurd ⟨pid, hm.own⟩ hno
  ·exact h.dead j v z hv hz hno
theorem KIn.fileStepC (h : KIn W w a k C) (hm : Mine k pid i o x y) (hd : DLawB ⟨w, fun j => j < W.heap.size ∨ C j ≠ (0, 0)⟩ w' a.fb a.tb S' (k.ts.set i (y.1, L'))) : KIn W w' a (fileK k i o y S' L' o.u) C := by
 have h1 := h.descStepC hd (tab_first hm.tab)
 unfold fileK
 rw [show k.os.set i { o with u := o.u } = k.os from list_set_same hm.ko]
 exact h1
theorem KIn.fileStep (h : KIn W w a k C) (hm : Mine k pid i o x y) (hd : DLawB ⟨w, fun j => j < W.heap.size ∨ C j ≠ (0, 0)⟩ w' a.fb a.tb S' (k.ts.set i (y.1, L'))) : KIs W w' a (fileK k i o y S' L' o.u) := ⟨C, h.fileStepC hm hd⟩
theorem KIn.drewS (h : KIn W w a k C) : KIn W w.drew a k C := h.still ((Turn.refl _ _).drew)
theorem KOk.there (h : KOk k) (hm : Mine k pid i o x y) : TabOk k.S y.2 := h.joint.there hm.tab
theorem KIn.tok (h : KIn W w a k C) : TOk k.S.T := h.desc.tok
/-! ### what is refused leaves the files -/
theorem mput_same {κ β : Type} [DecidableEq κ] : ∀ {m : List (κ × β)} {q : κ} {v : β}, mget m q = some v → MNodup m → mput m q v = m := by
 intro m q v hg hn
 have h1 : mput m q v = mupd m q v := by
  unfold mput
  rw [hg]; rfl
 rw [h1]
 unfold mupd
 have : ∀ t ∈ m, (if t.1 = q then (t.1, v) else t) = t := fun t ht => by
  by_cases e : t.1 = q
  ·rw [if_pos e]
   have h2 := mget_mem hn ht
   rw [e, hg] at h2
   cases h2
   rfl
  ·rw [if_neg e]
 rw [List.map_congr_left this, List.map_id']
/-! ### the calls -/
theorem putS_same {S : PS} {q : Int} {e : PE} (hS : DOk S) (he : mget S.es q = some e) : putS S q e = S := by
 unfold putS
 rw [mput_same he hS.nd]
theorem pipeS_same {S : PS} {q : Nat} {p : PP} (hp : S.ps[q]? = some p) : pipeS S q p = S := by
 unfold pipeS
 rw [list_set_same hp]
theorem rd_err (hS : DOk S) {m : Int} (hz : rdE S L n m ≠ 0) : rdS S L n m = S := by
 unfold rdE at hz
 unfold rdS
 cases he : entL S L n with
 | none => rfl
 | some z =>
  rw [he] at hz
  simp only [Option.elim] at hz ⊢
  obtain ⟨_, hge⟩ := entL_some he
  split
  ·rfl
  ·rename_i h1
   rw [if_neg h1] at hz
   split
   ·rename_i h2
    rw [if_pos h2] at hz
    cases hq : S.ps[z.2.pid]? with
    | none => rfl
    | some q =>
     rw [hq] at hz
     simp only at hz ⊢
     unfold pRdQ
     rw [if_neg hz]
     exact pipeS_same hq
   ·rename_i h2
    rw [if_neg h2] at hz
    have h3 : readT S.T z.2.node z.2.at' m = ByteArray.empty := if_neg hz
    rw [h3]
    have h4 : ({ z.2 with at' := z.2.at' + (ByteArray.empty.size : Int) } : PE) = z.2 := by
     have : (ByteArray.empty.size : Int) = 0 := rfl
     rw [this, Int.add_zero]
    rw [h4]
    exact putS_same hS hge
theorem fileK_err {z : Int} {R : KS → Prop} (hm : Mine k pid i o x y) (h : KIs W w' a (fileK k i o y S' L' o.u)) (hok : KOk k) (hS : S' = k.S) (hL : L' = y.2) (hz : z ≠ 0) : KTo W a k z R w' := by
 subst hS hL
 rw [fileK_same hm] at h
 exact KTo.no h hok hz
def ReadTo (W : World) (a : KA) (k : KS) (i : Nat) (o : KO) (y : Nat × PTab) (n m : Int) (e : Ending) (w' : World) : Prop :=
 e = .returned (.tuple #[.string (rdB k.S y.2 n m), TErr (rdE k.S y.2 n m)]) ∧ KTo W a k (rdE k.S y.2 n m) (fun k' => k' = fileK k i o y (rdS k.S y.2 n m) (y.2) o.u) w'
set_option maxHeartbeats 1000000 in
set_option maxRecDepth 100000 in
theorem kread_yes (h : KIn W w a k C) (hok : KOk k) (hm : Mine k pid i o x y) (n m : Int) :
  Calls Tryz.prog 19 #[.pointer (some ⟨a.kb, 0, none⟩), .int .i64 pid, .int .i64 n, .int .i64 m] w (fun e w' => ReadTo W a k i o y n m e w') := by
 have HW := hid (who_yes h hok hm.own hm.ko)
 obtain ⟨hO, hL⟩ := h.at_ hm
 have hd := h.drewS
 obtain ⟨hO2, _⟩ := hd.at_ hm
 have HP := hid (law_dread hd.desc hok.dok hm.tab (hok.there hm) n m)
 have q1 := hO2.c1
 have q2 := hd.c2
 have HD := hid hd
 have HOk := hid hok
 have HM := hid hm
 have HTok := hid h.tok
 obtain ⟨z, hz⟩ : ∃ z, rdE k.S y.2 n m = z := ⟨_, rfl⟩
 unfold ReadTo
 rw [hz] at HP ⊢
 have HZ := hid hz
 clear h hok hm hO hL hd hO2 hz
 go_enter Tryz.func19, Tryz.ntmps19
 go_wp2_with fail
 refine HW.out.mono ?_
 rintro e w1 ⟨rfl, hw⟩; subst w1
 go_wp2_with fail
 go_region_held3 (fun w' => w'.cell? ⟨o.ob, 1, none⟩ = some (.pointer (some ⟨y.1, 0, none⟩)) ∧ w'.cell? ⟨a.kb, 2, none⟩ = some (.pointer (some ⟨a.fb, 0, none⟩)))
  (first | exact ⟨q1, q2⟩ | exact ⟨r1, r2⟩ | go_keep)
  (first | (go_at_call 65; refine HP.out.mono ?_; rintro e w4 ⟨rfl, hd4⟩; have hK4 := HD.out.fileStep HM.out hd4; have HK4 := hid hK4; obtain ⟨C4, hI4⟩ := hK4; have r2 := hI4.c2; have r1 := (hI4.at_ (pid := pid) (i := i) (o := { o with u := o.u }) ⟨HM.out.own, set_at HM.out.ko, HM.out.sp, set_at HM.out.tab⟩).1.c1; simp only at r1; clear hd4 hI4))
 all_goals go_wp2_with fail
 all_goals go_returns
 all_goals
  by_cases hz : z = 0
  ·refine ⟨rfl, _, HK4.out, ?_, fun _ => rfl, fun e => absurd hz e⟩
   have hf := HOk.out.fit i o HM.out.ko
   exact HOk.out.file HM.out (dok_rd HOk.out.dok HTok.out y.2 n m).1 (by rw [set_same HM.out.tab]; exact joint_rd HOk.out.joint y.2 n m) ⟨rfl, (HOk.out.live i o x y HM.out.ko HM.out.sp HM.out.tab ⟨pid, HM.out.own⟩).2.1, rfl⟩ hf.1
  ·exact ⟨rfl, fileK_err HM.out HK4.out HOk.out (rd_err HOk.out.dok (by rw [HZ.out]; exact hz)) (rfl) hz⟩
end
end Go.Proofs.YtamleilijmgoeaaGreatDoor
namespace Go.Proofs.YtamleilijmgoeaaGreatDoor
open Go.RowKit
set_option linter.unusedVariables false
section
variable {W w w' w1 : World} {a : KA} {k : KS} {C C' : Nat → Nat × Nat} {pid : Int} {i j : Nat} {o o' : KO} {x : Spc} {y : Nat × PTab} {S S' : PS} {L L' L0 : PTab} {ts : List (Nat × PTab)} {tab : Nat} {t' : St} {u' : Nat → Int} {e : PE} {n : Int}
theorem KIn.fileLed (h : KIn W w a (fileK k i o y S' L' o.u) C) (hm : Mine k pid i o x y) (hL : LedgerIs w' o.lb u' o.m) (t : Turn (fun j => j = o.lb) w w') : KIs W w' a (fileK k i o y S' L' u') := by
 have h1 := h.ledger (i := i) (o := { o with u := o.u }) (set_at hm.ko) hL t
 have e : ({ fileK k i o y S' L' o.u with os := (fileK k i o y S' L' o.u).os.set i { ({ o with u := o.u } : KO) with u := u', m := o.m } } : KS) = fileK k i o y S' L' u' := by
  unfold fileK
  simp only [List.set_set]
 rw [e] at h1
 exact h1
theorem mine_file (hm : Mine k pid i o x y) : Mine (fileK k i o y S' L' u') pid i { o with u := u' } x (y.1, L') := ⟨hm.own, set_at hm.ko, hm.sp, set_at hm.tab⟩
theorem closeE_is (hS : DOk S) : closeE S L n = if entL S L n = none then 7 else 0 := by
 unfold closeE
 cases he : entL S L n with
 | none => rfl
 | some z =>
  rw [if_neg (by simp)]
  simp only [Option.elim]
  split
  ·rfl
  ·split
   ·rename_i h1 h2
    obtain ⟨_, hge⟩ := entL_some (k := z.1) (e := z.2) he
    obtain ⟨p, hp, hd, hh, hpos⟩ := hS.heldPos hge h2
    unfold dropE
    rw [hp]
    simp only [Option.elim, hd]
    rw [if_neg (by decide), if_neg (by omega)]
   ·rfl
theorem usedL_close (hz : closeE S L n = 0) (hS : DOk S) : usedL (closeL S L n) + 1 = usedL L := by
 rw [closeE_is hS] at hz
 unfold closeL
 cases he : entL S L n with
 | none => rw [he] at hz; simp at hz
 | some z =>
  obtain ⟨h0, h8, hne, _⟩ := slotL_some (entL_some (k := z.1) (e := z.2) he).1
  simp only [Option.elim]
  have h1 := usedL_set (L := L) (j := n.toNat) (x := (0, false)) (by omega)
  have h2 : usX ((0 : Int), false) = 0 := rfl
  have hk := (entL_some (k := z.1) (e := z.2) he).2
  have h4 := (hS.keys z.1 z.2 hk).1
  have h3 : usX (L n.toNat) = 1 := by
   unfold usX
   rw [if_pos]
   have := (slotL_some (entL_some (k := z.1) (e := z.2) he).1).2.2.2
   omega
  omega
def CloseTo (W : World) (a : KA) (k : KS) (i : Nat) (o : KO) (y : Nat × PTab) (n : Int) (e : Ending) (w' : World) : Prop :=
 e = .returned (TErr (closeE k.S y.2 n)) ∧ KTo W a k (closeE k.S y.2 n) (fun k' => k' = fileK k i o y (closeS k.S y.2 n) (closeL k.S y.2 n) (upd o.u 1 (o.u 1 - 1))) w'
set_option maxHeartbeats 2000000 in
set_option maxRecDepth 100000 in
theorem kclose_yes (h : KIn W w a k C) (hok : KOk k) (hm : Mine k pid i o x y) (n : Int) :
  Calls Tryz.prog 15 #[.pointer (some ⟨a.kb, 0, none⟩), .int .i64 pid, .int .i64 n] w (fun e w' => CloseTo W a k i o y n e w') := by
 have HW := hid (who_yes h hok hm.own hm.ko)
 obtain ⟨hO, hL⟩ := h.at_ hm
 have hd := h.drewS
 obtain ⟨hO2, _⟩ := hd.at_ hm
 have HP := hid (law_close hd.desc hok.dok hm.tab (hok.there hm) n)
 have q1 := hO2.c1
 have q2 := hd.c2
 have HD := hid hd
 have HOk := hid hok
 have HM := hid hm
 have HTok := hid h.tok
 have HLv := hid (hok.live i o x y hm.ko hm.sp hm.tab ⟨pid, hm.own⟩).2.1
 by_cases hz : closeE k.S y.2 n = 0
 ·have HU := hid (usedL_close hz hok.dok)
  have HZ := hid hz
  unfold CloseTo
  rw [hz] at HP ⊢
  rw [show TErr 0 = .nilIface from rfl] at HP ⊢
  have hwy : why o.u o.m ((1 : Int), -1) = 0 := why_less (hok.fit i o hm.ko).1 1 (by omega) 1 (by omega) (by rw [HLv.out]; have := HU.out; omega)
  have HWy := hid hwy
  clear h hok hm hO hL hd hO2 hz hwy
  go_enter Tryz.func15, Tryz.ntmps15
  go_wp2_with fail
  refine HW.out.mono ?_
  rintro e w1 ⟨rfl, hw⟩; subst w1
  go_wp2_with fail
  go_region_held3 (fun w' => w'.cell? ⟨o.ob, 1, none⟩ = some (.pointer (some ⟨y.1, 0, none⟩)) ∧ w'.cell? ⟨a.kb, 2, none⟩ = some (.pointer (some ⟨a.fb, 0, none⟩)))
   (first | exact ⟨q1, q2⟩ | exact ⟨r1, r2⟩ | go_keep)
   (first | (go_at_call 59; refine HP.out.mono ?_; rintro e w4 ⟨rfl, hd4⟩; have hK4 := HD.out.fileStep HM.out hd4; obtain ⟨C4, hI4⟩ := hK4; have HI4 := hid hI4; have r2 := hI4.c2; have hA4 := (hI4.at_ (mine_file HM.out)); have r1 := hA4.1.c1; have r3 := hA4.1.c2; have HL4 := hid hA4.2; simp only at r1 r3; clear hd4 hI4 hA4))
  all_goals
   have hcg := charge_one (kind := 1) (n := -1) HL4.out (HOk.out.fit i o HM.out.ko).1
   unfold Charged1 at hcg
   have HCg := hid hcg
   clear hcg
   go_wp2_with fail
   refine HCg.out.mono ?_
   rintro e w5 (⟨_, rfl, hl5, hf5, t5⟩ | ⟨hne, _⟩)
   ·have HR := hid (HI4.out.fileLed HM.out hl5 t5)
    have HF5 := hid hf5
    clear hl5 hf5 t5
    go_wp2_with fail
    go_returns
    have hjj := joint_close HOk.out.joint HOk.out.dok HM.out.tab n
    refine ⟨rfl, _, HR.out, HOk.out.file HM.out (HOk.out.dok.close y.2 n) hjj ⟨?_, ?_, ?_⟩ HF5.out, fun _ => rfl, fun e => absurd rfl e⟩
    ·exact upd_other _ _ (by decide)
    ·show upd o.u 1 (o.u 1 + -1) 1 = _
     rw [upd_same, HLv.out]
     have := HU.out
     omega
    ·exact upd_other _ _ (by decide)
   ·exact absurd HWy.out hne
 ·obtain ⟨z, hzz⟩ : ∃ z, closeE k.S y.2 n = z := ⟨_, rfl⟩
  have he := close_err hok.dok hz
  have HE := hid he
  unfold CloseTo
  rw [hzz] at HP hz ⊢
  have HZ := hid hz
  rw [TErr_of hz] at HP ⊢
  clear h hok hm hO hL hd hO2 hz hzz he
  go_enter Tryz.func15, Tryz.ntmps15
  go_wp2_with fail
  refine HW.out.mono ?_
  rintro e w1 ⟨rfl, hw⟩; subst w1
  go_wp2_with fail
  go_region_held3 (fun w' => w'.cell? ⟨o.ob, 1, none⟩ = some (.pointer (some ⟨y.1, 0, none⟩)) ∧ w'.cell? ⟨a.kb, 2, none⟩ = some (.pointer (some ⟨a.fb, 0, none⟩)))
   (first | exact ⟨q1, q2⟩ | exact ⟨r1, r2⟩ | go_keep)
   (first | (go_at_call 59; refine HP.out.mono ?_; rintro e w4 ⟨rfl, hd4⟩; have hK4 := HD.out.fileStep HM.out hd4; have HK4 := hid hK4; obtain ⟨C4, hI4⟩ := hK4; have r2 := hI4.c2; have hA4 := (hI4.at_ (mine_file HM.out)); have r1 := hA4.1.c1; simp only at r1; clear hd4 hI4 hA4))
  all_goals go_wp2_with fail
  all_goals go_returns
  all_goals exact ⟨rfl, fileK_err HM.out HK4.out HOk.out HE.out.1 HE.out.2 HZ.out⟩
end
end Go.Proofs.YtamleilijmgoeaaGreatDoor
namespace Go.Proofs.YtamleilijmgoeaaGreatDoor
open Go.RowKit
set_option linter.unusedVariables false
section
variable {W w w' w1 : World} {a : KA} {k : KS} {C C' : Nat → Nat × Nat} {pid : Int} {i j : Nat} {o o' : KO} {x : Spc} {y : Nat × PTab} {S S' : PS} {L L' L0 : PTab} {ts : List (Nat × PTab)} {tab : Nat} {t' : St} {u' v' : Nat → Int} {n : Int}
end
end Go.Proofs.YtamleilijmgoeaaGreatDoor
namespace Go.Proofs.YtamleilijmgoeaaGreatDoor
open Go.RowKit
set_option linter.unusedVariables false
section
variable {W w w' w1 : World} {a : KA} {k : KS} {C C' : Nat → Nat × Nat} {pid : Int} {i j : Nat} {o o' : KO} {x : Spc} {y : Nat × PTab} {pl : List (Int × Nat)} {pf pf' : Nat → Pr} {r : Nat}
end
end Go.Proofs.YtamleilijmgoeaaGreatDoor
namespace Go.Proofs.YtamleilijmgoeaaGreatDoor
open Go.RowKit
set_option linter.unusedVariables false
section
variable {W w w' w1 : World}
def lim3 (q : Nat) : Int := if q = 0 then 64 else if q = 1 then 8 else if q = 2 then 200 else 0
def mostN (j : Nat) : Nat → Int := fun q => if q < j then lim3 q else 0
theorem mostN_step (j : Nat) : upd (mostN j) j (lim3 j) = mostN (j + 1) := by
 funext q
 unfold upd mostN
 by_cases e : q = j
 ·subst e
  rw [if_pos rfl, if_pos (by omega)]
 ·rw [if_neg e]
  by_cases hq : q < j
  ·rw [if_pos hq, if_pos (by omega)]
  ·rw [if_neg hq, if_neg (by omega)]
theorem mostN_zero : mostN 0 = fun _ => 0 := by funext q; exact if_neg (by omega)
theorem fit_new (j : Nat) : Fit (fun _ => 0) (mostN j) := fun q hq => by
 have h : 0 ≤ mostN j q ∧ mostN j q ≤ 1000000 := by
  unfold mostN lim3
  repeat' split
  all_goals omega
 exact ⟨(by show (0 : Int) ≤ 0; omega), (by show (0 : Int) ≤ 1000000; omega), h.1, h.2⟩
theorem ledger_new (w : World) (t : TypeId) : LedgerIs (w.alloc (.cells #[.int .i64 0, .int .i64 0, .int .i64 0, .int .i64 0, .int .i64 0, .int .i64 0] t)) w.heap.size (fun _ => 0) (mostN 0) := by
 rw [mostN_zero]
 refine ⟨fun j hj => ?_, fun j hj => ?_, fun j => by simp⟩ <;> (match j with
  | 0 => simp
  | 1 => simp
  | 2 => simp
  | j + 3 => exact absurd hj (by omega))
theorem idx_lim0 (w : World) : (Instr.index 67 (.agg #[.int .i64 64, .int .i64 8, .int .i64 200]) (.int .i64 0)).run Tryz.prog w = .ok (.int .i64 64) w := by kernel_rfl
theorem idx_lim1 (w : World) : (Instr.index 67 (.agg #[.int .i64 64, .int .i64 8, .int .i64 200]) (.int .i64 1)).run Tryz.prog w = .ok (.int .i64 8) w := by kernel_rfl
theorem idx_lim2 (w : World) : (Instr.index 67 (.agg #[.int .i64 64, .int .i64 8, .int .i64 200]) (.int .i64 2)).run Tryz.prog w = .ok (.int .i64 200) w := by kernel_rfl
theorem idx_lim (k : Nat) (hk : k < 3) (w : World) : (Instr.index 67 (.agg #[.int .i64 64, .int .i64 8, .int .i64 200]) (.int .i64 k)).run Tryz.prog w = .ok (.int .i64 (lim3 k)) w := by
 have h : k = 0 ∨ k = 1 ∨ k = 2 := by omega
 rcases h with h | h | h
 ·rw [h]; exact idx_lim0 w
 ·rw [h]; exact idx_lim1 w
 ·rw [h]; exact idx_lim2 w
theorem ledger_new2 (w : World) (t : TypeId) : LedgerIs (w.alloc (.cells #[.int .i64 0, .int .i64 0, .int .i64 0, .int .i64 0, .int .i64 0, .int .i64 0] t)) w.heap.size (fun _ => 0) (mostN 0) ∧ Turn (fun _ => False) w (w.alloc (.cells #[.int .i64 0, .int .i64 0, .int .i64 0, .int .i64 0, .int .i64 0, .int .i64 0] t)) := ⟨ledger_new w t, (Turn.refl _ _).alloc _⟩
/-! ### the first state -/
def kDS0 : PS := ⟨rootT, [], []⟩
theorem kds0_ok : DOk kDS0 := by
 refine ⟨List.nodup_nil, fun k e h => (by cases h), fun k e h => (by cases h), Nat.zero_le _, fun k j e f h => (by cases h), fun i q h => (by cases h), fun n p h => ?_⟩
 have hm := mem_of_mget h
 have hm : (n, p) ∈ rootT := hm
 unfold rootT at hm
 simp only [List.mem_cons, List.not_mem_nil, or_false, Prod.mk.injEq] at hm
 rw [hm.2]; rfl
theorem kcnt0 (k : Int) (hk : 0 ≤ k) : ∀ f i, cntFrom noTab k f i = 0
 | 0, i => rfl
 | f + 1, i => by
  show hitX (noTab i) k + cntFrom noTab k f (i + 1) = 0
  rw [kcnt0 k hk f (i + 1)]
  unfold hitX
  rw [if_neg (by show ¬ (0 : Int) = k + 1; omega)]
theorem kjoint0 (t : Nat) : Joint kDS0 [(t, noTab)] := by
 refine ⟨fun k hk => ?_, fun i x hx j hj => ?_⟩
 ·show cntFrom noTab k 8 0 + 0 = 0
  rw [kcnt0 k hk]
 ·cases i with
  | zero => cases hx; exact ⟨Int.le_refl _, by show (0 : Int) ≤ 40; decide⟩
  | succ i => cases hx
theorem kkin0 (b : Nat) : Kin [((1 : Int), b)] (fun _ => init) := by
 have h1 : mget [((1 : Int), b)] 1 = some b := rfl
 refine ⟨fun t ht => ?_, by simp, by simp [MNodup], by simp, ⟨b, h1, rfl, rfl⟩, fun t ht hne => ?_, fun t ht => .inl rfl, fun t ht => ⟨0, 0, rfl, rfl, by decide, by decide⟩⟩
 ·rw [List.mem_singleton.1 ht]; exact ⟨by show (1 : Int) ≤ 1; decide, by show (1 : Int) ≤ 24; decide⟩
 ·rw [List.mem_singleton.1 ht] at hne; exact absurd rfl hne
def newKS (t : St) (sp pm tab ob lb b : Nat) : KS := ⟨t, [⟨sp, pm, noP⟩], kDS0, [(tab, noTab)], [⟨ob, lb, fun _ => 0, mostN 3, 0⟩], [(1, 0)], [(1, b)], fun _ => init⟩
theorem one_get {α : Type} {z v : α} {i : Nat} (h : [z][i]? = some v) : i = 0 ∧ v = z := by
 cases i with
 | zero => simp at h; exact ⟨rfl, h.symm⟩
 | succ i => simp at h
theorem knew_ok (t : St) (sp pm tab ob lb b : Nat) : KOk (newKS t sp pm tab ob lb b) := by
 have hg : ∀ p, mget [((1 : Int), 0)] p = if p = 1 then some 0 else none := fun p => by
  unfold mget
  by_cases e : p = 1
  ·subst e; rfl
  ·rw [if_neg e]; simp [show (1 : Int) ≠ p from fun h => e h.symm]
 refine ⟨kkin0 b, kds0_ok, kjoint0 tab, ⟨rfl, rfl, by show (1 : Nat) ≤ 100; decide⟩, fun p => ?_, by simp [MNodup, newKS], fun p q i hp hq => ?_, fun i o x y ho hx hy _ => ?_, fun i o ho => ?_, fun i x y hx hy _ => ?_, fun p i hp => ?_⟩
 ·show stR [((1 : Int), b)] (fun _ => init) p = 1 ↔ (mget [((1 : Int), 0)] p).isSome = true
  rw [hg]
  by_cases e : p = 1
  ·subst e; simp [stR, mget, init]
  ·rw [if_neg e]
   unfold stR mget
   simp [show (1 : Int) ≠ p from fun h => e h.symm]
 ·have hp' : mget [((1 : Int), 0)] p = some i := hp
  have hq' : mget [((1 : Int), 0)] q = some i := hq
  rw [hg] at hp' hq'
  split at hp'
  ·split at hq'
   ·omega
   ·cases hq'
  ·cases hp'
 ·obtain ⟨_, rfl⟩ := one_get ho
  obtain ⟨_, rfl⟩ := one_get hx
  obtain ⟨_, rfl⟩ := one_get hy
  exact ⟨by show (0 : Int) = ((lenP noP : Nat) : Int); rw [show lenP noP = 0 from lenP_none]; rfl, by show (0 : Int) = ((usedL noTab : Nat) : Int); rw [used_zero (fun _ _ => rfl)]; rfl, rfl⟩
 ·obtain ⟨_, rfl⟩ := one_get ho
  exact ⟨fit_new 3, by show (-100 : Int) ≤ 0; decide, by show (0 : Int) ≤ 100; decide⟩
 ·obtain ⟨_, rfl⟩ := one_get hx
  obtain ⟨_, rfl⟩ := one_get hy
  exact ⟨rfl, used_zero (fun _ _ => rfl)⟩
 ·have hp' : mget [((1 : Int), 0)] p = some i := hp
  rw [hg] at hp'
  split at hp'
  ·show i < 1
   have := Option.some.inj hp'
   omega
  ·cases hp'
def ownObj (sp tab lb : Nat) : Obj := .cells #[.pointer (some ⟨sp, 0, none⟩), .pointer (some ⟨tab, 0, none⟩), .pointer (some ⟨lb, 0, none⟩), .int .i64 0] 115
def kernObj (sb tb fb pb om : Nat) : Obj := .cells #[.pointer (some ⟨sb, 0, none⟩), .pointer (some ⟨tb, 0, none⟩), .pointer (some ⟨fb, 0, none⟩), .pointer (some ⟨pb, 0, none⟩), .map (some om)] 118
theorem own_new (w : World) (sp tab lb : Nat) : OwnAt (w.alloc (ownObj sp tab lb)) w.heap.size sp tab lb 0 := by
 unfold ownObj
 exact ⟨by simp, by simp, by simp, by simp, fun q => by simp⟩
open Classical in
theorem knew_kin {w w1 w3 w4 wr w5 w6 : World} {s : SB} {n : Nat} {t : St} {tb fb sp pm lb pb pm2 b : Nat}
  (hst : StoreIs w1 s n t) (hR : ∀ f, t.R f = 0) (t1 : Turn (fun _ => False) w w1) (hft : ∀ k, StFoot s t.vs k → w.heap.size ≤ k)
  (hd : DLaw w1 w3 fb tb kDS0 []) (hsp : SpIs w4 sp pm s.sb noP) (t4 : Turn (fun _ => False) w3 w4) (h1 : w3.heap.size ≤ sp) (h2 : w3.heap.size ≤ pm)
  (hl : LedgerIs wr lb (fun _ => 0) (mostN 3)) (tl : Turn (fun _ => False) w4 wr) (hlb : lb = w4.heap.size)
  (hT : PrTab w5 pb pm2 [((1 : Int), b)] (fun _ => init)) (t5 : Turn (fun _ => False) wr w5) (hTf : ∀ k, TFoot pb pm2 [((1 : Int), b)] k → wr.heap.size ≤ k)
  (hm6 : MapIs w6 w5.heap.size (.int .i64) encI ptr (mput [] (1 : Int) (w5.heap.size + 1 + 1))) (t6 : Turn (fun j => j = w5.heap.size) (((w5.alloc (.map #[] 0)).alloc (tabObj noTab)).alloc (ownObj sp (w5.heap.size + 1) lb)) w6) :
  KIs w (w6.alloc (kernObj s.sb tb fb pb w5.heap.size)) ⟨w6.heap.size, s, n, tb, fb, pb, pm2, w5.heap.size⟩ (newKS t sp pm (w5.heap.size + 1) (w5.heap.size + 1 + 1) lb b) := by
 -- the worlds, one behind the other
 have e5a : (w5.alloc (.map #[] 0)).heap.size = w5.heap.size + 1 := World.size_alloc _ _
 have e5b : ((w5.alloc (.map #[] 0)).alloc (tabObj noTab)).heap.size = w5.heap.size + 1 + 1 := by rw [World.size_alloc, e5a]
 have e5c : (((w5.alloc (.map #[] 0)).alloc (tabObj noTab)).alloc (ownObj sp (w5.heap.size + 1) lb)).heap.size = w5.heap.size + 1 + 1 + 1 := by rw [World.size_alloc, e5b]
 have t5a : Turn (fun _ => False) w5 (w5.alloc (.map #[] 0)) := (Turn.refl _ _).alloc _
 have t5b : Turn (fun _ => False) (w5.alloc (.map #[] 0)) ((w5.alloc (.map #[] 0)).alloc (tabObj noTab)) := (Turn.refl _ _).alloc _
 have t5c : Turn (fun _ => False) ((w5.alloc (.map #[] 0)).alloc (tabObj noTab)) (((w5.alloc (.map #[] 0)).alloc (tabObj noTab)).alloc (ownObj sp (w5.heap.size + 1) lb)) := (Turn.refl _ _).alloc _
 have hO : OwnAt (((w5.alloc (.map #[] 0)).alloc (tabObj noTab)).alloc (ownObj sp (w5.heap.size + 1) lb)) (w5.heap.size + 1 + 1) sp (w5.heap.size + 1) lb 0 := by
  have h := own_new ((w5.alloc (.map #[] 0)).alloc (tabObj noTab)) sp (w5.heap.size + 1) lb
  rw [e5b] at h
  exact h
 have hd3 := hd.turn0
 have z1 := t1.size
 have z3 := hd3.size
 have z4 := t4.size
 have zl := tl.size
 have z5 := t5.size
 have z6 := t6.size
 have hlt := hl.lt
 have l1 := hsp.lt
 have tf : Turn (fun _ => False) w6 (w6.alloc (kernObj s.sb tb fb pb w5.heap.size)) := (Turn.refl _ _).alloc _
 have ef : (w6.alloc (kernObj s.sb tb fb pb w5.heap.size)).heap.size = w6.heap.size + 1 := World.size_alloc _ _
 generalize hwc : ((w5.alloc (.map #[] 0)).alloc (tabObj noTab)).alloc (ownObj sp (w5.heap.size + 1) lb) = wc at *
 have tc : Turn (fun _ => False) w5 wc := (t5a.trans t5b).trans t5c
 have tg : Turn (fun j => j = w5.heap.size) wc (w6.alloc (kernObj s.sb tb fb pb w5.heap.size)) := t6.trans (tf.mono (fun _ _ h => h.elim))
 have hk : ∀ q v, (#[Value.pointer (some ⟨s.sb, 0, none⟩), .pointer (some ⟨tb, 0, none⟩), .pointer (some ⟨fb, 0, none⟩), .pointer (some ⟨pb, 0, none⟩), .map (some w5.heap.size)] : Array Value)[q]? = some v → (w6.alloc (kernObj s.sb tb fb pb w5.heap.size)).cell? ⟨w6.heap.size, q, none⟩ = some v := fun q v hv => by
  unfold kernObj
  rw [World.cell?_alloc_new]; exact hv
 generalize hwf : w6.alloc (kernObj s.sb tb fb pb w5.heap.size) = wf at *
 have hsto := hst.foot_lt
 have hprl := hT.foot_lt
 -- everything at the last world
 have ho1 : ¬ StFoot s t.vs sp ∧ ¬ StFoot s t.vs pm := ⟨fun hf => by have := hsto _ hf; omega, fun hf => by have := hsto _ hf; omega⟩
 have hv5 : VmAll w5 s n t [⟨sp, pm, noP⟩] := VmAll.first (hst.turned ((((hd3.trans t4).trans tl).trans t5)) (fun _ _ => id)) hR (hsp.turned (tl.trans t5) id id) ho1
 have hvc := hv5.turned tc (fun _ _ => id)
 have hAF : ∀ j, AllFoot s t.vs [(⟨sp, pm, noP⟩ : Spc)] j → (w.heap.size ≤ j ∧ j < w1.heap.size) ∨ (w3.heap.size ≤ j ∧ j < w4.heap.size) := fun j hj => by
  rcases hj with hj | ⟨i, x, hx, hj⟩
  ·exact .inl ⟨hft j hj, hsto j hj⟩
  ·obtain ⟨_, rfl⟩ := one_get hx
   simp only at hj
   rcases hj with rfl | rfl
   ·exact .inr ⟨h1, l1.1⟩
   ·exact .inr ⟨h2, l1.2⟩
 have hTF : ∀ j, TFoot pb pm2 [((1 : Int), b)] j → wr.heap.size ≤ j ∧ j < w5.heap.size := fun j hj => ⟨hTf j hj, hprl j hj⟩
 obtain ⟨AF, hAFe⟩ : ∃ AF, AF = AllFoot s t.vs [(⟨sp, pm, noP⟩ : Spc)] := ⟨_, rfl⟩
 obtain ⟨TF, hTFe⟩ : ∃ TF, TF = TFoot pb pm2 [((1 : Int), b)] := ⟨_, rfl⟩
 rw [← hAFe] at hAF
 rw [← hTFe] at hTF
 let C : Nat → Nat × Nat := fun j => if j = w6.heap.size then (1, 0) else if j = w5.heap.size then (2, 0) else if j = w5.heap.size + 1 + 1 then (3, 0) else if j = lb then (4, 0) else if AF j then (5, 0) else if TF j then (6, 0) else (0, 0)
 have hC : ∀ j, C j = if j = w6.heap.size then (1, 0) else if j = w5.heap.size then (2, 0) else if j = w5.heap.size + 1 + 1 then (3, 0) else if j = lb then (4, 0) else if AF j then (5, 0) else if TF j then (6, 0) else (0, 0) := fun _ => rfl
 have hold : ∀ j, C j ≠ (0, 0) → (w.heap.size ≤ j ∧ j < wf.heap.size) ∧ (j < w1.heap.size ∨ (w3.heap.size ≤ j ∧ j < w5.heap.size + 1) ∨ j = w5.heap.size + 1 + 1 ∨ j = w6.heap.size) := fun j hj => by
  rw [hC] at hj
  by_cases q1 : j = w6.heap.size
  ·exact ⟨⟨by omega, by omega⟩, by omega⟩
  rw [if_neg q1] at hj
  by_cases q2 : j = w5.heap.size
  ·exact ⟨⟨by omega, by omega⟩, by omega⟩
  rw [if_neg q2] at hj
  by_cases q3 : j = w5.heap.size + 1 + 1
  ·exact ⟨⟨by omega, by omega⟩, by omega⟩
  rw [if_neg q3] at hj
  by_cases q4 : j = lb
  ·exact ⟨⟨by omega, by omega⟩, by omega⟩
  rw [if_neg q4] at hj
  by_cases q5 : AF j
  ·have := hAF j q5
   exact ⟨⟨by omega, by omega⟩, by omega⟩
  rw [if_neg q5] at hj
  by_cases q6 : TF j
  ·have := hTF j q6
   exact ⟨⟨by omega, by omega⟩, by omega⟩
  rw [if_neg q6] at hj
  exact absurd rfl hj
 clear_value C
 have d5a : DLawB ⟨w5.alloc (.map #[] 0), fun j => j < w1.heap.size ∨ (w3.heap.size ≤ j ∧ j < w5.heap.size + 1)⟩ (w5.alloc (.map #[] 0)) fb tb kDS0 [] :=
  hd.rebase ((((t4.trans tl).trans t5).trans t5a).mono (fun _ _ h => h.elim)) (fun j hj => by
   rcases hj with hj | hj
   ·exact .inl hj
   ·exact .inr hj.1) (fun j hj => by omega)
 have d5b := d5a.table
 rw [e5a, List.nil_append] at d5b
 have d5c : DLawB ⟨wc, fun j => (j < w1.heap.size ∨ (w3.heap.size ≤ j ∧ j < w5.heap.size + 1)) ∨ j = w5.heap.size + 1 + 1⟩ wc fb tb kDS0 [(w5.heap.size + 1, noTab)] :=
  d5b.rebase (t5c.mono (fun _ _ h => h.elim)) (fun j hj => hj.imp id (fun e => by omega)) (fun j hj => by omega)
 have df : DLawB ⟨wf, fun j => j < w.heap.size ∨ C j ≠ (0, 0)⟩ wf fb tb kDS0 [(w5.heap.size + 1, noTab)] :=
  d5c.rebase (tg.mono (fun j _ e => .inl (.inr (by omega)))) (fun j hj => by
   rcases hj with hj | hj
   ·exact .inl (.inl (.inl (by omega)))
   ·have := (hold j hj).2
    rcases this with h | h | h | h
    ·exact .inl (.inl (.inl h))
    ·exact .inl (.inl (.inr h))
    ·exact .inl (.inr h)
    ·exact .inr (by omega)) (fun j hj => by
   rcases hj with hj | hj
   ·omega
   ·exact (hold j hj).1.2)
 refine ⟨C, hk 0 _ rfl, hk 1 _ rfl, hk 2 _ rfl, hk 3 _ rfl, hk 4 _ rfl, fun i o ho => ?_, ?_, fun q hq => ?_, hvc.turned tg (fun j hj e => ?_), (hT.turned tc (fun _ _ => id)).turned tg (fun j hj e => ?_), df, ?_, ?_, fun i o ho => ?_, fun i o ho => ?_, fun j hj => ?_, fun j hj => ?_, fun j hj => (hold j hj).1, ?_⟩
 ·obtain ⟨rfl, rfl⟩ := one_get ho
  exact ⟨_, _, rfl, rfl, hO.turned tg (by omega), (hl.turned (t5.trans tc) id).turned tg (by omega)⟩
 ·exact hm6.turned tf id
 ·have hq : q ∈ [((1 : Int), 0)] := hq
  rw [List.mem_singleton.1 hq]
  exact ⟨_, rfl⟩
 ·have := hAF j (by rw [hAFe]; exact hj)
  omega
 ·have := hTF j (by rw [hTFe]; exact hj)
  omega
 ·rw [hC, if_pos rfl]
 ·rw [hC, if_neg (by show ¬ w5.heap.size = w6.heap.size; omega), if_pos rfl]
 ·obtain ⟨rfl, rfl⟩ := one_get ho
  rw [hC, if_neg (by show ¬ w5.heap.size + 1 + 1 = w6.heap.size; omega), if_neg (by show ¬ w5.heap.size + 1 + 1 = w5.heap.size; omega), if_pos rfl]
 ·obtain ⟨rfl, rfl⟩ := one_get ho
  rw [hC, if_neg (by show ¬ lb = w6.heap.size; omega), if_neg (by show ¬ lb = w5.heap.size; omega), if_neg (by show ¬ lb = w5.heap.size + 1 + 1; omega), if_pos rfl]
 ·have hj : AF j := by rw [hAFe]; exact hj
  have := hAF j hj
  rw [hC, if_neg (by omega), if_neg (by omega), if_neg (by omega), if_neg (by omega), if_pos hj]
 ·have hj : TF j := by rw [hTFe]; exact hj
  have := hTF j hj
  have hn : ¬ AF j := fun h => by have := hAF j h; omega
  rw [hC, if_neg (by omega), if_neg (by omega), if_neg (by omega), if_neg (by omega), if_neg hn, if_pos hj]
 ·exact ((((((t1.trans hd3).trans t4).trans tl).trans t5).trans tc).trans' tg (fun j hj e => by omega))
def NewTo (n : Nat) (w : World) (e : Ending) (w' : World) : Prop :=
 ∃ (a : KA) (t : St) (sp pm tab ob lb b : Nat), e = .returned (.tuple #[.pointer (some ⟨a.kb, 0, none⟩), .nilIface]) ∧ a.n = n ∧ (∀ f, t.R f = 0) ∧ (∀ f g, t.m f g = 0) ∧ KIs w w' a (newKS t sp pm tab ob lb b) ∧ KOk (newKS t sp pm tab ob lb b)
set_option maxHeartbeats 2000000 in
set_option maxRecDepth 100000 in
theorem knew_is (n : Nat) (w : World) (h1 : 1 ≤ n) (h2 : n ≤ 256) : Calls Tryz.prog 12 #[.int .i64 n] w (NewTo n w) := by
 have HN := hid (vmNewStore_is n w h1 h2)
 unfold NewStoreIs at HN
 clear h1 h2
 unfold NewTo
 go_enter Tryz.func12, Tryz.ntmps12
 go_wp2_with fail
 refine HN.out.mono ?_
 rintro e w1 ⟨s, t, rfl, hst, hR, hm, t1, hft⟩
 have HSt := hid (show StoreIs w1 s n t ∧ (∀ f, t.R f = 0) ∧ (∀ f k, t.m f k = 0) ∧ Turn (fun _ => False) w w1 ∧ ∀ k, StFoot s t.vs k → w.heap.size ≤ k from ⟨hst, hR, hm, t1, hft⟩)
 clear hst hR hm t1 hft
 have HTr := hid (law_new w1)
 go_wp2_with fail
 refine HTr.out.mono ?_
 rintro e w2 ⟨tb, rfl, htr⟩
 have HTl := hid htr
 have HFi := hid (law_dnew htr)
 clear htr
 go_wp2_with fail
 refine HFi.out.mono ?_
 rintro e w3 ⟨fb, rfl, hfl⟩
 have HFl := hid hfl
 have HSp := hid (vmNew_is s.sb w3)
 unfold NewSpaceIs at HSp
 clear hfl
 go_wp2_with fail
 refine HSp.out.mono ?_
 rintro e w4 ⟨sp, pm, rfl, hsp, t4, hs1, hs2⟩
 have HSpI := hid (show SpIs w4 sp pm s.sb noP ∧ Turn (fun _ => False) w3 w4 ∧ w3.heap.size ≤ sp ∧ w3.heap.size ≤ pm from ⟨hsp, t4, hs1, hs2⟩)
 clear hsp t4 hs1 hs2
 go_wp2_with fail
 have hL0 := ledger_new2 w4 104
 obtain ⟨lb, hlb⟩ : ∃ lb, lb = w4.heap.size := ⟨_, rfl⟩
 rw [← hlb] at hL0 ⊢
 have HL0 := hid hL0
 have HLb := hid hlb
 clear hL0 hlb
 go_loopg [40] (3) (fun gl i wr => ∃ j : Nat, j + gl = 3 ∧ i = .int .i64 j ∧ Hid (LedgerIs wr lb (fun _ => 0) (mostN j) ∧ Turn (fun _ => False) w4 wr))
 case atStart => exact ⟨0, by omega, rfl, HL0⟩
 case round =>
  obtain ⟨j, hj, rfl, hS⟩ := hrel
  by_cases hlt : j < 3
  ·have hlt' : (j : Int) < 3 := by omega
   have ix := idx_lim j hlt wr
   have hb3 : 0 ≤ lim3 j ∧ lim3 j ≤ 1000000 := by
    unfold lim3
    repeat' split
    all_goals omega
   have HLi := hid (limit_ok hS.out.1 j (lim3 j) hlt hb3.1 hb3.2)
   rw [mostN_step] at HLi
   go_wp2_with fail
   refine HLi.out.mono ?_
   rintro e w5 ⟨rfl, hl5, t5⟩
   have HS5 := hid (show LedgerIs w5 lb (fun _ => 0) (mostN (j + 1)) ∧ Turn (fun _ => False) w4 w5 from ⟨hl5, hS.out.2.trans' t5 (fun q hq e => by have := HLb.out; omega)⟩)
   clear hl5 t5 hb3
   go_wp2_with fail
   go_roundg (gk - 1)
   case measure => omega
   case rel => exact ⟨j + 1, by omega, by go_num, HS5⟩
  ·have hj3 : j = 3 := by omega
   subst hj3
   have hs := hS.out
   have HL3 := hid hs
   clear hs hS HL0
   have HPn := hid (proc_new wr)
   unfold NewTab at HPn
   go_wp2_with fail
   refine HPn.out.mono ?_
   rintro e w5 ⟨pb, pm2, b, rfl, hT, t5, hTf⟩
   have HT5 := hid (show PrTab w5 pb pm2 [((1 : Int), b)] (fun _ => init) ∧ Turn (fun _ => False) wr w5 ∧ ∀ k, TFoot pb pm2 [((1 : Int), b)] k → wr.heap.size ≤ k from ⟨hT, t5, hTf⟩)
   have hmm := @run_makeMap Tryz.prog
   have HM : Hid (MapIs (((w5.alloc (.map #[] 0)).alloc (tabObj noTab)).alloc (.cells #[.pointer (some ⟨sp, 0, none⟩), .pointer (some ⟨w5.heap.size + 1, 0, none⟩), .pointer (some ⟨lb, 0, none⟩), .int .i64 0] 115)) w5.heap.size (.int .i64) encI ptr ([] : List (Int × Nat))) := hid ((MapIs.made w5).turned (((Turn.refl (fun _ => False) _).alloc _).alloc _) id)
   unfold tabObj noTab at HM
   clear hT t5 hTf
   go_wp2_with (refine wpList_insput rfl _ _ _ 116 3 107 rfl Tryz.underlying116 Tryz.underlying3 keyI w5.heap.size rfl HM.out 1 rfl (w5.heap.size + 1 + 1) rfl ?_; intro w6 hm6 t6; have HM6 := hid hm6; have HT6 := hid t6; clear hm6 t6)
   go_returns
   exact ⟨⟨w6.heap.size, s, n, tb, fb, pb, pm2, w5.heap.size⟩, t, sp, pm, w5.heap.size + 1, w5.heap.size + 1 + 1, lb, b, rfl, rfl, HSt.out.2.1, HSt.out.2.2.1, knew_kin HSt.out.1 HSt.out.2.1 HSt.out.2.2.2.1 HSt.out.2.2.2.2 HFl.out HSpI.out.1 HSpI.out.2.1 HSpI.out.2.2.1 HSpI.out.2.2.2 HL3.out.1 HL3.out.2 HLb.out HT5.out.1 HT5.out.2.1 HT5.out.2.2 HM6.out HT6.out, knew_ok t sp pm _ _ lb b⟩
end
end Go.Proofs.YtamleilijmgoeaaGreatDoor
namespace Go.Proofs.YtamleilijmgoeaaGreatDoor
open Go.RowKit
set_option linter.unusedVariables false
section
variable {W w w' w1 : World} {a : KA} {k : KS} {C C' : Nat → Nat × Nat} {pid : Int} {i j : Nat} {o o' : KO} {x : Spc} {y : Nat × PTab} {pl : List (Int × Nat)} {pf pf' : Nat → Pr} {r : Nat} {f : Nat → Pr} {l : List (Int × Nat)} {u m : Nat → Int}
theorem kdok_fork (L : PTab) : ∀ (f i : Nat) (S : PS), DOk S → (∀ k e, mget S.es k = some e → e.refs + f ≤ 1000000) → DOk (forkFrom L f i S)
  | 0, _, S, h, _ => h
  | f + 1, i, S, h, hb => by
    show DOk (forkFrom L f (i + 1) (if 0 < (L i).1 then bumpS S ((L i).1 - 1) else S))
    by_cases hz : 0 < (L i).1
    · rw [if_pos hz]
      unfold bumpS
      cases he : mget S.es ((L i).1 - 1) with
      | none => exact kdok_fork L f (i + 1) S h (fun k e he => by have := hb k e he; omega)
      | some e =>
        have hE := (h.ent _ e he).1
        have hbe := hb _ e he
        have h2 : DOk (putS S ((L i).1 - 1) { e with refs := e.refs + 1 }) := h.put he rfl rfl rfl rfl ⟨by show 1 ≤ e.refs + 1; omega, by show e.refs + 1 ≤ 1000000; omega, hE.2.2⟩
        exact kdok_fork L f (i + 1) (putS S ((L i).1 - 1) { e with refs := e.refs + 1 }) h2 (fun k g hg => by
          have hg : mget (mput S.es _ _) k = some g := hg
          rw [mget_mput] at hg
          split at hg
          · cases hg
            show e.refs + 1 + f ≤ 1000000
            omega
          · have := hb k g hg; omega)
    · rw [if_neg hz]
      exact kdok_fork L f (i + 1) S h (fun k e he => by have := hb k e he; omega)
theorem stR_fork {c : Int} {nb : Nat} {p : Pr} (hn : mget l c = none) (hc : ∀ t ∈ l, t.2 ≠ nb) (hp : p.state = 1) (q : Int) : stR (l ++ [(c, nb)]) (updPr f nb p) q = if q = c then 1 else stR l f q := by
  have e2 : stR l (updPr f nb p) q = stR l f q := stR_congr (fun t ht => by rw [updPr_other _ _ (hc t ht)]) q
  by_cases e : q = c
  · subst e
    rw [if_pos rfl]
    unfold stR
    rw [mget_snoc hn, if_pos rfl]
    show (updPr f nb p nb).state = 1
    rw [updPr_same]; exact hp
  · rw [if_neg e, ← e2]
    unfold stR
    rw [mget_snoc hn, if_neg e]
structure ForkNew where
  c : Int
  nb : Nat
  sp : Nat
  pm : Nat
  ub : Nat
  ob : Nat
  lb : Nat
  rl : List (Int × Nat)
def forkK (k : KS) (pid : Int) (o : KO) (x : Spc) (y : Nat × PTab) (b : Nat) (z : ForkNew) : KS :=
  { t := { k.t with rl := z.rl }, l := k.l ++ [⟨z.sp, z.pm, x.P⟩], S := forkS k.S y.2, ts := k.ts ++ [(z.ub, y.2)], os := k.os ++ [⟨z.ob, z.lb, o.u, o.m, o.adj⟩], ow := k.ow ++ [(z.c, k.os.length)], pl := k.pl ++ [(z.c, z.nb)], pf := updPr k.pf z.nb ⟨pid, 1, 0, 0, (k.pf b).ignores⟩ }
def ForkC (k : KS) (c : Int) : Prop := 1 ≤ c ∧ c ≤ 24 ∧ mget k.pl c = none ∧ ∀ i : Int, 1 ≤ i → i < c → (mget k.pl i).isSome = true
theorem get_snoc {α : Type} {l : List α} {v z : α} {j : Nat} (h : (l ++ [v])[j]? = some z) : l[j]? = some z ∨ (j = l.length ∧ z = v) := by
  by_cases e : j < l.length
  · rw [List.getElem?_append_left e] at h; exact .inl h
  · rw [List.getElem?_append_right (by omega)] at h
    have e2 := (List.getElem?_eq_some_iff.1 h).1
    simp at e2
    have e3 : j = l.length := by omega
    subst e3
    simp at h
    exact .inr ⟨rfl, h.symm⟩
theorem KOk.no_own (h : KOk k) {c : Int} (hn : mget k.pl c = none) : mget k.ow c = none := by
  cases hc : mget k.ow c with
  | none => rfl
  | some i =>
    have h1 := (h.run c).2 (by rw [hc]; rfl)
    unfold RunsIn stR at h1
    rw [hn] at h1
    cases h1
theorem KOk.forked (h : KOk k) (hm : Mine k pid i o x y) {b : Nat} (hb : mget k.pl pid = some b) {z : ForkNew} (hc : ForkC k z.c) (hnb : ∀ t ∈ k.pl, t.2 ≠ z.nb) (hl : k.pl.length < 24) (hlen : k.os.length < 100) : KOk (forkK k pid o x y b z) := by
  have hr : RunsIn k.pl k.pf pid := (h.run pid).2 (by rw [hm.own]; rfl)
  have hno := h.no_own hc.2.2.1
  have hown : ∀ q, mget (k.ow ++ [(z.c, k.os.length)]) q = if q = z.c then some k.os.length else mget k.ow q := mget_snoc hno
  obtain ⟨l1, l2, l3⟩ := h.len
  have hbnd := h.joint.bound h.dok (by omega)
  have hO : ∀ j, j ≠ k.os.length → ((∃ q, mget (k.ow ++ [(z.c, k.os.length)]) q = some j) ↔ Owned k j) := fun j hj => by
    constructor
    · rintro ⟨q, hq⟩
      rw [hown] at hq
      by_cases e : q = z.c
      · rw [if_pos e] at hq; exact absurd (Option.some.inj hq).symm hj
      · rw [if_neg e] at hq; exact ⟨q, hq⟩
    · rintro ⟨q, hq⟩
      refine ⟨q, ?_⟩
      rw [hown, if_neg (fun e => ?_)]
      · exact hq
      · rw [e, hno] at hq; cases hq
  refine ⟨h.kin.fork hr hb hc.1 hc.2.1 hc.2.2.1 hl hnb, kdok_fork y.2 8 0 k.S h.dok (fun m e he => by have := hbnd m e he; omega), joint_fork h.joint (tab := y.1) (by rw [hm.tab]) z.ub, ⟨by unfold forkK; simp only [List.length_append, List.length_singleton]; omega, by unfold forkK; simp only [List.length_append, List.length_singleton]; omega, by unfold forkK; simp only [List.length_append, List.length_singleton]; omega⟩, fun q => ?_, ?_, fun p q j hp hq => ?_, fun j v z' u hv hz hu ho => ?_, fun j v hv => ?_, fun j v u hv hu ho => ?_, fun q j hq => ?_⟩
  · unfold RunsIn
    show stR (k.pl ++ [(z.c, z.nb)]) (updPr k.pf z.nb _) q = 1 ↔ (mget (k.ow ++ [(z.c, k.os.length)]) q).isSome = true
    rw [stR_fork hc.2.2.1 hnb rfl, hown]
    by_cases e : q = z.c
    · rw [if_pos e, if_pos e]; simp
    · rw [if_neg e, if_neg e]; exact h.run q
  · show MNodup (k.ow ++ [(z.c, k.os.length)])
    rw [← mput_new hno]; exact mput_nodup h.nd _ _
  · have hp' : mget (k.ow ++ [(z.c, k.os.length)]) p = some j := hp
    have hq' : mget (k.ow ++ [(z.c, k.os.length)]) q = some j := hq
    rw [hown] at hp' hq'
    by_cases e1 : p = z.c
    · by_cases e2 : q = z.c
      · rw [e1, e2]
      · rw [if_pos e1] at hp'; rw [if_neg e2] at hq'
        have h1 := h.lt q j hq'
        have := Option.some.inj hp'
        omega
    · by_cases e2 : q = z.c
      · rw [if_neg e1] at hp'; rw [if_pos e2] at hq'
        have h1 := h.lt p j hp'
        have := Option.some.inj hq'
        omega
      · rw [if_neg e1] at hp'; rw [if_neg e2] at hq'
        exact h.inj p q j hp' hq'
  · rcases get_snoc hv with hv | ⟨rfl, rfl⟩
    · have hj := (List.getElem?_eq_some_iff.1 hv).1
      have hne : j ≠ k.os.length := by omega
      rcases get_snoc hz with hz | ⟨e, _⟩
      · rcases get_snoc hu with hu | ⟨e, _⟩
        · exact h.live j v z' u hv hz hu ((hO j hne).1 ho)
        · omega
      · omega
    · rcases get_snoc hz with hz | ⟨_, rfl⟩
      · have := (List.getElem?_eq_some_iff.1 hz).1; omega
      · rcases get_snoc hu with hu | ⟨_, rfl⟩
        · have := (List.getElem?_eq_some_iff.1 hu).1; omega
        · exact h.live i o x y hm.ko hm.sp hm.tab ⟨pid, hm.own⟩
  · rcases get_snoc hv with hv | ⟨rfl, rfl⟩
    · exact h.fit j v hv
    · exact h.fit i o hm.ko
  · have hne : j ≠ k.os.length := fun e => ho ⟨z.c, by show mget (k.ow ++ [(z.c, k.os.length)]) z.c = some j; rw [hown, if_pos rfl, e]⟩
    rcases get_snoc hv with hv | ⟨e, _⟩
    · rcases get_snoc hu with hu | ⟨e, _⟩
      · exact h.dead j v u hv hu (fun h1 => ho ((hO j hne).2 h1))
      · omega
    · omega
  · have hq' : mget (k.ow ++ [(z.c, k.os.length)]) q = some j := hq
    rw [hown] at hq'
    unfold forkK
    simp only [List.length_append, List.length_singleton]
    split at hq'
    · have := Option.some.inj hq'; omega
    · have := h.lt q j hq'; omega
theorem keysK_new {os : List KO} {ow : List (Int × Nat)} (h : ∀ t ∈ ow, ∃ o, os[t.2]? = some o) (p : KO) {c : Int} (hn : mget ow c = none) : keysK (os ++ [p]) (ow ++ [(c, os.length)]) = mput (keysK os ow) c p.ob := by
  have e : mget (keysK os ow) c = none := by rw [mget_keysK, hn]; rfl
  rw [mput_new e]
  have h1 := keysK_more h p
  unfold keysK at h1 ⊢
  rw [List.map_append, h1]
  have h2 : obOf (os ++ [p]) os.length = p.ob := by unfold obOf; rw [List.getElem?_append_right (Nat.le_refl _)]; simp
  simp [h2]
/-! ### the walk -/
def ForkTo (W : World) (a : KA) (k : KS) (pid : Int) (o : KO) (x : Spc) (y : Nat × PTab) (e : Ending) (w' : World) : Prop :=
  (24 ≤ k.pl.length ∧ e = .returned (.tuple #[.int .i64 0, .iface 36 (.int .i64 12)]) ∧ KIs W w' a k) ∨
  (k.pl.length < 24 ∧ ∃ (b : Nat) (z : ForkNew), mget k.pl pid = some b ∧ ForkC k z.c ∧ (∀ t ∈ k.pl, t.2 ≠ z.nb) ∧ e = .returned (.tuple #[.int .i64 z.c, .nilIface]) ∧ KIs W w' a (forkK k pid o x y b z) ∧ KOk (forkK k pid o x y b z))
set_option maxRecDepth 100000 in
theorem kfork_full (h : KIn W w a k C) (hok : KOk k) (hm : Mine k pid i o x y) (hl : 24 ≤ k.pl.length) :
    Calls Tryz.prog 14 #[.pointer (some ⟨a.kb, 0, none⟩), .int .i64 pid] w (ForkTo W a k pid o x y) := by
  have HW := hid (who_yes h hok hm.own hm.ko)
  have HP := hid (fork_full h.pr pid ((hok.run pid).2 (by rw [hm.own]; rfl)) hl)
  have c3 := h.c3
  have H := hid h
  have HL := hid hl
  clear h hok hm hl
  unfold ForkTo
  go_enter Tryz.func14, Tryz.ntmps14
  go_wp2_with fail
  refine HW.out.mono ?_
  rintro e w1 ⟨rfl, hw⟩; subst w1
  go_wp2_with fail
  refine HP.out.mono ?_
  rintro e w2 ⟨rfl, rfl⟩
  go_wp2_with fail
  go_returns
  exact .inl ⟨HL.out, rfl, C, H.out⟩
theorem KIn.lcells (h : LedgerIs w r u m) : w.cell? ⟨r, 0, none⟩ = some (.int .i64 (u 0)) ∧ w.cell? ⟨r, 1, none⟩ = some (.int .i64 (u 1)) ∧ w.cell? ⟨r, 2, none⟩ = some (.int .i64 (u 2)) ∧ w.cell? ⟨r, 3, none⟩ = some (.int .i64 (m 0)) ∧ w.cell? ⟨r, 4, none⟩ = some (.int .i64 (m 1)) ∧ w.cell? ⟨r, 5, none⟩ = some (.int .i64 (m 2)) :=
  ⟨h.cu 0 (by decide), h.cu 1 (by decide), h.cu 2 (by decide), h.cm 0 (by decide), h.cm 1 (by decide), h.cm 2 (by decide)⟩
theorem ledger_copy (w : World) (u m : Nat → Int) (t : TypeId) : LedgerIs (w.alloc (.cells #[.int .i64 (u 0), .int .i64 (u 1), .int .i64 (u 2), .int .i64 (m 0), .int .i64 (m 1), .int .i64 (m 2)] t)) w.heap.size u m := by
  refine ⟨fun j hj => ?_, fun j hj => ?_, fun j => by simp⟩ <;> (match j with
    | 0 => simp
    | 1 => simp
    | 2 => simp
    | j + 3 => exact absurd hj (by omega))
set_option maxHeartbeats 4000000 in
set_option maxRecDepth 100000 in
theorem kfork_runs (h : KIn W w a k C) (hok : KOk k) (hm : Mine k pid i o x y) (hl : k.pl.length < 24) (hlen : k.os.length < 100) :
    Calls Tryz.prog 14 #[.pointer (some ⟨a.kb, 0, none⟩), .int .i64 pid] w (ForkTo W a k pid o x y) := by
  have HW := hid (who_yes h hok hm.own hm.ko)
  have hr : RunsIn k.pl k.pf pid := (hok.run pid).2 (by rw [hm.own]; rfl)
  obtain ⟨b, hb⟩ := runs_block hr
  have HP := hid (fork_runs h.pr pid b hr hb hl)
  unfold Forked at HP
  have c3 := h.c3
  have H := hid h
  have HOk := hid hok
  have HM := hid hm
  have HB := hid hb
  have HL := hid hl
  have HLen := hid hlen
  clear h hok hm hl hlen hr hb
  unfold ForkTo
  go_enter Tryz.func14, Tryz.ntmps14
  go_wp2_with fail
  refine HW.out.mono ?_
  rintro e w1 ⟨rfl, hw⟩; subst w1
  go_wp2_with fail
  refine HP.out.mono ?_
  rintro e w2 ⟨c, nb, c1, c24, hn, hls, rfl, hnb, hT, t2⟩
  have hnb2 : ∀ t ∈ k.pl, t.2 ≠ nb := fun t ht e => by have := (H.out.pr.pr t ht).lt; omega
  obtain ⟨C2, hK2, o2⟩ : ∃ C2, KIn W w2 a { k with pl := k.pl ++ [((c : Int), nb)], pf := updPr k.pf nb ⟨pid, 1, 0, 0, (k.pf b).ignores⟩ } C2 ∧ Own7 C C2 w w2 := ⟨_, H.out.prStepC hT (t2.mono (fun _ _ e => .inr (.inl e))) (fun j hj => by
    rcases hj with e | e | hj
    · exact .inl (.inl e)
    · exact .inl (.inr (.inl e))
    · rw [List.map_append, List.mem_append] at hj
      rcases hj with hj | hj
      · exact .inl (.inr (.inr hj))
      · simp at hj; exact .inr (by omega))⟩
  have HC := hid (show ForkC k c from ⟨by omega, by omega, hn, hls⟩)
  have HNb := hid hnb2
  obtain ⟨hO, hL⟩ := hK2.at_ (pid := pid) (i := i) (o := o) (x := x) (y := y) ⟨HM.out.own, HM.out.ko, HM.out.sp, HM.out.tab⟩
  obtain ⟨l0, l1, l2, l3, l4, l5⟩ := KIn.lcells hL
  have q2 := hO.c2
  have HK2 := hid hK2
  have HO2 := hid hO
  clear hT t2 hn hls hnb hnb2 o2 hK2 hO hL c3 c1 c24
  go_wp2_with fail
  have hL3 := ledger_copy w2 o.u o.m 104
  have t3 : Turn (fun _ => False) w2 (w2.alloc (.cells #[.int .i64 (o.u 0), .int .i64 (o.u 1), .int .i64 (o.u 2), .int .i64 (o.m 0), .int .i64 (o.m 1), .int .i64 (o.m 2)] 104)) := (Turn.refl _ _).alloc _
  have hsz : (w2.alloc (.cells #[.int .i64 (o.u 0), .int .i64 (o.u 1), .int .i64 (o.u 2), .int .i64 (o.m 0), .int .i64 (o.m 1), .int .i64 (o.m 2)] 104)).heap.size = w2.heap.size + 1 := World.size_alloc _ _
  generalize hw3 : w2.alloc (.cells #[.int .i64 (o.u 0), .int .i64 (o.u 1), .int .i64 (o.u 2), .int .i64 (o.m 0), .int .i64 (o.m 1), .int .i64 (o.m 2)] 104) = w3 at hL3 t3 hsz ⊢
  clear hw3
  obtain ⟨lb, hlb⟩ : ∃ lb, w2.heap.size = lb := ⟨_, rfl⟩
  have hK3 := HK2.out.marked t3 (fun j => j = lb) (fun j hj => ⟨by omega, by omega⟩)
  rw [hlb] at hL3 ⊢
  obtain ⟨C3, hC3⟩ : ∃ C3, C3 = markF C2 (fun j => j = lb) (7, 0) := ⟨_, rfl⟩
  rw [← hC3] at hK3
  have hC3b : C3 lb = (7, 0) := by rw [hC3]; exact markF_in rfl
  have hm3 : Mine { k with pl := k.pl ++ [((c : Int), nb)], pf := updPr k.pf nb ⟨pid, 1, 0, 0, (k.pf b).ignores⟩ } pid i o x y := ⟨HM.out.own, HM.out.ko, HM.out.sp, HM.out.tab⟩
  have hK3d := hK3.drewS
  have hL3d := hL3.turned ((Turn.refl (fun _ => False) w3).drew) id
  have hO3 := (hK3d.at_ hm3).1
  have k0 := hO3.c0
  have k1 := hO3.c1
  have k3 := hO3.c3
  have k4 := hK3d.c4
  have k2 := hK3d.c2
  have hone := hK3d.vm.at hm3.sp
  have hvf := vmFork_is hone.store hone.space hone.off (fun f hf => by have := hone.refs f hf; omega) (R_small hK3d.vm (by have := HOk.out.len; show k.l.length ≤ 100; omega))
  unfold ForkIs at hvf
  have HVf := hid hvf
  have HK3 := hid hK3d
  have HL3 := hid hL3d
  have HC3 := hid hC3b
  have HM3 := hid hm3
  clear hL3 t3 hsz hK3 hC3 hC3b hm3 hK3d hL3d hO3 hone hvf l0 l1 l2 l3 l4 l5 q2 HK2 HO2 hlb
  go_region_held3 (fun w' => w'.cell? ⟨o.ob, 0, none⟩ = some (.pointer (some ⟨x.sp, 0, none⟩)) ∧ w'.cell? ⟨o.ob, 1, none⟩ = some (.pointer (some ⟨y.1, 0, none⟩)) ∧ w'.cell? ⟨o.ob, 3, none⟩ = some (.int .i64 o.adj) ∧ w'.cell? ⟨a.kb, 4, none⟩ = some (.map (some a.om)) ∧ w'.cell? ⟨a.kb, 2, none⟩ = some (.pointer (some ⟨a.fb, 0, none⟩)))
    (first | exact ⟨k0, k1, k3, k4, k2⟩ | exact ⟨k04, k14, k34, k44, k24⟩ | exact ⟨k05, k15, k35, k45, k25⟩ | exact ⟨k07, k17, k37, k47, k27⟩ | go_keep)
    (first
      | (go_at_call 57; refine HVf.out.mono ?_; rintro e w4 ⟨sp2, pm2, rl, rfl, hS4, hA4, hR4, h41, h42⟩
         have hAA := HK3.out.vm.forked HM3.out.sp hS4 hA4 hR4 h41 h42
         obtain ⟨C4, hK4, o4⟩ : ∃ C4, KIn W w4 a { k with pl := k.pl ++ [((c : Int), nb)], pf := updPr k.pf nb ⟨pid, 1, 0, 0, (k.pf b).ignores⟩, t := { k.t with rl := rl }, l := k.l ++ [⟨sp2, pm2, x.P⟩] } C4 ∧ Own7 C3 C4 w3.drew w4 := ⟨_, HK3.out.vmStepC hAA (fun j z hz => ⟨z, by rw [List.getElem?_append_left (List.getElem?_eq_some_iff.1 hz).1]; exact hz, rfl⟩)⟩
         have HL4 := hid (HL3.out.turned o4.2 (fun e => e HC3.out))
         have HC4 := hid (o4.1 _ HC3.out)
         have hm4 : Mine { k with pl := k.pl ++ [((c : Int), nb)], pf := updPr k.pf nb ⟨pid, 1, 0, 0, (k.pf b).ignores⟩, t := { k.t with rl := rl }, l := k.l ++ [⟨sp2, pm2, x.P⟩] } pid i o x y := ⟨HM.out.own, HM.out.ko, by show (k.l ++ _)[i]? = some x; rw [List.getElem?_append_left (List.getElem?_eq_some_iff.1 HM.out.sp).1]; exact HM.out.sp, HM.out.tab⟩
         have HM4 := hid hm4
         have hO4 := (hK4.at_ hm4).1
         have k04 := hO4.c0
         have k14 := hO4.c1
         have k34 := hO4.c3
         have k44 := hK4.c4
         have k24 := hK4.c2
         have HFf := hid (law_fork hK4.desc HM.out.tab (HOk.out.there HM.out) (HOk.out.joint.bound HOk.out.dok (by have := HOk.out.len; omega)))
         have HK4 := hid hK4
         clear hS4 hA4 hR4 h41 h42 hAA o4 hm4 hO4 hK4)
      | (go_at_call 58; refine HFf.out.mono ?_; rintro e w5 ⟨ub, rfl, hd5⟩
         have hK5 := HK4.out.descStepC hd5 (fun j z hz => ⟨z, by rw [List.getElem?_append_left (List.getElem?_eq_some_iff.1 hz).1]; exact hz, rfl⟩)
         have hL5 := HL4.out.turned (own7_desc hd5).2 (fun e => e HC4.out)
         have hO5 := (hK5.at_ (pid := pid) (i := i) (o := o) (x := x) (y := y) ⟨HM.out.own, HM.out.ko, HM4.out.sp, by show (k.ts ++ _)[i]? = some y; rw [List.getElem?_append_left (List.getElem?_eq_some_iff.1 HM.out.tab).1]; exact HM.out.tab⟩).1
         have k05 := hO5.c0
         have k15 := hO5.c1
         have k35 := hO5.c3
         have k45 := hK5.c4
         have k25 := hK5.c2
         have t6 : Turn (fun _ => False) w5 (w5.alloc (.cells #[.pointer (some ⟨sp2, 0, none⟩), .pointer (some ⟨ub, 0, none⟩), .pointer (some ⟨lb, 0, none⟩), .int .i64 o.adj] 115)) := (Turn.refl _ _).alloc _
         have hO6 : OwnAt (w5.alloc (.cells #[.pointer (some ⟨sp2, 0, none⟩), .pointer (some ⟨ub, 0, none⟩), .pointer (some ⟨lb, 0, none⟩), .int .i64 o.adj] 115)) w5.heap.size sp2 ub lb o.adj := ⟨by simp, by simp, by simp, by simp, fun q => by simp⟩
         obtain ⟨hl1, hl2, hl3⟩ := HOk.out.len
         obtain ⟨C6, hK6⟩ := hK5.more7 (x := ⟨sp2, pm2, x.P⟩) (y := (ub, y.2)) (p := ⟨w5.heap.size, lb, o.u, o.m, o.adj⟩) (by show (k.l ++ [⟨sp2, pm2, x.P⟩])[k.os.length]? = _; rw [← hl1]; simp) (by show (k.ts ++ [(ub, y.2)])[k.os.length]? = _; rw [← hl2]; simp) t6 ⟨Nat.le_refl _, by simp⟩ HC4.out hO6 (hL5.turned t6 id)
         obtain ⟨w7, hrun, hm7, t7⟩ := hK6.mp.run_update (P := Tryz.prog) keyI Tryz.underlying116 Tryz.underlying3 (c : Int) w5.heap.size
         have hrn : (Instr.mapUpdate 116 (.map (some a.om)) (.int .i64 (c : Int)) (.pointer (some ⟨w5.heap.size, 0, none⟩))).run Tryz.prog (w5.alloc (.cells #[.pointer (some ⟨sp2, 0, none⟩), .pointer (some ⟨ub, 0, none⟩), .pointer (some ⟨lb, 0, none⟩), .int .i64 o.adj] 115)) = .ok () w7 := hrun
         have hno := HOk.out.no_own HC.out.2.2.1
         have hm8 : MapIs w7 a.om (.int .i64) encI ptr (keysK (k.os ++ [⟨w5.heap.size, lb, o.u, o.m, o.adj⟩]) (k.ow ++ [((c : Int), k.os.length)])) := by
           rw [keysK_new hK5.has _ hno]
           rw [show keysK (k.os ++ [⟨w5.heap.size, lb, o.u, o.m, o.adj⟩]) k.ow = keysK k.os k.ow from keysK_more hK5.has _] at hm7
           exact hm7
         have hK7 := hK6.owns (ow' := k.ow ++ [((c : Int), k.os.length)]) hm8 (fun t ht => by
           rcases List.mem_append.1 ht with ht | ht
           · exact hK6.has t ht
           · rw [List.mem_singleton.1 ht]
             exact ⟨⟨w5.heap.size, lb, o.u, o.m, o.adj⟩, by show (k.os ++ [_])[k.os.length]? = _; simp⟩) t7
         have HK7 := hid (show KIs W w7 a (forkK k pid o x y b ⟨c, nb, sp2, pm2, ub, w5.heap.size, lb, rl⟩) from hK7)
         obtain ⟨C7, hI7⟩ := hK7
         have hne : pid ≠ (c : Int) := fun e => by rw [← e, HM.out.own] at hno; cases hno
         have hO7 := (hI7.at_ (pid := pid) (i := i) (o := o) (x := x) (y := y) ⟨by show mget (k.ow ++ [((c : Int), k.os.length)]) pid = some i; rw [mget_snoc hno, if_neg hne]; exact HM.out.own, by show (k.os ++ _)[i]? = some o; rw [List.getElem?_append_left (List.getElem?_eq_some_iff.1 HM.out.ko).1]; exact HM.out.ko, HM4.out.sp, by show (k.ts ++ _)[i]? = some y; rw [List.getElem?_append_left (List.getElem?_eq_some_iff.1 HM.out.tab).1]; exact HM.out.tab⟩).1
         have k07 := hO7.c0
         have k17 := hO7.c1
         have k37 := hO7.c3
         have k47 := hI7.c4
         have k27 := hI7.c2
         clear hrun hd5 hK5 hL5 hO5 t6 hO6 hl1 hl2 hl3 hK6 hm7 t7 hno hm8 hne hI7 hO7))
  all_goals go_wp2_with fail
  all_goals go_returns
  all_goals exact .inr ⟨HL.out, b, ⟨c, nb, sp2, pm2, ub, w5.heap.size, lb, rl⟩, HB.out, HC.out, HNb.out, rfl, HK7.out, HOk.out.forked HM.out HB.out HC.out HNb.out HL.out HLen.out⟩
theorem kfork_yes (h : KIn W w a k C) (hok : KOk k) (hm : Mine k pid i o x y) (hlen : k.os.length < 100) :
    Calls Tryz.prog 14 #[.pointer (some ⟨a.kb, 0, none⟩), .int .i64 pid] w (ForkTo W a k pid o x y) := by
  by_cases hl : k.pl.length < 24
  · exact kfork_runs h hok hm hl hlen
  · exact kfork_full h hok hm (by omega)
end
end Go.Proofs.YtamleilijmgoeaaGreatDoor
namespace Go.Proofs.YtamleilijmgoeaaGreatDoor
open Go.RowKit
set_option linter.unusedVariables false
section
variable {W w w' w1 : World} {a : KA} {k : KS} {C C' : Nat → Nat × Nat} {pid : Int} {i j : Nat} {o o' : KO} {x : Spc} {y : Nat × PTab}
/-! ### candidates, plain -/
def candOf (k : KS) (p : Int) : Option Cd := if p = 1 then none else (mget k.ow p).bind fun i => (k.os[i]?).bind fun o => (k.l[i]?).map fun x => (p, (resP x.P : Int), o.adj)
def candsTo (k : KS) (j : Nat) : List Cd := ((pidsOf k.pl).take j).filterMap (candOf k)
def candsK (k : KS) : List Cd := (pidsOf k.pl).filterMap (candOf k)
theorem candsTo_step {p : Int} (hj : (pidsOf k.pl)[j]? = some p) : candsTo k (j + 1) = candsTo k j ++ (candOf k p).toList := by
 unfold candsTo
 rw [List.take_add_one, hj, List.filterMap_append]
 cases h : candOf k p <;> simp [h]
theorem candsTo_all : candsTo k (pidsOf k.pl).length = candsK k := by unfold candsTo candsK; rw [List.take_length]
theorem candOf_none {p : Int} (h : mget k.ow p = none) : candOf k p = none := by
 unfold candOf
 rw [h]
 split <;> rfl
theorem candOf_one : candOf k 1 = none := if_pos rfl
theorem candOf_some {p : Int} (h1 : p ≠ 1) (hm : Mine k p i o x y) : candOf k p = some (p, (resP x.P : Int), o.adj) := by
 unfold candOf
 rw [if_neg h1, hm.own, Option.bind_some, hm.ko, Option.bind_some, hm.sp]; rfl
theorem candOf_is {p : Int} {c : Cd} (h : candOf k p = some c) : p ≠ 1 ∧ c.1 = p ∧ ∃ i o x, mget k.ow p = some i ∧ k.os[i]? = some o ∧ k.l[i]? = some x ∧ c = (p, (resP x.P : Int), o.adj) := by
 unfold candOf at h
 split at h
 ·cases h
 ·rename_i h1
  cases hi : mget k.ow p with
  | none => rw [hi] at h; cases h
  | some i =>
   rw [hi, Option.bind_some] at h
   cases ho : k.os[i]? with
   | none => rw [ho] at h; cases h
   | some o =>
    rw [ho, Option.bind_some] at h
    cases hx : k.l[i]? with
    | none => rw [hx] at h; cases h
    | some x =>
     rw [hx] at h
     cases h
     exact ⟨h1, rfl, i, o, x, rfl, ho, hx, rfl⟩
theorem kBest_mem : ∀ (l : List Cd) (m : Cd), oBest m l ∈ m :: l
 | [], m => List.mem_singleton.2 rfl
 | c :: l, m => by
  have h := kBest_mem l (if 0 < cdCmp c m then c else m)
  have e : oBest m (c :: l) = oBest (if 0 < cdCmp c m then c else m) l := rfl
  rw [e]
  rcases List.mem_cons.1 h with h | h
  ·rw [h]
   split
   ·simp
   ·simp
  ·exact List.mem_cons_of_mem _ (List.mem_cons_of_mem _ h)
theorem kscore_pos {r a : Int} (h : oScore r a ≠ 0) : 0 < r := by
 by_cases hr : 0 < r
 ·exact hr
 ·refine absurd ?_ h
  unfold oScore
  have e : min (max r 0) 1000 = 0 := by omega
  rw [e, Int.zero_mul]; rfl
theorem victim_is {l : List Cd} {v : Int} (h : oVictim l = (v, true)) : ∃ c ∈ l, c.1 = v ∧ 0 < c.2.1 := by
 cases l with
 | nil => cases h
 | cons m l =>
  have h' : (if oScore (oBest m l).2.1 (oBest m l).2.2 = 0 then ((0 : Int), false) else ((oBest m l).1, true)) = (v, true) := h
  by_cases hs : oScore (oBest m l).2.1 (oBest m l).2.2 = 0
  ·rw [if_pos hs] at h'; cases h'
  ·rw [if_neg hs] at h'
   exact ⟨oBest m l, kBest_mem l m, congrArg Prod.fst h', kscore_pos hs⟩
theorem KIn.victim (h : KIn W w a k C) {v : Int} (hv : oVictim (candsK k) = (v, true)) : v ≠ 1 ∧ ∃ i o x y, Mine k v i o x y ∧ 0 < resP x.P := by
 obtain ⟨c, hc, e, hp⟩ := victim_is hv
 unfold candsK at hc
 obtain ⟨p, _, hp2⟩ := List.mem_filterMap.1 hc
 obtain ⟨h1, e2, i, o, x, hi, ho, hx, rfl⟩ := candOf_is hp2
 have e3 : p = v := e2.symm.trans e
 subst e3
 obtain ⟨x', y, hx', hy, _⟩ := h.own i o ho
 rw [hx] at hx'
 cases hx'
 exact ⟨h1, i, o, x, y, ⟨hi, ho, hx, hy⟩, by simpa using hp⟩
/-! ### a row of candidates -/
def kcCells (l : List Cd) : List Value := l.flatMap fun c => [.int .i64 c.1, .int .i64 c.2.1, .int .i64 c.2.2]
theorem kcCells_snoc (l : List Cd) (c : Cd) : kcCells (l ++ [c]) = kcCells l ++ [.int .i64 c.1, .int .i64 c.2.1, .int .i64 c.2.2] := by simp [kcCells]
theorem kcCells_at (l : List Cd) (i : Nat) (c : Cd) (h : l[i]? = some c) : (kcCells l)[i * 3]? = some (.int .i64 c.1) ∧ (kcCells l)[i * 3 + 1]? = some (.int .i64 c.2.1) ∧ (kcCells l)[i * 3 + 2]? = some (.int .i64 c.2.2) := by
 induction l generalizing i with
 | nil => simp at h
 | cons d l ih =>
  cases i with
  | zero => simp at h; subst h; exact ⟨rfl, rfl, rfl⟩
  | succ i =>
   have := ih i (by simpa using h)
   have e : ∀ k, (kcCells (d :: l))[(i + 1) * 3 + k]? = (kcCells l)[i * 3 + k]? := fun k => by
    show ([Value.int .i64 d.1, Value.int .i64 d.2.1, Value.int .i64 d.2.2] ++ kcCells l)[(i + 1) * 3 + k]? = _
    rw [List.getElem?_append_right (by simp; omega)]
    congr 1
    simp; omega
   exact ⟨(e 0).trans this.1, (e 1).trans this.2.1, (e 2).trans this.2.2⟩
def CandRow (w : World) (v : Value) (l : List Cd) : Prop := w.ownsRow 0 278 3 v l.length (kcCells l)
theorem CandRow.empty (w : World) : CandRow w (.slice none 0 0) [] := World.ownsRow_nil _ _ _ _
theorem CandRow.shape {v : Value} {l : List Cd} (h : CandRow w v l) : (v = .slice none 0 0 ∧ l = []) ∨ ∃ g cap, v = .slice (some ⟨g, 0, none⟩) l.length cap ∧ g < w.heap.size ∧ CandsAt w g 0 l := by
 have h' := h
 obtain ⟨_, h0 | ⟨g, cap, cur, rfl, _, hg, h1, h2, _⟩⟩ := h
 ·exact .inl ⟨h0.1, List.length_eq_zero_iff.1 h0.2⟩
 ·refine .inr ⟨g, cap, rfl, (Array.getElem?_eq_some_iff.1 hg).1, fun i c hc => ?_⟩
  have hi : i < l.length := (List.getElem?_eq_some_iff.1 hc).1
  obtain ⟨a0, a1, a2⟩ := kcCells_at l i c hc
  exact ⟨by rw [Nat.zero_add, World.ownsRow.cellAt h' _ (by omega)]; exact a0, by rw [Nat.zero_add, World.ownsRow.cellAt h' _ (by omega)]; exact a1, by rw [Nat.zero_add, World.ownsRow.cellAt h' _ (by omega)]; exact a2⟩
theorem CandRow.turned {S : Nat → Prop} {v : Value} {l : List Cd} (h : CandRow w v l) (t : Turn S w w') (hn : ∀ g, v.ownBlock = some g → ¬ S g) : CandRow w' v l := by
 refine ⟨h.1, ?_⟩
 rcases h.2 with h0 | ⟨g, cap, cur, rfl, hb, hg, r⟩
 ·exact .inl h0
 ·exact .inr ⟨g, cap, cur, rfl, hb, (t.block g (Array.getElem?_eq_some_iff.1 hg).1 (hn g rfl)).trans hg, r⟩
theorem kinfo_cand : (Tryz.prog.info? 278).map (fun i => (i.zero, i.size, i.bytes)) = some (some (.agg #[.int .i64 0, .int .i64 0, .int .i64 0]), 3, 24) := by kernel_rfl
theorem step_append_kc {ops : Array Oper} {o : Oper} {a : Act} {w : World} {K : Act → World → Prop} {Q : Exit → Act → World → Prop} {E : Prop}
  (hg : o.guard = none) (s x : Operand) (hop : o.op = Op.call { callee := Callee.builtin Builtin.append, args := #[s, x], argTypes := #[142, 142] })
  (v : Value) (l : List Cd) (hs : a.eval s = v) (hi : CandRow w v l) (b c : Nat) (y : Cd) (hx : a.eval x = .slice (some ⟨b, 0, none⟩) 1 c) (h0 : w.cell? ⟨b, 0, none⟩ = some (.int .i64 y.1)) (h1 : w.cell? ⟨b, 1, none⟩ = some (.int .i64 y.2.1)) (h2 : w.cell? ⟨b, 2, none⟩ = some (.int .i64 y.2.2)) (hl : l.length ≤ 1000000)
  (hK : ∀ g cap w', CandRow w' (.slice (some ⟨g, 0, none⟩) (l.length + 1) cap) (l ++ [y]) → Turn (fun j => v.ownBlock = some j) w w' → (v.ownBlock = some g ∨ w.heap.size ≤ g) → K (a.put o.dst (.slice (some ⟨g, 0, none⟩) (l.length + 1) cap)) w') :
  if Region.wanted o (yielded ops a.tmps) = true then Oper.wp Tryz.prog o a w K Q else E := by
 obtain ⟨i0, hi0, hz0, hz1, hz2⟩ := info_split kinfo_cand
 refine step_append_at hg s x 142 hop 278 i0 (.agg #[.int .i64 0, .int .i64 0, .int .i64 0]) 3 24 Tryz.underlying142 hi0 hz0 hz1 hz2 rfl (by decide) v l.length _ hs hi ⟨b, 0, none⟩ 1 c [.int .i64 y.1, .int .i64 y.2.1, .int .i64 y.2.2] hx rfl ?_ ?_ (.inl (by decide)) (by unfold maxLen; omega) (by omega) ?_
 ·intro j u hj
  rw [Addr.add_mid]
  match j with
  | 0 => simp at hj; subst hj; exact h0
  | 1 => simp at hj; subst hj; exact h1
  | 2 => simp at hj; subst hj; exact h2
  | j + 3 => simp at hj
 ·intro u hu
  simp at hu
  rcases hu with rfl | rfl | rfl <;> rfl
 ·intro g cap w' h1 h2 h3
  refine hK g cap w' ?_ h2 h3
  unfold CandRow
  rw [List.length_append, List.length_singleton, kcCells_snoc]
  exact h1
theorem victim_row (v : Value) (l : List Cd) (hr : CandRow w v l) (hl : l.length ≤ 1000) :
  Calls Tryz.prog 81 #[v] w fun e w' => e = .returned (.tuple #[.int .i64 (oVictim l).1, .bool (oVictim l).2]) ∧ Turn (fun _ => False) w w' := by
 rcases hr.shape with ⟨rfl, rfl⟩ | ⟨g, cap, rfl, hg, hc⟩
 ·refine (victim_none none 0 w).mono ?_
  rintro e w' ⟨rfl, rfl⟩
  exact ⟨rfl, Turn.refl _ _⟩
 ·cases l with
  | nil =>
   refine (victim_none (some ⟨g, 0, none⟩) cap w).mono ?_
   rintro e w' ⟨rfl, rfl⟩
   exact ⟨rfl, Turn.refl _ _⟩
  | cons c l => exact victim_some g 0 cap c l w hc (by simp at hl; omega) hg
/-! ### cands -/
theorem KIn.look_no (h : KIn W w a k C) (hi : mget k.ow pid = none) : (Instr.lookup 116 (.map (some a.om)) (.int .i64 pid) false).run Tryz.prog w = .ok (.pointer none) w := by
 have h1 := h.mp.run_lookup (P := Tryz.prog) keyI Tryz.underlying116 Tryz.underlying3 (zeroOwn w) pid false
 rw [mget_keysK, hi] at h1
 exact h1
theorem len_pids (pl : List (Int × Nat)) : (pidsOf pl).length = pl.length := by unfold pidsOf; rw [List.length_mergeSort, List.length_map]
theorem kpids_row (h : KIn W w a k C) (hok : KOk k) : Calls Tryz.prog 25 #[.pointer (some ⟨a.kb, 0, none⟩)] w fun e w' => ∃ g cap, e = .returned (.slice (some ⟨g, 0, none⟩) (pidsOf k.pl).length cap) ∧ IntsAt w' (.slice (some ⟨g, 0, none⟩) (pidsOf k.pl).length cap) (pidsOf k.pl) ∧ w.heap.size ≤ g ∧ Turn (fun _ => False) w w' := by
 refine (kpids_is h hok).mono ?_
 rintro e w' ⟨v, rfl, hr, t⟩
 have hI : IntsAt w' v (pidsOf k.pl) := by
  unfold IntsAt
  rw [len_pids]
  exact ownsRow_base_a hr (Nat.zero_le _)
 have hb := fun g => ownBlock_ge hr (k := g)
 rcases hI.shape with ⟨_, h0⟩ | ⟨g, cap, rfl, _⟩
 ·exfalso
  obtain ⟨b, h1, _⟩ := hok.kin.one
  have h2 := len_pids k.pl
  rw [h0] at h2
  have h3 : k.pl = [] := List.length_eq_zero_iff.1 h2.symm
  rw [h3] at h1
  cases h1
 ·exact ⟨g, cap, rfl, hI, hb g rfl, t⟩
theorem kin_len (hok : KOk k) : (pidsOf k.pl).length ≤ 24 := by rw [len_pids]; exact hok.kin.len
set_option maxHeartbeats 4000000 in
set_option maxRecDepth 100000 in
theorem kcands_is (h : KIn W w a k C) (hok : KOk k) : Calls Tryz.prog 82 #[.pointer (some ⟨a.kb, 0, none⟩)] w fun e w' => ∃ v, e = .returned v ∧ CandRow w' v (candsK k) ∧ Turn (fun _ => False) w w' := by
 have HP := hid (kpids_row h hok)
 have HLn := hid (kin_len hok)
 have H := hid h
 have HOk := hid hok
 clear h hok
 go_enter Tryz.func82, Tryz.ntmps82
 go_wp2_with fail
 refine HP.out.mono ?_
 rintro e w1 ⟨g8, c8, rfl, hI, hg8, t1⟩
 have HI := hid hI
 have HT1 := hid t1
 clear hI t1 hg8
 go_wp2_with fail
 obtain ⟨N, hN⟩ : ∃ N, (pidsOf k.pl).length = N := ⟨_, rfl⟩
 have HN := hid hN
 rw [hN] at HI ⊢
 clear hN
 go_loopg [3, 10] (N) (fun gl v3 ix wr => ∃ j : Nat, j + gl = N ∧ ix = .int .i64 j ∧ Hid (CandRow wr v3 (candsTo k j) ∧ (∀ g, v3.ownBlock = some g → w1.heap.size ≤ g) ∧ Turn (fun _ => False) w1 wr))
 case atStart => exact ⟨0, by omega, rfl, hid ⟨CandRow.empty _, fun g hg => (by cases hg), Turn.refl _ _⟩⟩
 case round =>
  obtain ⟨j, hj, rfl, hS⟩ := hrel
  obtain ⟨hr3, hb3, t3⟩ := hS.out
  have h3 := (H.out.still HT1.out).still t3
  have HR3 := hid hr3
  have HB3 := hid hb3
  have HT3 := hid t3
  have H3 := hid h3
  clear hS hr3 hb3 t3
  by_cases hlt : j < N
  ·have hlt' : (j : Int) < N := by omega
   have hN24 : N ≤ 24 := by have h24 := HLn.out; rw [HN.out] at h24; exact h24
   obtain ⟨p, hp⟩ : ∃ p, (pidsOf k.pl)[j]? = some p := ⟨_, List.getElem?_eq_getElem (by rw [HN.out]; exact hlt)⟩
   have hI3 := HI.out.turned HT3.out (fun _ _ => id)
   rw [← HN.out] at hI3
   have cp := hI3.cell j p hp
   have hst := candsTo_step hp
   have c4 := h3.c4
   cases hi : mget k.ow p with
   | none =>
    have lk := h3.look_no hi
    rw [candOf_none hi] at hst
    have HSt := hid hst
    clear hst h3 hI3 hp hi
    go_wp2_with fail
    go_roundg (gk - 1)
    case measure => omega
    case rel => exact ⟨j + 1, by omega, by go_num, by rw [HSt.out]; simp only [Option.toList_none, List.append_nil]; exact hid ⟨HR3.out, HB3.out, HT3.out⟩⟩
   | some i =>
    obtain ⟨o, x, y, hm⟩ := h3.mine HOk.out hi
    have lk := h3.look hi hm.ko
    by_cases h1 : p = 1
    ·subst h1
     rw [candOf_one] at hst
     have HSt := hid hst
     clear hst h3 hI3 hp hi hm
     go_wp2_with fail
     go_roundg (gk - 1)
     case measure => omega
     case rel => exact ⟨j + 1, by omega, by go_num, by rw [HSt.out]; simp only [Option.toList_none, List.append_nil]; exact hid ⟨HR3.out, HB3.out, HT3.out⟩⟩
    ·rw [candOf_some h1 hm] at hst
     have HSt := hid hst
     have hb1 : (p != 1) = true := by simpa using h1
     have HM := hid hm
     have hO := (h3.drewS.at_ hm).1
     have k0 := hO.c0
     have k3 := hO.c3
     have HRs := hid (vmRes_is (h3.drewS.vm.sps i x hm.sp))
     have HOl := hid (show o.ob < w1.heap.size from Nat.lt_of_lt_of_le (H.out.at_ hm).1.lt HT1.out.size)
     have HLc := hid (show (candsTo k j).length ≤ 1000000 from by
      have h5 : (candsTo k j).length ≤ ((pidsOf k.pl).take j).length := List.length_filterMap_le _ _
      rw [List.length_take] at h5; omega)
     clear hst h3 hI3 hp hi hm hO h1
     go_wp2_with fail
     go_region_held3 (fun w' => w'.cell? ⟨o.ob, 0, none⟩ = some (.pointer (some ⟨x.sp, 0, none⟩)) ∧ w'.cell? ⟨o.ob, 3, none⟩ = some (.int .i64 o.adj))
      (first | exact ⟨k0, k3⟩ | exact ⟨k06, k36⟩ | exact ⟨k08, k38⟩ | go_keep)
      (first
       | (go_at_call 77; refine HRs.out.mono ?_; rintro e w6 ⟨rfl, t6⟩; have HT6 := hid (HT3.out.trans ((Turn.refl _ _).drew.trans t6)); have HR6 := hid ((HR3.out.turned ((Turn.refl (fun _ => False) _).drew.trans t6) (fun _ _ => id))); have k06 := (t6.cell (lt_of_cell k0) id).trans k0; have k36 := (t6.cell (lt_of_cell k3) id).trans k3; clear t6)
       | (refine step_append_kc rfl _ _ rfl u3 (candsTo k j) rfl ?_ _ _ (p, (resP x.P : Int), o.adj) rfl ?_ ?_ ?_ ?_ ?_; (exact HR6.out.turned ((Turn.refl (fun _ => False) _).alloc _) (fun _ _ => id)); (focus (simp; done)); (focus (simp; done)); (focus (simp; done)); (exact HLc.out); intro g3 z3 w8 hi8 t8 ho8; have HI8 := hid hi8; have HT8 := hid (HT6.out.trans' ((((Turn.refl (fun _ => False) _).alloc _).mono (fun _ _ h => h.elim)).trans t8) (fun q hq e => by have := HB3.out q e; omega)); have HO8 := hid ho8; have k08 := (t8.cell (a := ⟨o.ob, 0, none⟩) (Nat.lt_of_lt_of_le (lt_of_cell k06) ((Turn.refl (fun _ => False) _).alloc _).size) (fun e => Nat.not_lt.2 (HB3.out o.ob e) HOl.out)).trans ((((Turn.refl (fun _ => False) _).alloc _).cell (lt_of_cell k06) id).trans k06); have k38 := (t8.cell (a := ⟨o.ob, 3, none⟩) (Nat.lt_of_lt_of_le (lt_of_cell k36) ((Turn.refl (fun _ => False) _).alloc _).size) (fun e => Nat.not_lt.2 (HB3.out o.ob e) HOl.out)).trans ((((Turn.refl (fun _ => False) _).alloc _).cell (lt_of_cell k36) id).trans k36); clear hi8 t8 ho8))
     all_goals go_wp2_with fail
     all_goals
      go_roundg (gk - 1)
      case measure => omega
      case rel =>
       refine ⟨j + 1, by omega, by go_num, ?_⟩
       rw [HSt.out]
       refine hid ⟨HI8.out, fun q hq => ?_, HT8.out⟩
       have hqq : q = g3 := (Option.some.inj hq).symm
       subst hqq
       rcases HO8.out with e | e
       ·exact HB3.out _ e
       ·have := HT6.out.size
        have := ((Turn.refl (fun _ => False) w6).alloc (.cells #[] 0)).size
        simp at e
        omega
  ·have hj' : j = N := by omega
   subst hj'
   clear h3
   go_wp2_with fail
   go_returns
   rw [HN.out.symm, candsTo_all] at HR3
   exact ⟨_, rfl, HR3.out, HT1.out.trans HT3.out⟩
end
end Go.Proofs.YtamleilijmgoeaaGreatDoor
namespace Go.Proofs.YtamleilijmgoeaaGreatDoor
open Go.RowKit
set_option linter.unusedVariables false
section
variable {W w w' w1 : World} {a : KA} {k k1 k2 k' : KS} {C C' : Nat → Nat × Nat} {pid v p q : Int} {i j : Nat} {o o' ov : KO} {x xv : Spc} {y yv : Nat × PTab} {go : List Int} {b : Nat} {c : Int} {t' : St}
/-! ### plain -/
def GoneK (a : KA) (k : KS) (v : Int) (k' : KS) : Prop :=
  usedN k.t.R a.n = a.n ∧ oVictim (candsK k) = (v, true) ∧ v ≠ 1 ∧ KOk k' ∧ ∃ i o x y b t', Mine k v i o x y ∧ 0 < resP x.P ∧ t'.m = k.t.m ∧ mget k.pl v = some b ∧ k' = exitK k v i x y b 108 t'
def Went (a : KA) : KS → List Int → KS → Prop
  | k, [], k' => k' = k
  | k, v :: go, k' => ∃ k1, GoneK a k v k1 ∧ Went a k1 go k'
theorem Went.snoc : ∀ {go : List Int} {k k1 k2 : KS}, Went a k go k1 → GoneK a k1 v k2 → Went a k (go ++ [v]) k2
  | [], k, k1, k2, h1, h2 => by
    have e : k1 = k := h1
    subst e
    exact ⟨k2, h2, rfl⟩
  | u :: go, k, k1, k2, h1, h2 => by
    obtain ⟨k3, h3, h4⟩ := h1
    exact ⟨k3, h3, h4.snoc h2⟩
theorem Mine.exitOther (hm : Mine k pid i o x y) (hv : Mine k v j ov xv yv) (hok : KOk k) (hne : v ≠ pid) : Mine (exitK k v j xv yv b c t') pid i o x y := by
  have hj : j ≠ i := fun e => hne (hok.inj v pid i (by rw [← e]; exact hv.own) hm.own)
  refine ⟨?_, hm.ko, ?_, ?_⟩
  · show mget (mdel k.ow v) pid = some i
    rw [mdel_get, if_neg (fun e => hne e.symm)]; exact hm.own
  · show (k.l.set j _)[i]? = _
    rw [List.getElem?_set, if_neg hj]; exact hm.sp
  · show (k.ts.set j _)[i]? = _
    rw [List.getElem?_set, if_neg hj]; exact hm.tab
theorem ow_less (hv : mget k.ow v = some j) : (mdel k.ow v).length < k.ow.length := by
  unfold mdel
  refine List.length_filter_lt_length_iff_exists.2 ⟨(v, j), mem_of_mget hv, ?_⟩
  simp
theorem ow_len (hok : KOk k) : k.ow.length ≤ 64 := by
  have hk : ∀ t ∈ k.ow, 0 ≤ t.1 ∧ t.1 < 64 := fun t ht => by
    have h1 := mget_mem hok.nd (k := t.1) (v := t.2) ht
    have h2 := (hok.run t.1).2 (by rw [h1]; rfl)
    obtain ⟨b, hb⟩ := runs_block h2
    have h3 := hok.kin.rng _ (mem_of_mget hb)
    simp only at h3
    omega
  have h1 := sum_pages (fun o : Option Nat => if o.isSome then 1 else 0) rfl k.ow hok.nd hk
  have h2 : ∀ l : List (Int × Nat), (l.map fun p => if (some p.2).isSome then 1 else 0).sum = l.length := fun l => by
    induction l with
    | nil => rfl
    | cons p l ih => rw [List.map_cons, List.sum_cons, ih, List.length_cons]; simp; omega
  rw [h2] at h1
  rw [h1]
  exact sumN_max (c := fun i => if (mget k.ow (i : Int)).isSome then 1 else 0) (m := 1) (k := 64) (fun i _ => by split <;> omega)
def StoreOn (a : KA) (k : KS) (i : Nat) (x : Spc) (p q v z : Int) (k' : KS) : Prop :=
  (accE x.P p q 2 ≠ 0 ∧ z = accE x.P p q 2 ∧ k' = k) ∨
  (accE x.P p q 2 = 0 ∧ 0 ≤ q ∧ q < 8 ∧ ∃ g, x.P p = some g ∧
    (((0 ≤ g.2 ∧ k.t.R g.2 ≤ 1) ∧ z = 0 ∧ ∃ t', t'.R = k.t.R ∧ t'.m = memSet k.t.m g.2.toNat q.toNat v ∧ k' = { k with t := t' }) ∨
     (¬ (0 ≤ g.2 ∧ k.t.R g.2 ≤ 1) ∧ z = 12 ∧ usedN k.t.R a.n = a.n ∧ k' = k) ∨
     (¬ (0 ≤ g.2 ∧ k.t.R g.2 ≤ 1) ∧ z = 0 ∧ ∃ (f : Int) (t' : St), 0 ≤ f ∧ f < a.n ∧ k.t.R f = 0 ∧ t'.m = newM k.t.m g.2 f q v ∧ k' = { k with t := t', l := k.l.set i ⟨x.sp, x.pm, setP x.P p (some (g.1, f))⟩ })))
theorem accE_ne12 (P : Int → Option Pg) (a wd pr : Int) : accE P a wd pr ≠ 12 ∧ accE P a wd pr ≠ 10 := by
  rcases accE_or P a wd pr with ⟨h, _⟩ | h | h | ⟨h, _⟩ <;> rw [h] <;> decide
theorem StoreOn.full (h : StoreOn a k i x p q v 12 k') : k' = k ∧ usedN k.t.R a.n = a.n := by
  rcases h with ⟨_, hz, e⟩ | ⟨_, _, _, g, _, ⟨_, hz, _⟩ | ⟨_, _, hu, e⟩ | ⟨_, hz, _⟩⟩
  · exact absurd hz.symm (accE_ne12 _ _ _ _).1
  · cases hz
  · exact ⟨e, hu⟩
  · cases hz
theorem StoreOn.fullAcc (h : StoreOn a k i x p q v 12 k') : accE x.P p q 2 = 0 := by
  rcases h with ⟨_, hz, e⟩ | ⟨h, _⟩
  · exact absurd hz.symm (accE_ne12 _ _ _ _).1
  · exact h
theorem KIn.vmSame (h : KIn W w a k C) (hx : k.l[i]? = some x) (hA : VmAfter a.s a.n k.t x.sp x.pm (fun f => sumC (k.l.eraseIdx i) f) w w' x.P t') : ∃ C', KIn W w' a { k with t := t' } C' ∧ Own7 C C' w w' := by
  obtain ⟨C', h1, h2⟩ := h.vmAtC hx hA
  have e : k.l.set i ⟨x.sp, x.pm, x.P⟩ = k.l := list_set_same hx
  rw [e] at h1
  exact ⟨C', h1, h2⟩
theorem kstore_once (h : KIn W w a k C) (hok : KOk k) (hm : Mine k pid i o x y) (p q v : Int) :
    Calls Tryz.prog 80 #[.pointer (some ⟨x.sp, 0, none⟩), .int .i64 p, .int .i64 q, .int .i64 v] w fun e w' => ∃ (z : Int) (k' : KS) (C' : Nat → Nat × Nat), e = .returned (TErr z) ∧ KIn W w' a k' C' ∧ Own7 C C' w w' ∧ KOk k' ∧ StoreOn a k i x p q v z k' := by
  refine (vmStore_any (h.vm.at hm.sp) p q v).mono ?_
  rintro e w' (⟨hz, rfl, hA⟩ | ⟨hz, h0, h8, g, hg, ⟨hr, rfl, t', hR, hmm, hA⟩ | ⟨hno, hu, rfl, hA⟩ | ⟨hno, rfl, f, t', f0, fn, fR, hmm, hA⟩⟩)
  · obtain ⟨C', h1, h2⟩ := h.vmSame hm.sp hA
    exact ⟨_, k, C', rfl, h1, h2, hok, .inl ⟨hz, rfl, rfl⟩⟩
  · obtain ⟨C', h1, h2⟩ := h.vmSame hm.sp hA
    exact ⟨0, _, C', rfl, h1, h2, hok.tst t', .inr ⟨hz, h0, h8, g, hg, .inl ⟨hr, rfl, t', hR, hmm, rfl⟩⟩⟩
  · obtain ⟨C', h1, h2⟩ := h.vmSame hm.sp hA
    exact ⟨12, k, C', rfl, h1, h2, hok, .inr ⟨hz, h0, h8, g, hg, .inr (.inl ⟨hno, rfl, hu, rfl⟩)⟩⟩
  · obtain ⟨C', h1, h2⟩ := h.vmAtC hm.sp hA
    have hd := (h.vm.sps i x hm.sp).dom _ _ hg
    have hl := hok.live i o x y hm.ko hm.sp hm.tab ⟨pid, hm.own⟩
    have hlen : lenP (setP x.P p (some (g.1, f))) = lenP x.P := by
      have h3 := lenP_set x.P p (some (g.1, f)) hd.1 hd.2
      rw [hg] at h3
      simp at h3
      exact h3
    have h5 := hok.step hm (P' := setP x.P p (some (g.1, f))) (t' := t') (u' := o.u) ⟨by rw [hlen]; exact hl.1, rfl, rfl⟩ (hok.fit i o hm.ko).1
    have e : stepK k i o x (setP x.P p (some (g.1, f))) t' o.u = { k with t := t', l := k.l.set i ⟨x.sp, x.pm, setP x.P p (some (g.1, f))⟩ } := by
      unfold stepK
      rw [show k.os.set i { o with u := o.u } = k.os from list_set_same hm.ko]
    rw [e] at h5
    exact ⟨0, _, C', rfl, h1, h2, h5, .inr ⟨hz, h0, h8, g, hg, .inr (.inr ⟨hno, rfl, f, t', f0, fn, fR, hmm, rfl⟩)⟩⟩
def StoreTo (W : World) (a : KA) (k : KS) (C : Nat → Nat × Nat) (pid : Int) (i : Nat) (o : KO) (x : Spc) (y : Nat × PTab) (p q v : Int) (w : World) (e : Ending) (w' : World) : Prop :=
  ∃ (row : Value) (go : List Int) (k1 k' : KS) (z : Int) (C' : Nat → Nat × Nat), e = .returned (.tuple #[row, TErr z]) ∧ IntsAt w' row go ∧ (∀ g, row.ownBlock = some g → w.heap.size ≤ g) ∧ Went a k go k1 ∧ (go = [] ∨ accE x.P p q 2 = 0) ∧ KIn W w' a k' C' ∧ Own7 C C' w w' ∧ KOk k' ∧
    ((Mine k1 pid i o x y ∧ StoreOn a k1 i x p q v z k' ∧ (z = 12 → (oVictim (candsK k1)).2 = false)) ∨ (z = 10 ∧ k' = k1 ∧ ∃ go1, go = go1 ++ [pid]))
set_option maxHeartbeats 4000000 in
set_option maxRecDepth 100000 in
theorem kstore_yes (h : KIn W w a k C) (hok : KOk k) (hm : Mine k pid i o x y) (hLd : Laid W) (p q v : Int) :
    Calls Tryz.prog 28 #[.pointer (some ⟨a.kb, 0, none⟩), .int .i64 pid, .int .i64 p, .int .i64 q, .int .i64 v] w (StoreTo W a k C pid i o x y p q v w) := by
  have HW := hid (who_yes h hok hm.own hm.ko)
  have HLd := hid hLd
  have HS0 := hid (show ∃ (C1 : Nat → Nat × Nat) (go : List Int) (k1 : KS), KIn W w a k1 C1 ∧ KOk k1 ∧ Went a k go k1 ∧ Mine k1 pid i o x y ∧ IntsAt w (.slice none 0 0) go ∧ (∀ g, (Value.slice none 0 0).ownBlock = some g → C1 g = (7, 0) ∧ w.heap.size ≤ g) ∧ Own7 C C1 w w ∧ go.length + k1.ow.length ≤ k.ow.length ∧ k1.ow.length = k.ow.length ∧ (go = [] ∨ accE x.P p q 2 = 0) from ⟨C, [], k, h, hok, rfl, hm, World.ownsRow_nil _ _ _ _, fun g hg => (by cases hg), Own7.still (Turn.refl _ _), (by simp), rfl, .inl rfl⟩)
  have HK := hid (ow_len hok)
  clear h hok hm hLd
  unfold StoreTo
  go_enter Tryz.func28, Tryz.ntmps28
  go_wp2_with fail
  refine HW.out.mono ?_
  rintro e w1 ⟨rfl, hw⟩; subst w1
  go_wp2_with fail
  obtain ⟨ob, hob⟩ : ∃ ob, o.ob = ob := ⟨_, rfl⟩
  rw [hob]
  have HOb := hid hob
  clear hob
  go_loopg [14] (k.ow.length) (fun gl v14 wr => Hid (∃ (C1 : Nat → Nat × Nat) (go : List Int) (k1 : KS), KIn W wr a k1 C1 ∧ KOk k1 ∧ Went a k go k1 ∧ Mine k1 pid i o x y ∧ IntsAt wr v14 go ∧ (∀ g, v14.ownBlock = some g → C1 g = (7, 0) ∧ w.heap.size ≤ g) ∧ Own7 C C1 w wr ∧ go.length + k1.ow.length ≤ k.ow.length ∧ k1.ow.length = gl ∧ (go = [] ∨ accE x.P p q 2 = 0)))
  case atStart => exact HS0
  case round =>
    obtain ⟨C1, go, k1, h1, hok1, hw1, hm1, hrow, hown, ho7, hlen, hgl, hacc⟩ := hrel.out
    have hO := (h1.at_ hm1).1
    rw [HOb.out] at hO
    have c0 := hO.c0
    have HO := hid (kstore_once h1 hok1 hm1 p q v)
    have HX := hid (show Went a k go k1 ∧ Mine k1 pid i o x y ∧ IntsAt wr u14 go ∧ (∀ g, u14.ownBlock = some g → C1 g = (7, 0) ∧ w.heap.size ≤ g) ∧ Own7 C C1 w wr ∧ go.length + k1.ow.length ≤ k.ow.length ∧ k1.ow.length = gk from ⟨hw1, hm1, hrow, hown, ho7, hlen, hgl⟩)
    have HAcc := hid hacc
    clear hrel h1 hok1 hw1 hm1 hrow hown ho7 hlen hgl hO HS0 hacc
    go_wp2_with fail
    refine HO.out.mono ?_
    rintro e w2 ⟨z, k2, C2, rfl, hk2, ho2, hok2, hst⟩
    have HT := hid (tell_tree z _ (HLd.out.turned0 hk2.turn))
    obtain ⟨hw1, hm1, hrow, hown, ho7, hlen, hgl⟩ := HX.out
    have hrow2 : IntsAt w2 u14 go := hrow.turned ho2.2 (fun g hg e => e (hown g hg).1)
    have HK2 := hid hk2
    have HX2 := hid (show KOk k2 ∧ StoreOn a k1 i x p q v z k2 ∧ IntsAt w2 u14 go ∧ Own7 C C2 w w2 from ⟨hok2, hst, hrow2, ho7.trans ho2⟩)
    have HOw := hid (show ∀ g, u14.ownBlock = some g → C2 g = (7, 0) ∧ w.heap.size ≤ g from fun g hg => ⟨ho2.1 g (hown g hg).1, (hown g hg).2⟩)
    clear hk2 ho2 hok2 hst hw1 hm1 hrow hown ho7 hlen hgl hrow2 HO
    by_cases h12 : z = 12
    · subst h12
      go_wp2_with fail
      refine HT.out.mono ?_
      rintro e w3 ⟨rfl, t3⟩
      have HA0 := hid (HX2.out.2.1.fullAcc)
      obtain ⟨ek, hfull⟩ := HX2.out.2.1.full
      subst ek
      have hk3 := HK2.out.still t3
      have HC := hid (kcands_is hk3 HX2.out.1)
      have HK3 := hid hk3
      have HT3 := hid t3
      have HF := hid hfull
      clear hk3 t3 hfull c0
      go_wp2_with fail
      refine HC.out.mono ?_
      rintro e w4 ⟨vc, rfl, hcr, t4⟩
      have hcl : (candsK k2).length ≤ 1000 := by
        have h5 : (candsK k2).length ≤ (pidsOf k2.pl).length := List.length_filterMap_le _ _
        have h6 := kin_len HX2.out.1
        omega
      have HV := hid (victim_row vc _ hcr hcl)
      have HK4 := hid (HK3.out.still t4)
      have HT4 := hid (HT3.out.trans t4)
      clear hcr t4 hcl
      go_wp2_with fail
      refine HV.out.mono ?_
      rintro e w5 ⟨rfl, t5⟩
      have HK5 := hid (HK4.out.still t5)
      have HT5 := hid (HT4.out.trans t5)
      clear t5
      obtain ⟨vv, hvv⟩ : ∃ vv, oVictim (candsK k2) = vv := ⟨_, rfl⟩
      rw [hvv]
      obtain ⟨vi, vb⟩ := vv
      have HVv := hid hvv
      clear hvv
      cases vb with
      | false =>
        simp only
        go_wp2_with fail
        go_returns
        obtain ⟨hw1, hm1, hrow, hown, ho7, hlen, hgl⟩ := HX.out
        exact ⟨u14, go, k2, k2, 12, C2, rfl, HX2.out.2.2.1.turned HT5.out (fun _ _ => id), fun g hg => (hown g hg).2, hw1, HAcc.out, HK5.out, HX2.out.2.2.2.trans (Own7.still HT5.out), HX2.out.1, .inl ⟨hm1, HX2.out.2.1, fun _ => by rw [HVv.out]⟩⟩
      | true =>
        simp only
        obtain ⟨hv1, iv, ov, xv, yv, hmv, hpos⟩ := HK5.out.victim HVv.out
        have hal : Turn (fun _ => False) w5 (w5.alloc (.cells #[.int .i64 vi] 3)) := (Turn.refl _ _).alloc _
        have hRow := (HX2.out.2.2.1.turned HT5.out (fun _ _ => id)).turned hal (fun _ _ => id)
        have HRow := hid hRow
        have HAl := hid hal
        have HC1 := hid (show (w5.alloc (.cells #[.int .i64 vi] 3)).cell? ⟨w5.heap.size, 0, none⟩ = some (.int .i64 vi) from by simp)
        have hgo : go.length ≤ 1000000 := by have := HX.out.2.2.2.2.2.1; have := HK.out; omega
        have HMv := hid (show vi ≠ 1 ∧ Mine k2 vi iv ov xv yv ∧ 0 < resP xv.P from ⟨hv1, hmv, hpos⟩)
        clear hv1 hmv hpos hal hRow
        go_wp2_with (at_builtin; refine wpList_append_int rfl _ _ rfl u14 go rfl HRow.out w5.heap.size 1 vi rfl HC1.out hgo ?_; intro g3 z3 w8 hi8 t8 ho8; have HI8 := hid hi8; have HT8 := hid t8; have HO8 := hid ho8; clear hi8 t8 ho8)
        have h5a := HK5.out.still HAl.out
        have hlt8 : g3 < w8.heap.size := by
          rcases HI8.out.shape with ⟨h, _⟩ | ⟨g, cap, h, _, _, hl⟩
          · have e : some g3 = none := congrArg Value.ownBlock h
            cases e
          · have e : some g3 = some g := congrArg Value.ownBlock h
            rw [Option.some.inj e]; exact hl
        have h8 := h5a.grow7 (HT8.out.mono (fun j _ e => (HOw.out j e).1)) (fun j => j = g3 ∧ (w5.alloc (.cells #[.int .i64 vi] 3)).heap.size ≤ g3) (fun j hj => ⟨by rw [hj.1]; exact hj.2, by rw [hj.1]; exact hlt8⟩)
        obtain ⟨C8, hC8, hK8, hg8⟩ : ∃ C8, (∀ j, C2 j = (7, 0) → C8 j = (7, 0)) ∧ KIn W w8 a k2 C8 ∧ C8 g3 = (7, 0) := ⟨_, fun j hj => by
          by_cases hp : j = g3 ∧ (w5.alloc (.cells #[.int .i64 vi] 3)).heap.size ≤ g3
          · exact markF_in hp
          · rw [markF_out hp]; exact hj, h8, by
          rcases HO8.out with e | e
          · by_cases hp : g3 = g3 ∧ (w5.alloc (.cells #[.int .i64 vi] 3)).heap.size ≤ g3
            · exact markF_in hp
            · rw [markF_out hp]; exact (HOw.out _ e).1
          · exact markF_in ⟨rfl, e⟩⟩
        have hgw : w.heap.size ≤ g3 := by
          rcases HO8.out with e | e
          · exact (HOw.out _ e).2
          · have := (HX2.out.2.2.2.2.trans ((HT5.out.trans HAl.out).mono (fun _ _ h => h.elim))).size
            omega
        have ho8 : Own7 C C8 w w8 := ⟨fun j hj => hC8 j (HX2.out.2.2.2.1 j hj), (HX2.out.2.2.2.2.trans ((HT5.out.trans HAl.out).mono (fun _ _ h => h.elim))).trans' HT8.out (fun j hj e => absurd (HOw.out j e).2 (by omega))⟩
        have HEx := hid (kexit_keep hK8 HX2.out.1 HMv.out.2.1 108)
        unfold ExitKeep at HEx
        have HY := hid (show C8 g3 = (7, 0) ∧ w.heap.size ≤ g3 ∧ Own7 C C8 w w8 from ⟨hg8, hgw, ho8⟩)
        clear h5a hlt8 h8 hC8 hK8 hg8 hgw ho8
        go_wp2_with fail
        refine HEx.out.mono ?_
        rintro e w9 ⟨rfl, k9, C9, hk9, ho9, hok9, hgone, _⟩
        have hg := hgone HMv.out.1
        have hrow9 : IntsAt w9 (.slice (some ⟨g3, 0, none⟩) (go.length + 1) z3) (go ++ [vi]) := HI8.out.turned ho9.2 (fun g hg e => e (by cases hg; exact HY.out.1))
        have hG : GoneK a k2 vi k9 := by
          obtain ⟨t', b, e1, e2, e3⟩ := hg
          exact ⟨HF.out, HVv.out, HMv.out.1, hok9, iv, ov, xv, yv, b, t', HMv.out.2.1, HMv.out.2.2, e1, e2, e3⟩
        have HZ := hid (show KIn W w9 a k9 C9 ∧ KOk k9 ∧ IntsAt w9 (.slice (some ⟨g3, 0, none⟩) (go.length + 1) z3) (go ++ [vi]) ∧ GoneK a k2 vi k9 ∧ Own7 C C9 w w9 ∧ C9 g3 = (7, 0) from ⟨hk9, hok9, hrow9, hG, HY.out.2.2.trans ho9, ho9.1 _ HY.out.1⟩)
        clear hk9 ho9 hok9 hgone hg hrow9 hG
        obtain ⟨hw1, hm1, hrow, hown, ho7, hlen, hgl⟩ := HX.out
        by_cases hvp : vi = pid
        · subst hvp
          clear hrow hown ho7 hlen hgl hw1 hm1
          go_wp2_with fail
          go_returns
          obtain ⟨hw1, hm1, hrow, hown, ho7, hlen, hgl⟩ := HX.out
          exact ⟨_, go ++ [vi], k9, k9, 10, C9, rfl, HZ.out.2.2.1, fun g hg => by cases hg; exact HY.out.2.1, hw1.snoc HZ.out.2.2.2.1, .inr HA0.out, HZ.out.1, HZ.out.2.2.2.2.1, HZ.out.2.1, .inr ⟨rfl, rfl, go, rfl⟩⟩
        · have hne : (vi == pid) = false := by simpa using hvp
          have hG2 := HZ.out.2.2.2.1
          obtain ⟨_, _, _, _, iv2, ov2, xv2, yv2, b2, t2, hmv2, _, e1, e2, e3⟩ := hG2
          have hless : k9.ow.length < k2.ow.length := by
            rw [e3]; exact ow_less hmv2.own
          have hm9 : Mine k9 pid i o x y := by
            rw [e3]; exact hm1.exitOther hmv2 HX2.out.1 hvp
          have HM9 := hid hm9
          have HLs := hid (show k9.ow.length < gk ∧ (go ++ [vi]).length + k9.ow.length ≤ k.ow.length from ⟨by omega, by rw [List.length_append, List.length_singleton]; omega⟩)
          clear hrow hown ho7 hlen hgl hw1 hm1 hmv2 e1 e2 e3 hless hm9 hvp
          go_wp2_with fail
          go_roundg (k9.ow.length)
          case measure => exact HLs.out.1
          case rel => exact hid ⟨C9, go ++ [vi], k9, HZ.out.1, HZ.out.2.1, HX.out.1.snoc HZ.out.2.2.2.1, HM9.out, HZ.out.2.2.1, fun g hg => by cases hg; exact ⟨HZ.out.2.2.2.2.2, HY.out.2.1⟩, HZ.out.2.2.2.2.1, HLs.out.2, rfl, .inr HA0.out⟩
    · have hb12 : (z != 12) = true := by simpa using h12
      have H12 := hid h12
      clear h12
      go_wp2_with fail
      refine HT.out.mono ?_
      rintro e w3 ⟨rfl, t3⟩
      have HT3 := hid t3
      clear t3 c0
      go_wp2_with fail
      go_returns
      obtain ⟨hw1, hm1, hrow, hown, ho7, hlen, hgl⟩ := HX.out
      exact ⟨u14, go, k1, k2, z, C2, rfl, HX2.out.2.2.1.turned HT3.out (fun _ _ => id), fun g hg => (hown g hg).2, hw1, HAcc.out, HK2.out.still HT3.out, HX2.out.2.2.2.trans (Own7.still HT3.out), HX2.out.1, .inl ⟨hm1, HX2.out.2.1, fun e => absurd e H12.out⟩⟩
end
end Go.Proofs.YtamleilijmgoeaaGreatDoor
namespace Go.Proofs.YtamleilijmgoeaaGreatDoor
open Go.RowKit
set_option linter.unusedVariables false
section
variable {W w w' w1 : World} {a : KA} {k k' : KS} {C C' : Nat → Nat × Nat} {pid : Int} {i j : Nat} {o : KO} {x : Spc} {y : Nat × PTab}
theorem resP_none : resP (fun _ => none) = 0 := sumN_zero fun i _ => rfl
theorem resO_some (p : Pg) : resO (some p) = if 0 ≤ p.2 then 1 else 0 := rfl
theorem resP_set (P : Int → Option Pg) (i : Int) (q : Option Pg) (h0 : 0 ≤ i) (h : i < 64) : resP (setP P i q) + resO (P i) = resP P + resO q := by
 obtain ⟨j, rfl⟩ : ∃ j : Nat, i = j := ⟨i.toNat, by omega⟩
 have h1 := sumN_upd (fun i : Nat => resO (P (i : Int))) j (resO q) 64 (by omega)
 have h2 : (fun i : Nat => resO (setP P (j : Int) q (i : Int))) = fun i : Nat => if i = j then resO q else resO (P (i : Int)) := by
  funext i
  unfold setP
  by_cases e : i = j
  ·subst e; rw [if_pos rfl, if_pos rfl]
  ·rw [if_neg e]
   have e2 : (if ((i : Nat) : Int) = (j : Int) then q else P (i : Int)) = P (i : Int) := if_neg (by omega)
   simp only [e2]
 unfold resP
 rw [h2]
 exact h1
theorem resP_mapP (a n prot : Int) : resP (mapP noP a n prot) = 0 := sumN_zero fun i _ => by
 unfold mapP
 split
 ·rw [resO_some, if_neg (by show ¬ (0 : Int) ≤ -1; decide)]
 ·rfl
theorem forkC_two {b : Nat} {c : Int} (hk : k.pl = [((1 : Int), b)]) (h : ForkC k c) : c = 2 := by
 obtain ⟨h1, h2, h3, h4⟩ := h
 rw [hk] at h3 h4
 by_cases e : c = 1
 ·rw [e] at h3; cases h3
 ·by_cases e2 : c = 2
  ·exact e2
  ·have h5 := h4 2 (by decide) (by omega)
   cases h5
theorem went_none {go : List Int} (hu : usedN k.t.R a.n ≠ a.n) (h : Went a k go k') : go = [] ∧ k' = k := by
 cases go with
 | nil => exact ⟨rfl, h⟩
 | cons v go =>
  obtain ⟨k1, hg, _⟩ := h
  exact absurd hg.1 hu
theorem KIn.used_le (h : KIn W w a k C) : usedN k.t.R a.n ≤ sumR k.l := h.vm.sum
theorem Mine.born (hm : Mine k pid i o x y) (hok : KOk k) {b : Nat} {z : ForkNew} (hC : ForkC k z.c) : Mine (forkK k pid o x y b z) z.c k.os.length ⟨z.ob, z.lb, o.u, o.m, o.adj⟩ ⟨z.sp, z.pm, x.P⟩ (z.ub, y.2) := by
 have hno := hok.no_own hC.2.2.1
 obtain ⟨l1, l2, _⟩ := hok.len
 refine ⟨?_, ?_, ?_, ?_⟩
 ·show mget (k.ow ++ [(z.c, k.os.length)]) z.c = _
  rw [mget_snoc hno, if_pos rfl]
 ·show (k.os ++ [_])[k.os.length]? = _
  simp
 ·show (k.l ++ [_])[k.os.length]? = _
  rw [← l1]; simp
 ·show (k.ts ++ [_])[k.os.length]? = _
  rw [← l2]; simp
theorem Mine.stepped {P' : Int → Option Pg} {t' : St} {u' : Nat → Int} (hm : Mine k pid i o x y) : Mine (stepK k i o x P' t' u') pid i { o with u := u' } ⟨x.sp, x.pm, P'⟩ y :=
 ⟨hm.own, set_at hm.ko, set_at hm.sp, hm.tab⟩
theorem store_new {p q v z : Int} (hm : Mine k pid i o x y) (hP : x.P p = some (3, -1)) (hq : 0 ≤ q ∧ q < 8) (hu : usedN k.t.R a.n ≠ a.n) (h : StoreOn a k i x p q v z k') :
  z = 0 ∧ ∃ (f : Int) (t' : St), 0 ≤ f ∧ f < a.n ∧ t'.m = newM k.t.m (-1) f q v ∧ k' = { k with t := t', l := k.l.set i ⟨x.sp, x.pm, setP x.P p (some (3, f))⟩ } := by
 have hE : accE x.P p q 2 = 0 := by
  unfold accE
  rw [hP]
  simp only [Option.elim]
  rw [if_neg (by omega), if_neg (by decide)]
 rcases h with ⟨h1, _⟩ | ⟨_, _, _, g, hg, ⟨⟨h1, _⟩, _⟩ | ⟨_, _, h2, _⟩ | ⟨_, h3, f, t', f0, fn, _, hmm, e⟩⟩
 ·exact absurd hE h1
 ·rw [hP] at hg; cases hg
  exact absurd h1 (by decide)
 ·exact absurd h2 hu
 ·rw [hP] at hg; cases hg
  exact ⟨h3, f, t', f0, fn, hmm, e⟩
def KDone (W : World) (a : KA) (Q : KS → Prop) (w' : World) : Prop := ∃ k' C', KIn W w' a k' C' ∧ KOk k' ∧ Q k'
theorem kept_map (h : KIn W w a k C) (hok : KOk k) (hm : Mine k 2 1 o x y) (hLd : Laid W) (hP : x.P = noP) (hu : o.u 0 = 0) (hmm : o.m 0 = 64) (hl : k.l.length = 2 ∧ ∃ x0, k.l[0]? = some x0 ∧ resP x0.P = 0) :
  Calls Tryz.prog 45 #[.pointer (some ⟨a.kb, 0, none⟩), .int .i64 2, .int .i64 0, .int .i64 2, .int .i64 3] w fun e w' => e = .returned .nilIface ∧ KDone W a (fun k' => (∃ o', Mine k' 2 1 o' ⟨x.sp, x.pm, mapP noP 0 2 3⟩ y) ∧ sumR k'.l = 0 ∧ ∃ x0 x1, k'.l = [x0, x1] ∧ resP x0.P = 0) w' := by
 have hE : kmapE o x 0 2 3 = 0 := by
  unfold kmapE
  rw [hP, show mapE noP 0 2 3 = 0 from by kernel_rfl, if_neg (by simp), hu, hmm]; rfl
 refine (kmap_yes h hok hm hLd 0 2 3).mono ?_
 rintro e w' ⟨rfl, k', ⟨C', h1⟩, h2, h3, _⟩
 rw [hE]
 have e1 := h3 hE
 subst e1
 rw [hP] at h1 h2
 obtain ⟨hl2, x0, hx0, hr0⟩ := hl
 obtain ⟨z0, z1, ez⟩ : ∃ z0 z1, k.l = [z0, z1] := by
  match hkl : k.l, hl2 with
  | [z0, z1], _ => exact ⟨z0, z1, rfl⟩
 have e0 : z0 = x0 := by rw [ez] at hx0; exact Option.some.inj hx0
 subst e0
 refine ⟨rfl, _, C', h1, h2, ⟨_, by have h9 := hm.stepped (P' := mapP noP 0 2 3) (t' := k.t) (u' := upd o.u 0 (o.u 0 + 2)); exact h9⟩, ?_, z0, ⟨x.sp, x.pm, mapP noP 0 2 3⟩, ?_, hr0⟩
 ·show sumR (k.l.set 1 ⟨x.sp, x.pm, mapP noP 0 2 3⟩) = 0
  rw [ez]
  show resP z0.P + (resP (mapP noP 0 2 3) + 0) = 0
  rw [hr0, resP_mapP]
 ·show k.l.set 1 _ = _
  rw [ez]; rfl
theorem kept_store (h : KIn W w a k C) (hok : KOk k) (hm : Mine k 2 1 o ⟨x.sp, x.pm, mapP noP 0 2 3⟩ y) (hLd : Laid W) (ha : a.n = 4) (hs : sumR k.l = 0) (hl : ∃ x0 x1, k.l = [x0, x1] ∧ resP x0.P = 0) :
  Calls Tryz.prog 28 #[.pointer (some ⟨a.kb, 0, none⟩), .int .i64 2, .int .i64 0, .int .i64 1, .int .i64 5] w fun e w' => ∃ b cap, e = .returned (.tuple #[.slice b 0 cap, .nilIface]) ∧ KDone W a (fun k' => ∃ o' x' , Mine k' 2 1 o' x' y ∧ accE x'.P 0 1 1 = 0 ∧ loadV x'.P k'.t.m 0 1 = 5 ∧ sumR k'.l = 1 ∧ resP x'.P = 1 ∧ ∃ x0, k'.l = [x0, x'] ∧ resP x0.P = 0) w' := by
 have hu : usedN k.t.R a.n ≠ a.n := by
  have := h.used_le
  omega
 refine (kstore_yes h hok hm hLd 0 1 5).mono ?_
 rintro e w' ⟨row, go, k1, k', z, C', rfl, hrow, _, hw, _, h1, _, h2, hX⟩
 obtain ⟨rfl, rfl⟩ := went_none hu hw
 rcases hX with ⟨hm1, hst, _⟩ | ⟨_, _, go1, e⟩
 ·obtain ⟨rfl, f, t', f0, fn, hmm, rfl⟩ := store_new hm1 (by show mapP noP 0 2 3 0 = _; rfl) (by omega) hu hst
  obtain ⟨b, cap, rfl⟩ := hrow.slice
  obtain ⟨x0, x1, ez, hr0⟩ := hl
  have hrs : resP (setP (mapP noP 0 2 3) 0 (some (3, f))) = 1 := by
   have h5 := resP_set (mapP noP 0 2 3) 0 (some (3, f)) (by decide) (by decide)
   rw [resP_mapP, show mapP noP 0 2 3 0 = some (3, -1) from rfl, resO_some, resO_some, if_neg (by decide), if_pos (by exact f0)] at h5
   exact h5
  have hg : setP (mapP noP 0 2 3) 0 (some (3, f)) 0 = some (3, f) := if_pos rfl
  have hA : accE (setP (mapP noP 0 2 3) 0 (some (3, f))) 0 1 1 = 0 := by
   unfold accE
   rw [hg]; rfl
  refine ⟨b, cap, rfl, _, C', h1, h2, o, ⟨x.sp, x.pm, setP (mapP noP 0 2 3) 0 (some (3, f))⟩, ⟨hm1.own, hm1.ko, set_at hm1.sp, hm1.tab⟩, hA, ?_, ?_, hrs, x0, ?_, hr0⟩
  ·unfold loadV
   rw [if_pos hA]
   unfold wordV
   show (if ((setP (mapP noP 0 2 3) 0 (some (3, f)) 0).getD noPg).2 < 0 then 0 else _) = _
   rw [hg]
   show (if f < 0 then (0 : Int) else t'.m f.toNat (1 : Int).toNat) = 5
   rw [if_neg (by omega), hmm]
   unfold newM memSet
   exact if_pos ⟨rfl, rfl⟩
  ·show sumR (k1.l.set 1 _) = 1
   rw [ez]
   show resP x0.P + (resP (setP (mapP noP 0 2 3) 0 (some (3, f))) + 0) = 1
   rw [hr0, hrs]
  ·show k1.l.set 1 _ = _
   rw [ez]; rfl
 ·cases go1 <;> cases e
set_option maxHeartbeats 4000000 in
set_option maxRecDepth 100000 in
theorem kept_is (w : World) (hLd : Laid w) : Calls Tryz.prog 11 #[] w fun e w' => e = .returned (.bool true) ∧ Turn (fun _ => False) w w' := by
 have HLd := hid hLd
 have HN := hid (knew_is 4 w (by decide) (by decide))
 unfold NewTo at HN
 clear hLd
 go_enter Tryz.func11, Tryz.ntmps11
 go_wp2_with fail
 refine HN.out.mono ?_
 rintro e w1 ⟨a, t, sp, pm, tab, ob, lb, b, rfl, ha, hR, hm0, ⟨C1, hk1⟩, hok1⟩
 have hm1 : Mine (newKS t sp pm tab ob lb b) 1 0 ⟨ob, lb, fun _ => 0, mostN 3, 0⟩ ⟨sp, pm, noP⟩ (tab, noTab) := ⟨rfl, rfl, rfl, rfl⟩
 have HF := hid (kfork_yes hk1 hok1 hm1 (by show (1 : Nat) < 100; decide))
 unfold ForkTo at HF
 have HX1 := hid (show a.n = 4 ∧ KOk (newKS t sp pm tab ob lb b) from ⟨ha, hok1⟩)
 clear ha hR hm0 hk1 hok1 hm1
 go_wp2_with fail
 refine HF.out.mono ?_
 rintro e w2 (⟨h24, _⟩ | ⟨_, b2, z, hb2, hC, hnb, rfl, ⟨C2, hk2⟩, hok2⟩)
 ·exact absurd h24 (by show ¬ 24 ≤ (1 : Nat); decide)
 have hm1 : Mine (newKS t sp pm tab ob lb b) 1 0 ⟨ob, lb, fun _ => 0, mostN 3, 0⟩ ⟨sp, pm, noP⟩ (tab, noTab) := ⟨rfl, rfl, rfl, rfl⟩
 have hc2 : z.c = 2 := forkC_two rfl hC
 have hm2 := hm1.born HX1.out.2 (b := b2) hC
 rw [hc2] at hm2 ⊢
 have HM := hid (kept_map hk2 hok2 hm2 HLd.out rfl rfl rfl ⟨rfl, ⟨sp, pm, noP⟩, rfl, resP_none⟩)
 clear hm1 hc2 hm2 hb2 hC hnb hk2 hok2
 go_wp2_with fail
 refine HM.out.mono ?_
 rintro e w3 ⟨rfl, k3, C3, hk3, hok3, ⟨o3, hm3⟩, hs3, hl3⟩
 have HS := hid (kept_store hk3 hok3 (x := ⟨z.sp, z.pm, noP⟩) hm3 HLd.out HX1.out.1 hs3 hl3)
 clear hk3 hok3 hm3 hs3 hl3
 go_wp2_with fail
 refine HS.out.mono ?_
 rintro e w4 ⟨br, cap, rfl, k4, C4, hk4, hok4, o4, x4, hm4, hA4, hv4, hs4, hr4, x0, hl4, hr0⟩
 have hLo := kload_yes hk4 hok4 hm4 0 1
 unfold LoadIs at hLo
 rw [hA4, hv4, show VmErr 0 = .nilIface from rfl] at hLo
 have HLo := hid hLo
 have hu : kUsed a k4 = 1 := by
  have h1 := hk4.used_le
  have h2 := hk4.vm.most hm4.sp
  unfold kUsed
  omega
 have HX4 := hid (show KIn w w4 a k4 C4 ∧ KOk k4 ∧ Mine k4 2 1 o4 x4 (z.ub, (tab, noTab).2) ∧ (kUsed a k4 = 1) ∧ k4.l = [x0, x4] ∧ resP x0.P = 0 from ⟨hk4, hok4, hm4, hu, hl4, hr0⟩)
 clear hLo hk4 hok4 hm4 hA4 hv4 hs4 hr4 hl4 hr0 hu
 go_wp2_with fail
 refine HLo.out.mono ?_
 rintro e w5 ⟨rfl, t5⟩
 have hk5 := HX4.out.1.still t5
 have hLe := kleft_is hk5
 rw [HX4.out.2.2.2.1, HX1.out.1] at hLe
 have HLe := hid hLe
 have HEx := hid (kexit_yes hk5 HX4.out.2.1 HX4.out.2.2.1 0)
 unfold ExitTo at HEx
 rw [show exE 2 = 0 from rfl, show VmErr 0 = .nilIface from rfl] at HEx
 clear hk5 hLe t5
 go_wp2_with fail
 refine HLe.out.mono ?_
 rintro e w6 ⟨rfl, hw⟩; subst w6
 go_wp2_with fail
 refine HEx.out.mono ?_
 rintro e w7 ⟨rfl, k7, ⟨C7, hk7⟩, hok7, hR7, _⟩
 have hu7 : kUsed a k7 = 0 := by
  obtain ⟨t', b', _, _, e7⟩ := hR7 rfl
  have h1 := hk7.used_le
  have h2 : sumR k7.l = 0 := by
   rw [e7]
   show sumR (k4.l.set 1 ⟨x4.sp, x4.pm, fun _ => none⟩) = 0
   rw [HX4.out.2.2.2.2.1]
   show resP x0.P + (resP (fun _ => none) + 0) = 0
   rw [HX4.out.2.2.2.2.2, resP_none]
  unfold kUsed
  omega
 have hLe7 := kleft_is hk7
 rw [hu7, HX1.out.1] at hLe7
 have HLe7 := hid hLe7
 have HT7 := hid hk7.turn
 clear hu7 hLe7 hk7 hok7 hR7
 go_wp2_with fail
 refine HLe7.out.mono ?_
 rintro e w8 ⟨rfl, hw⟩; subst w8
 go_wp2_with fail
 go_returns
 exact ⟨rfl, HT7.out⟩
end
end Go.Proofs.YtamleilijmgoeaaGreatDoor
