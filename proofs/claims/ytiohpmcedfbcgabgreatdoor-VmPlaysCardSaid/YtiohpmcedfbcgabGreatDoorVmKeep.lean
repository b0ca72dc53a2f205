/- What the vm laws keep from round to round: all spaces, and the slice of them. No walk. Conditions: each theorem's own premises. -/
import Derived.Test.YtiohpmcedfbcgabGreatDoorVmAll
import Derived.Test.YtiohpmcedfbcgabGreatDoorRowV
namespace Go.Proofs.YtiohpmcedfbcgabGreatDoor
open Go.RowKit
set_option linter.unusedVariables false

structure VKeep (W w : World) (s : SB) (n : Nat) (t : St) (l : List Spc) : Prop where
  all : VmAll w s n t l
  turn : Turn (fun _ => False) W w
  new : ∀ k, AllFoot s t.vs l k → W.heap.size ≤ k
def ptrOf (x : Spc) : Value := .pointer (some ⟨x.sp, 0, none⟩)
/-- The slice of the spaces. -/
structure VList (W w : World) (v : Value) (s : SB) (vs : Nat → Value) (l : List Spc) : Prop where
  row : RowV w 35 v (l.map ptrOf)
  own : ∀ q, v.ownBlock = some q → W.heap.size ≤ q ∧ ¬ AllFoot s vs l q
section
variable {W w w' : World} {s : SB} {n : Nat} {t t' : St} {l l' : List Spc} {v : Value}
theorem VKeep.next (h : VKeep W w s n t l) (hA : AllAfter s n t l w w' t' l') : VKeep W w' s n t' l' :=
  ⟨hA.1, h.turn.trans' hA.2.1 (fun k hk hf => by have := h.new k hf; omega), fun k hk => by
    rcases hA.2.2 k hk with h1 | h1
    · exact h.new k h1
    · exact Nat.le_trans h.turn.size h1⟩
theorem VKeep.still (h : VKeep W w s n t l) (tt : Turn (fun _ => False) w w') : VKeep W w' s n t l := h.next (.same h.all tt)
theorem VKeep.own (h : VKeep W w s n t l) {S : Nat → Prop} (tt : Turn S w w') (h1 : ∀ k, S k → W.heap.size ≤ k) (h2 : ∀ k, AllFoot s t.vs l k → ¬ S k) : VKeep W w' s n t l :=
  ⟨h.all.turned tt h2, h.turn.trans' tt (fun k hk hs => by have := h1 k hs; omega), h.new⟩
theorem VList.still (h : VList W w v s t.vs l) (tt : Turn (fun _ => False) w w') : VList W w' v s t.vs l := ⟨h.row.turned tt (fun _ _ => id), h.own⟩
theorem VList.next (h : VList W w v s t.vs l) (hA : AllAfter s n t l w w' t' l') (hp : l'.map ptrOf = l.map ptrOf) : VList W w' v s t'.vs l' := by
  have hlt := h.row.own_lt
  refine ⟨?_, fun q hq => ⟨(h.own q hq).1, fun hf => ?_⟩⟩
  · rw [hp]
    exact h.row.turned hA.2.1 (fun g hg => (h.own g hg).2)
  · rcases hA.2.2 q hf with h1 | h1
    · exact (h.own q hq).2 h1
    · have := hlt q hq; omega
theorem map_set_ptr {k : Nat} {x : Spc} {P' : Int → Option Pg} (hk : l[k]? = some x) : (l.set k ⟨x.sp, x.pm, P'⟩).map ptrOf = l.map ptrOf := by
  rw [List.map_set]
  have e : ptrOf ⟨x.sp, x.pm, P'⟩ = ptrOf x := rfl
  rw [e]
  have hkl : k < l.length := (List.getElem?_eq_some_iff.1 hk).1
  apply List.ext_getElem?
  intro i
  by_cases e : k = i
  · subst e
    rw [List.getElem?_set_self (by simpa using hkl), List.getElem?_map, hk]; rfl
  · rw [List.getElem?_set_ne e]
theorem VList.cell {g cap : Nat} (h : VList W w (.slice (some ⟨g, 0, none⟩) l.length cap) s t.vs l) (k : Nat) (x : Spc) (hk : l[k]? = some x) : w.cell? ⟨g, k, none⟩ = some (.pointer (some ⟨x.sp, 0, none⟩)) := by
  have h1 : RowV w 35 (.slice (some ⟨g, 0, none⟩) (l.map ptrOf).length cap) (l.map ptrOf) := by rw [List.length_map]; exact h.row
  exact h1.cell k (ptrOf x) (by rw [List.getElem?_map, hk]; rfl)
theorem VList.slice (h : VList W w v s t.vs l) (hl : l ≠ []) : ∃ g cap, v = .slice (some ⟨g, 0, none⟩) l.length cap := by
  rcases h.row.shape with ⟨_, h0⟩ | ⟨g, cap, h1, _⟩
  · exact absurd (List.map_eq_nil_iff.1 h0) hl
  · rw [List.length_map] at h1
    exact ⟨g, cap, h1⟩
theorem VList.grown {w1 w2 w3 : World} {x : Spc} {t1 : St} {g k cap : Nat} (h : VList W w v s t.vs l) (hK : VKeep W w s n t l) (hAA : AllAfter s n t l w w1 t1 (l ++ [x])) (ta : Turn (fun _ => False) w1 w2)
    (hr : RowV w3 35 (.slice (some ⟨g, 0, none⟩) k cap) (l.map ptrOf ++ [ptrOf x])) (tt : Turn (fun j => v.ownBlock = some j) w2 w3) (hg : v.ownBlock = some g ∨ w2.heap.size ≤ g) :
    VKeep W w3 s n t1 (l ++ [x]) ∧ VList W w3 (.slice (some ⟨g, 0, none⟩) k cap) s t1.vs (l ++ [x]) := by
  have hK2 := (hK.next hAA).still ta
  have hno : ∀ q, v.ownBlock = some q → ¬ AllFoot s t1.vs (l ++ [x]) q := fun q hq hf => by
    rcases hAA.2.2 q hf with h1 | h1
    · exact (h.own q hq).2 h1
    · have := h.row.own_lt q hq; omega
  refine ⟨hK2.own tt (fun q hq => (h.own q hq).1) (fun q hf hq => hno q hq hf), ⟨?_, fun q hq => ?_⟩⟩
  · rw [List.map_append]; exact hr
  · cases hq
    rcases hg with h1 | h1
    · exact ⟨(h.own _ h1).1, hno _ h1⟩
    · exact ⟨Nat.le_trans hK2.turn.size h1, fun hf => by have : g < w2.heap.size := hK2.all.foot_lt _ hf; omega⟩
theorem used_same {R R' C : Int → Nat} {n : Nat} (h : ∀ f, 0 ≤ f → R' f = R f + C f) (hc : ∀ f, 0 ≤ f → C f ≤ R f) : usedN R' n = usedN R n := by
  refine cntB_congr fun f hf => ?_
  have h1 := h (f : Int) (by omega)
  have h2 := hc (f : Int) (by omega)
  by_cases e : 0 < R (f : Int)
  · rw [decide_eq_true e, decide_eq_true (by omega)]
  · rw [decide_eq_false e, decide_eq_false (by omega)]
theorem used_eq {R R' : Int → Nat} {n : Nat} (h : ∀ f, 0 ≤ f → R' f = R f) : usedN R' n = usedN R n := used_same (C := fun _ => 0) (fun f hf => by rw [h f hf]; rfl) (fun _ _ => Nat.zero_le _)
theorem usedN_le (R : Int → Nat) (n : Nat) : usedN R n ≤ n := cntB_le _ _
end
end Go.Proofs.YtiohpmcedfbcgabGreatDoor
