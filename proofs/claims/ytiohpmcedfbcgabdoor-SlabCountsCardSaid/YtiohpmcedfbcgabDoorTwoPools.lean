/- A pool and the document's, together; the least choice. Conditions: each theorem's own premises. -/
import Derived.Test.YtiohpmcedfbcgabDoorRefAlloc
import Derived.Test.YtiohpmcedfbcgabDoorRefPool
namespace Go.Proofs.YtiohpmcedfbcgabDoor
open Go.RowKit
set_option linter.unusedVariables false

/-- A pool, and the document's, both new since W, and apart. -/
structure Two (W w : World) (p mb : Nat) (vs : Nat → Value) (q : Pl) (rp fb rmb cp n : Nat) (g : Bits) (tk : List Bk) : Prop where
  pool : PoolAt w p mb vs q
  ref : RefAt w rp fb rmb cp n g tk
  turn : Turn (fun _ => False) W w
  newP : ∀ k, Foot p mb vs k → W.heap.size ≤ k
  newR : ∀ k, RefFoot rp fb rmb k → W.heap.size ≤ k
  apart : ∀ k, Foot p mb vs k → ¬ RefFoot rp fb rmb k
theorem RefAt.foot_lt {w : World} {p fb mb cp n : Nat} {g : Bits} {tk : List Bk} (h : RefAt w p fb mb cp n g tk) (k : Nat) (hf : RefFoot p fb mb k) : k < w.heap.size := by
  rcases hf with rfl | rfl | rfl
  · exact lt_of_cell h.c0
  · exact h.lt
  · exact h.mp.lt
theorem PoolAt.foot_below {w : World} {p mb : Nat} {vs : Nat → Value} {q : Pl} (h : PoolAt w p mb vs q) (k : Nat) (hf : Foot p mb vs k) : k < w.heap.size := by
  rcases hf with rfl | rfl | ⟨j, hj, e⟩
  · exact h.lt
  · exact h.mp.lt
  · rcases (h.fi j hj).shape with ⟨h0, _⟩ | ⟨g, cap, h0, _, _, hg⟩
    · rw [h0] at e; cases e
    · rw [h0] at e; cases e; exact hg
theorem Two.turned {W w w' : World} {p mb : Nat} {vs : Nat → Value} {q : Pl} {rp fb rmb cp n : Nat} {g : Bits} {tk : List Bk} (h : Two W w p mb vs q rp fb rmb cp n g tk) (t : Turn (fun _ => False) w w') : Two W w' p mb vs q rp fb rmb cp n g tk :=
  ⟨h.pool.turned t (fun _ _ => id), h.ref.turned t (fun _ _ => id), h.turn.trans t, h.newP, h.newR, h.apart⟩
theorem Two.refd {W w w' : World} {p mb : Nat} {vs : Nat → Value} {q : Pl} {rp fb rmb cp n : Nat} {g g' : Bits} {tk tk' : List Bk} (h : Two W w p mb vs q rp fb rmb cp n g tk) (h' : RefAt w' rp fb rmb cp n g' tk') (t : Turn (fun j => j = fb ∨ j = rmb) w w') : Two W w' p mb vs q rp fb rmb cp n g' tk' :=
  ⟨h.pool.turned t (fun k hk e => h.apart k hk (.inr e)), h', h.turn.trans' t (fun k hk e => by have := h.newR k (.inr e); omega), h.newP, h.newR, h.apart⟩
theorem Two.pooled {W w w' : World} {p mb : Nat} {vs : Nat → Value} {q q' : Pl} {rp fb rmb cp n : Nat} {g : Bits} {tk : List Bk} (h : Two W w p mb vs q rp fb rmb cp n g tk) (h' : PoolAfter p mb vs w w' q') : ∃ vs', Two W w' p mb vs' q' rp fb rmb cp n g tk := by
  obtain ⟨vs', hp, t, hf⟩ := h'
  refine ⟨vs', hp, h.ref.turned t (fun k hk e => h.apart k e hk), h.turn.trans' t (fun k hk e => by have := h.newP k e; omega), fun k hk => ?_, h.newR, fun k hk hr => ?_⟩
  · rcases hf k hk with h1 | h1
    · exact h.newP k h1
    · exact Nat.le_trans h.turn.size h1
  · rcases hf k hk with h1 | h1
    · exact h.apart k h1 hr
    · have := h.ref.foot_lt k hr; omega

/-- What both free lists tell, and that they are told alike. -/
theorem least_pick {xs : List Int} (h : xs ≠ []) : ∃ b ∈ xs, ∀ c ∈ xs, b ≤ c := by
  cases xs with
  | nil => exact absurd rfl h
  | cons x xs =>
    obtain ⟨h1, h2⟩ := leastOf_mem x xs
    exact ⟨_, h1, h2⟩
theorem order_pick {fr : Fr} {o : Nat} (h : ¬ ∀ k, o ≤ k → k < 7 → fr k = []) : ∃ k, o ≤ k ∧ k < 7 ∧ fr k ≠ [] ∧ ∀ j, o ≤ j → j < k → fr j = [] := by
  have : ∀ d k, k + d = 7 → (∀ j, o ≤ j → j < k → fr j = []) → o ≤ k → ∃ k, o ≤ k ∧ k < 7 ∧ fr k ≠ [] ∧ ∀ j, o ≤ j → j < k → fr j = [] := by
    intro d
    induction d with
    | zero =>
      intro k hk hj _
      exact absurd (fun j h1 h2 => hj j h1 (by omega)) h
    | succ d ih =>
      intro k hk hj hok
      by_cases e : fr k = []
      · refine ih (k + 1) (by omega) (fun j h1 h2 => ?_) (by omega)
        by_cases e2 : j = k
        · rw [e2]; exact e
        · exact hj j h1 (by omega)
      · exact ⟨k, hok, by omega, e, hj⟩
  by_cases ho : o ≤ 7
  · exact this (7 - o) o (by omega) (fun j h1 h2 => by omega) (Nat.le_refl _)
  · exact absurd (fun k h1 h2 => by omega) h
/-- The choice: none. -/
theorem best_none {n : Int} {fr : Fr} {tk : List Bk} {o : Nat} (hno : ∀ k, o ≤ k → k < 7 → fr k = []) (l : List Bk) (hl : FreeOf fr l) : bestR o l = (-1, 0) := by
  refine bestR_none o l (fun t ht => ?_)
  obtain ⟨h1, h2⟩ := mem_listTo.1 (hl.1.mem_iff.1 ht)
  rcases Nat.lt_or_ge t.2 o with h3 | h3
  · omega
  · rw [hno t.2 h3 h1] at h2; cases h2
theorem best_some {n : Int} {fr : Fr} {tk : List Bk} (hg : Good n fr tk) {o k : Nat} {b : Int} (hok : o ≤ k) (hk : k < 7) (hno : ∀ j, o ≤ j → j < k → fr j = []) (hb : b ∈ fr k) (hle : ∀ c ∈ fr k, b ≤ c) (l : List Bk) (hl : FreeOf fr l) : bestR o l = (b, (k : Int)) := by
  refine bestR_is (o := o) (k := k) (b := b) (fun t ht => ?_) hl.2 (hl.1.mem_iff.2 (mem_listTo.2 ⟨hk, hb⟩)) (by omega) (fun t ht h => ?_) (fun t ht h => ?_) (-1, 0) (.inl (by decide))
  · obtain ⟨h1, h2⟩ := mem_listTo.1 (hl.1.mem_iff.1 ht)
    exact (hg.okF t.2 t.1 h1 h2).2.1
  · obtain ⟨h1, h2⟩ := mem_listTo.1 (hl.1.mem_iff.1 ht)
    rcases Nat.lt_or_ge t.2 k with h3 | h3
    · rw [hno t.2 (by omega) h3] at h2; cases h2
    · omega
  · obtain ⟨h1, h2⟩ := mem_listTo.1 (hl.1.mem_iff.1 ht)
    rw [h] at h2
    exact hle t.1 h2
end Go.Proofs.YtiohpmcedfbcgabDoor
