/- Package slab with its pool: what they are together, and which frame Alloc picks. Conditions: each theorem's own premises. -/
import Derived.Test.YtiohpmcedfbcgabDoorSlabFrames
import Derived.Test.YtiohpmcedfbcgabDoorBuddyGive
namespace Go.Proofs.YtiohpmcedfbcgabDoor
open Go.RowKit
set_option linter.unusedVariables false

def hasB (g : Nat → Bool) (k : Nat) (v : Bool) : Bool := (List.range k).any fun j => g j == v
theorem hasB_true {g : Nat → Bool} {k : Nat} {v : Bool} : hasB g k v = true ↔ ∃ j, j < k ∧ g j = v := by simp [hasB]
theorem hasB_false {g : Nat → Bool} {k : Nat} {v : Bool} : hasB g k v = false ↔ ∀ j, j < k → g j ≠ v := by simp [hasB]
theorem contains_has {w : World} {b k : Nat} {g : Nat → Bool} (h : RowB w b k g) (hk : k ≤ 1000) (v : Bool) :
    Calls Tryd.prog 119 #[.slice (some ⟨b, 0, none⟩) k k, .bool v] w fun e w' => e = .returned (.bool (hasB g k v)) ∧ w = w' := by
  refine (contains_bools h hk v).mono ?_
  rintro e w' ⟨rfl, ⟨rfl, hx⟩ | ⟨rfl, hx⟩⟩
  · rw [hasB_true.2 hx]; exact ⟨rfl, rfl⟩
  · rw [hasB_false.2 hx]; exact ⟨rfl, rfl⟩

/-- The row of a frame. -/
def rowOf (l : List (Int × Nat)) (B : Nat → Nat → Bool) (f : Int) : Nat → Bool := (mget l f).elim (fun _ => false) B
theorem rowOf_some {l : List (Int × Nat)} {B : Nat → Nat → Bool} {f : Int} {b : Nat} (h : mget l f = some b) : rowOf l B f = B b := by unfold rowOf; rw [h]; rfl
/-- Which frame Alloc picks: the first with room that has some, else the first with room. -/
def pickF (room some : Int → Bool) : List Int → Int → Int
  | [], b => b
  | f :: fs, b => if room f then (if some f then f else pickF room some fs (if b < 0 then f else b)) else pickF room some fs b
theorem pickF_mem (room some : Int → Bool) : ∀ (fs : List Int) (b : Int), pickF room some fs b = b ∨ (pickF room some fs b ∈ fs ∧ room (pickF room some fs b) = true)
  | [], b => .inl rfl
  | f :: fs, b => by
    unfold pickF
    cases hr : room f with
    | false =>
      rw [if_neg (by simp)]
      rcases pickF_mem room some fs b with h | ⟨h1, h2⟩
      · exact .inl h
      · exact .inr ⟨List.mem_cons_of_mem _ h1, h2⟩
    | true =>
      rw [if_pos rfl]
      split
      · exact .inr ⟨List.mem_cons_self .., hr⟩
      · rcases pickF_mem room some fs (if b < 0 then f else b) with h | ⟨h1, h2⟩
        · rw [h]
          split
          · exact .inr ⟨List.mem_cons_self .., hr⟩
          · exact .inl rfl
        · exact .inr ⟨List.mem_cons_of_mem _ h1, h2⟩

theorem pool_below {w : World} {p mb : Nat} {vs : Nat → Value} {q : Pl} (h : PoolAt w p mb vs q) (k : Nat) (hf : Foot p mb vs k) : k < w.heap.size := by
  rcases hf with rfl | rfl | ⟨j, hj, e⟩
  · exact h.lt
  · exact h.mp.lt
  · rcases (h.fi j hj).shape with ⟨h1, _⟩ | ⟨g, cap, h1, _, _, hg⟩
    · rw [h1] at e; cases e
    · rw [h1] at e; cases e; exact hg

/-- A cache and its pool, in blocks of their own; each frame is taken, alone. -/
structure SPool (w : World) (p mb : Nat) (vs : Nat → Value) (q : Pl) (cb sm per : Nat) (l : List (Int × Nat)) (B : Nat → Nat → Bool) : Prop where
  pool : PoolAt w p mb vs q
  good : Good q.n q.fr q.tk
  hn : q.n ≤ 256
  slab : SlabIs w cb sm p per l B
  held : ∀ t ∈ l, mget q.tk t.1 = some 0
  ap : ∀ k, SFoot cb sm l k → ¬ Foot p mb vs k
  p1 : 1 ≤ per
  p2 : per ≤ 16
def Feet (p mb : Nat) (vs : Nat → Value) (cb sm : Nat) (l : List (Int × Nat)) (k : Nat) : Prop := Foot p mb vs k ∨ SFoot cb sm l k
section
variable {w w' : World} {p mb cb sm per : Nat} {vs : Nat → Value} {q : Pl} {l : List (Int × Nat)} {B : Nat → Nat → Bool}
theorem SPool.turned {S : Nat → Prop} (h : SPool w p mb vs q cb sm per l B) (t : Turn S w w') (hn : ∀ k, Feet p mb vs cb sm l k → ¬ S k) : SPool w' p mb vs q cb sm per l B :=
  { h with pool := h.pool.turned t (fun k hk => hn k (.inl hk)), slab := h.slab.turned t (fun k hk => hn k (.inr hk)) }
theorem SPool.feet_lt (h : SPool w p mb vs q cb sm per l B) (k : Nat) (hk : Feet p mb vs cb sm l k) : k < w.heap.size := hk.elim (pool_below h.pool k) (h.slab.foot_lt k)
theorem SPool.frame (h : SPool w p mb vs q cb sm per l B) (t : Int × Nat) (ht : t ∈ l) : 0 ≤ t.1 ∧ t.1 < q.n := by
  have h1 := h.good.okT (t.1, 0) (mem_of_mget (h.held t ht))
  have h2 := h1.2.2.2
  have h3 : sz 0 = 1 := rfl
  simp only at h2
  rw [h3] at h2
  exact ⟨h1.2.1, by omega⟩
theorem SPool.wf (h : SPool w p mb vs q cb sm per l B) (t : Int × Nat) (ht : t ∈ l) : (Lit.int .i64 t.1).wf = true := by
  have h1 := h.frame t ht
  have h2 := h.hn
  have h3 : IntKind.i64.min = -9223372036854775808 := by decide
  have h4 : IntKind.i64.max = 9223372036854775807 := by decide
  simp [Lit.wf, h3, h4]
  omega
theorem SPool.len (h : SPool w p mb vs q cb sm per l B) : l.length ≤ 256 := by
  have h1 := len_le_nat 256 (l.map Prod.fst) h.slab.mp.nodup (fun x hx => by
    obtain ⟨t, ht, rfl⟩ := List.mem_map.1 hx
    have h1 := h.frame t ht
    have h2 := h.hn
    exact ⟨h1.1, by omega⟩)
  simpa using h1
/-- What they are behind a call. -/
def SAfter (p mb : Nat) (vs : Nat → Value) (cb sm per : Nat) (l : List (Int × Nat)) (w w' : World) (q' : Pl) (l' : List (Int × Nat)) (B' : Nat → Nat → Bool) : Prop :=
  ∃ vs', SPool w' p mb vs' q' cb sm per l' B' ∧ Turn (Feet p mb vs cb sm l) w w' ∧ ∀ k, Feet p mb vs' cb sm l' k → Feet p mb vs cb sm l k ∨ w.heap.size ≤ k
theorem SPool.same (h : SPool w p mb vs q cb sm per l B) (t : Turn (fun _ => False) w w') : SAfter p mb vs cb sm per l w w' q l B :=
  ⟨vs, h.turned t (fun _ _ => id), t.mono fun _ _ h => h.elim, fun _ => .inl⟩
theorem SPool.put (h : SPool w p mb vs q cb sm per l B) {f : Int} {b : Nat} (hb : (f, b) ∈ l) {g : Nat → Bool} (t : Turn (fun k => k = b) w w') (hr : RowB w' b per g) : SAfter p mb vs cb sm per l w w' q l (updR B b g) := by
  have hbf : SFoot cb sm l b := .inr (.inr (List.mem_map.2 ⟨_, hb, rfl⟩))
  exact ⟨vs, { h with pool := h.pool.turned t (fun k hk e => h.ap b hbf (e ▸ hk)), slab := h.slab.put hb t hr }, t.mono fun _ _ e => e ▸ .inr hbf, fun _ => .inl⟩
end
end Go.Proofs.YtiohpmcedfbcgabDoor
