/- How many names and holders a node may have, and how many names a directory: each change adds one at most. Plain. Conditions: each theorem's own premises. -/
import Derived.Test.YtiohpmcedfbcgacGreatDoorTreeHold
import Derived.Test.YtiohpmcedfbcgacGreatDoorTreeNew
import Derived.Test.YtiohpmcedfbcgacGreatDoorTreeBytes
namespace Go.Proofs.YtiohpmcedfbcgacGreatDoor
open Go.RowKit
set_option linter.unusedVariables false
def TBnd (T : PT) (k : Nat) : Prop := ∀ n p, mget T n = some p → p.names ≤ k ∧ p.held ≤ k ∧ p.ds.length ≤ k
section
variable {T : PT} {p q q' : PN} {n d z : Int} {s path old : ByteArray} {k k' : Nat}
theorem TBnd.mono (h : TBnd T k) (hk : k ≤ k') : TBnd T k' := fun n p hp => by have := h n p hp; omega
theorem TBnd.put (h : TBnd T k) (hq : q.names ≤ k ∧ q.held ≤ k ∧ q.ds.length ≤ k) : TBnd (mput T n q) k := fun m r hr => by
  rw [mget_mput] at hr
  by_cases e : m = n
  · rw [if_pos e] at hr; cases hr; exact hq
  · rw [if_neg e] at hr; exact h m r hr
theorem TBnd.del (h : TBnd T k) : TBnd (mdel T n) k := fun m r hr => by
  rw [mget_mdel] at hr
  by_cases e : m = n
  · rw [if_pos e] at hr; cases hr
  · rw [if_neg e] at hr; exact h m r hr
theorem TBnd.updN_ (h : TBnd T k) {f : PN → PN} (hf : ∀ p : PN, p.names ≤ k ∧ p.held ≤ k ∧ p.ds.length ≤ k → (f p).names ≤ k + 1 ∧ (f p).held ≤ k + 1 ∧ (f p).ds.length ≤ k + 1) (n : Int) : TBnd (updN T n f) (k + 1) := by
  unfold updN
  cases hn : mget T n with
  | none => exact h.mono (by omega)
  | some p => exact (h.mono (Nat.le_succ k)).put (hf p (h n p hn))
theorem mput_le {κ β : Type} [DecidableEq κ] (m : List (κ × β)) (a : κ) (b : β) : (mput m a b).length ≤ m.length + 1 := by
  rw [mput_length]; split <;> omega
theorem mdel_le {κ β : Type} [DecidableEq κ] (m : List (κ × β)) (a : κ) : (mdel m a).length ≤ m.length := List.length_filter_le _ _
theorem TBnd.root : TBnd rootT 1 := fun n p hp => by
  have h := mem_of_mget hp
  unfold rootT at h
  have h := List.mem_singleton.1 h
  cases h
  exact ⟨by decide, by decide, by decide⟩
theorem TBnd.gone (h : TBnd T k) : TBnd (goneT T n p) k := by
  unfold goneT
  split
  · exact h.del
  · exact h
theorem TBnd.make (h : TBnd T k) (h1 : 1 ≤ k) (path : ByteArray) (b : Bool) : TBnd (makeT T path b) (k + 1) := by
  unfold makeT
  split
  · have h2 : TBnd (mput T (freeT T) (newN b)) k := h.put ⟨h1, Nat.zero_le _, Nat.zero_le _⟩
    unfold nameT
    cases hn : mget (mput T (freeT T) (newN b)) (placeT T path).2.1 with
    | none => exact h2.mono (by omega)
    | some p =>
      refine (h2.mono (Nat.le_succ k)).put ⟨by have := h2 _ p hn; simp only; omega, by have := h2 _ p hn; simp only; omega, ?_⟩
      have h3 := mput_le (dsT T (placeT T path).2.1) (placeT T path).2.2 (freeT T : Int)
      have h4 : (dsT T (placeT T path).2.1).length ≤ k := by
        unfold dsT
        cases hq : mget T (placeT T path).2.1 with
        | none => exact Nat.zero_le _
        | some q => exact (h _ q hq).2.2
      simp only
      omega
  · exact h.mono (by omega)
theorem TBnd.link (h : TBnd T k) (old path : ByteArray) : TBnd (linkT T old path) (k + 2) := by
  unfold linkT
  split
  · exact TBnd.updN_ (f := fun q => { q with names := q.names + 1 }) (TBnd.updN_ (f := fun p => { p with ds := mput p.ds (placeT T path).2.2 (findT T old).2 }) h (fun p hp => by
      have := mput_le p.ds (placeT T path).2.2 (findT T old).2
      simp only; omega) _) (fun p hp => by simp only; omega) _
  · exact h.mono (by omega)
theorem TBnd.move (h : TBnd T k) (old path : ByteArray) : TBnd (moveT T old path) (k + 2) := by
  unfold moveT
  split
  · cases mget (dsT T (placeT T old).2.1) (placeT T old).2.2 with
    | none => exact h.mono (by omega)
    | some n => exact TBnd.updN_ (f := fun q => { q with ds := mput q.ds (placeT T path).2.2 n }) (TBnd.updN_ (f := fun p => { p with ds := mdel p.ds (placeT T old).2.2 }) h (fun p hp => by
        have := mdel_le p.ds (placeT T old).2.2
        simp only; omega) _) (fun p hp => by
        have := mput_le p.ds (placeT T path).2.2 n
        simp only; omega) _
  · exact h.mono (by omega)
theorem TBnd.setData (h : TBnd T k) (n : Int) (x : ByteArray) : TBnd (setDataT T n x) k := by
  unfold setDataT
  cases hn : mget T n with
  | none => exact h
  | some p => exact h.put (h n p hn)
theorem TBnd.write (h : TBnd T k) (n z : Int) (s : ByteArray) : TBnd (writeT T n z s) k := by
  unfold writeT
  split
  · exact h.setData n _
  · exact h
theorem TBnd.hold (h : TBnd T k) (n : Int) : TBnd (holdT T n) (k + 1) := by
  unfold holdT
  cases hn : mget T n with
  | none => exact h.mono (by omega)
  | some p =>
    simp only [Option.elim]
    split
    · exact h.mono (by omega)
    · exact (h.mono (Nat.le_succ k)).put (by have := h n p hn; simp only; omega)
theorem TBnd.drop (h : TBnd T k) (n : Int) : TBnd (dropT T n) k := by
  unfold dropT
  cases hn : mget T n with
  | none => exact h
  | some p =>
    simp only [Option.elim]
    split
    · exact h
    · split
      · exact h
      · exact TBnd.gone (h.put (by have := h n p hn; simp only; omega))
theorem TBnd.unlink (h : TBnd T k) (path : ByteArray) : TBnd (unlinkT T path) (k + 1) := by
  unfold unlinkT
  split
  · cases mget (dsT T (placeT T path).2.1) (placeT T path).2.2 with
    | none => exact h.mono (by omega)
    | some n =>
      simp only [Option.elim]
      cases hq : mget T n with
      | none => exact h.mono (by omega)
      | some q =>
        refine TBnd.gone (TBnd.put (TBnd.updN_ (f := fun p => { p with ds := mdel p.ds (placeT T path).2.2 }) h (fun p hp => by
          have := mdel_le p.ds (placeT T path).2.2
          simp only; omega) _) (by have := h n q hq; simp only; omega))
  · exact h.mono (by omega)
end
end Go.Proofs.YtiohpmcedfbcgacGreatDoor
