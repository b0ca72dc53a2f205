/- Who has more goes sooner: the plain law on lists of candidates. Conditions: no two candidates of one number. -/
import Derived.Test.YtiohpmcedfbcgaaOomRef
namespace Go.Proofs.Ytiohpmcedfbcgaa
open Go.RowKit
set_option linter.unusedVariables false

/-- c goes ahead of m. -/
def Ahead (c m : Cd) : Prop := oScore m.2.1 m.2.2 < oScore c.2.1 c.2.2 ∨ (oScore c.2.1 c.2.2 = oScore m.2.1 m.2.2 ∧ m.1 < c.1)
theorem ahead_iff (c m : Cd) : 0 < cdCmp c m ↔ Ahead c m := cdCmp_pos c m
theorem ahead_total {c m : Cd} (h : ¬ Ahead c m) (h' : ¬ Ahead m c) : c.1 = m.1 := by unfold Ahead at *; omega
theorem not_ahead_trans {a b c : Cd} (h : ¬ Ahead a b) (h' : ¬ Ahead b c) : ¬ Ahead a c := by unfold Ahead at *; omega
theorem ahead_asymm {a b : Cd} (h : Ahead a b) : ¬ Ahead b a := by unfold Ahead at *; omega
theorem not_ahead_self (a : Cd) : ¬ Ahead a a := by unfold Ahead; omega

theorem oBest_spec (x : Cd) (xs : List Cd) : oBest x xs ∈ x :: xs ∧ ∀ y ∈ x :: xs, ¬ Ahead y (oBest x xs) := by
  unfold oBest
  induction xs generalizing x with
  | nil => exact ⟨by simp, fun y hy => by simp at hy; subst hy; exact not_ahead_self _⟩
  | cons c xs ih =>
    rw [List.foldl_cons]
    by_cases h : 0 < cdCmp c x
    · rw [if_pos h]
      obtain ⟨h1, h2⟩ := ih c
      refine ⟨List.mem_cons_of_mem _ h1, fun y hy => ?_⟩
      rcases List.mem_cons.1 hy with rfl | hy
      · exact not_ahead_trans (ahead_asymm ((ahead_iff _ _).1 h)) (h2 c (List.mem_cons_self ..))
      · exact h2 y hy
    · rw [if_neg h]
      obtain ⟨h1, h2⟩ := ih x
      refine ⟨?_, fun y hy => ?_⟩
      · rcases List.mem_cons.1 h1 with h1 | h1
        · rw [h1]; exact List.mem_cons_self ..
        · exact List.mem_cons_of_mem _ (List.mem_cons_of_mem _ h1)
      · rcases List.mem_cons.1 hy with rfl | hy
        · exact h2 y (List.mem_cons_self ..)
        · rcases List.mem_cons.1 hy with rfl | hy
          · exact not_ahead_trans (fun e => h ((ahead_iff _ _).2 e)) (h2 x (List.mem_cons_self ..))
          · exact h2 y (List.mem_cons_of_mem _ hy)

/-- No two of one number. -/
def Apart (l : List Cd) : Prop := (l.map (·.1)).Nodup
theorem apart_eq {l : List Cd} (h : Apart l) {a b : Cd} (ha : a ∈ l) (hb : b ∈ l) (e : a.1 = b.1) : a = b := by
  unfold Apart at h
  induction l with
  | nil => cases ha
  | cons x l ih =>
    simp only [List.map_cons, List.nodup_cons] at h
    rcases List.mem_cons.1 ha with rfl | ha' <;> rcases List.mem_cons.1 hb with rfl | hb'
    · rfl
    · exact absurd (List.mem_map.2 ⟨b, hb', e.symm⟩) h.1
    · exact absurd (List.mem_map.2 ⟨a, ha', e⟩) h.1
    · exact ih h.2 ha' hb'

/-- The victim, told by any greatest one. -/
theorem victim_of {l : List Cd} (h : Apart l) {b : Cd} (hb : b ∈ l) (hm : ∀ y ∈ l, ¬ Ahead y b) : oVictim l = if oScore b.2.1 b.2.2 = 0 then (0, false) else (b.1, true) := by
  cases l with
  | nil => cases hb
  | cons x xs =>
    obtain ⟨h1, h2⟩ := oBest_spec x xs
    have : oBest x xs = b := apart_eq h h1 hb (ahead_total (hm _ h1) (h2 _ hb))
    show (if oScore (oBest x xs).2.1 (oBest x xs).2.2 = 0 then (0, false) else ((oBest x xs).1, true)) = _
    rw [this]

theorem victim_perm {l l' : List Cd} (h : Apart l) (hp : l.Perm l') : oVictim l' = oVictim l := by
  cases l with
  | nil => rw [List.Perm.eq_nil hp.symm]
  | cons x xs =>
    obtain ⟨h1, h2⟩ := oBest_spec x xs
    rw [victim_of h h1 h2]
    have h' : Apart l' := by unfold Apart at *; exact (hp.map _).nodup_iff.1 h
    exact victim_of h' (hp.mem_iff.1 h1) (fun y hy => h2 y (hp.mem_iff.2 hy))

theorem score_pos {r a : Int} (hr : 0 < r) (ha : -100 < a) : 0 < oScore r a := by
  unfold oScore
  have : 0 < min (max r 0) 1000 * (100 + min (max a (-100)) 100) := Int.mul_pos (by omega) (by omega)
  omega
theorem of_score_pos {r a : Int} (h : oScore r a ≠ 0) : 0 < r ∧ -100 < a := by
  unfold oScore at h
  constructor
  · apply Classical.byContradiction
    intro hn
    have : min (max r 0) 1000 = 0 := by omega
    rw [this] at h; simp at h
  · apply Classical.byContradiction
    intro hn
    have : 100 + min (max a (-100)) 100 = 0 := by omega
    rw [this] at h; simp at h
theorem score_more {r a d : Int} (hr : 0 < r) (hr2 : r ≤ 900) (hd : 0 ≤ d) (hd2 : d < 90) : oScore r a ≤ oScore (r + d) a := by
  unfold oScore
  have e1 : min (max r 0) 1000 = r := by omega
  have e2 : min (max (r + d) 0) 1000 = r + d := by omega
  rw [e1, e2]
  generalize hA : 100 + min (max a (-100)) 100 = A
  have : 0 ≤ d * A := Int.mul_nonneg hd (by omega)
  have : (r + d) * A = r * A + d * A := Int.add_mul _ _ _
  omega

/-- Nobody goes: everybody weighs nothing. -/
theorem none_goes {l : List Cd} (h : (oVictim l).2 = false) (c : Cd) (hc : c ∈ l) : ¬ (0 < c.2.1 ∧ -100 < c.2.2) := by
  cases l with
  | nil => cases hc
  | cons x xs =>
    obtain ⟨h1, h2⟩ := oBest_spec x xs
    intro hp
    have hs := score_pos hp.1 hp.2
    have : oScore (oBest x xs).2.1 (oBest x xs).2.2 ≠ 0 := by
      have := h2 c hc
      unfold Ahead at this
      omega
    have e : oVictim (x :: xs) = ((oBest x xs).1, true) := by
      show (if oScore (oBest x xs).2.1 (oBest x xs).2.2 = 0 then (0, false) else ((oBest x xs).1, true)) = _
      rw [if_neg this]
    rw [e] at h
    cases h
theorem none_zero {l : List Cd} (h : (oVictim l).2 = false) : (oVictim l).1 = 0 := by
  cases l with
  | nil => rfl
  | cons x xs =>
    have e : oVictim (x :: xs) = if oScore (oBest x xs).2.1 (oBest x xs).2.2 = 0 then (0, false) else ((oBest x xs).1, true) := rfl
    rw [e] at h ⊢
    split at h
    · rename_i h0; rw [if_pos h0]
    · cases h

/-- Somebody goes: the greatest one. -/
theorem some_goes {l : List Cd} (h : (oVictim l).2 = true) : ∃ b ∈ l, (oVictim l).1 = b.1 ∧ oScore b.2.1 b.2.2 ≠ 0 ∧ ∀ y ∈ l, ¬ Ahead y b := by
  cases l with
  | nil => cases h
  | cons x xs =>
    obtain ⟨h1, h2⟩ := oBest_spec x xs
    have e : oVictim (x :: xs) = if oScore (oBest x xs).2.1 (oBest x xs).2.2 = 0 then (0, false) else ((oBest x xs).1, true) := rfl
    rw [e] at h ⊢
    split at h
    · cases h
    · rename_i h0; rw [if_neg h0]; exact ⟨_, h1, rfl, h0, h2⟩

/-- The one that goes has more: it goes yet. -/
theorem more_goes {l : List Cd} (ha : Apart l) {k : Nat} {b : Cd} (hk : l[k]? = some b) (hm : ∀ y ∈ l, ¬ Ahead y b) (hs : oScore b.2.1 b.2.2 ≠ 0) (hr : b.2.1 ≤ 900) {d : Int} (hd : 0 ≤ d) (hd2 : d < 90) :
    (oVictim (l.set k (b.1, b.2.1 + d, b.2.2))).1 = b.1 := by
  have hp := of_score_pos hs
  have hmore := score_more (a := b.2.2) hp.1 hr hd hd2
  have hlt : k < l.length := (List.getElem?_eq_some_iff.1 hk).1
  have hk' : l[k] = b := (List.getElem?_eq_some_iff.1 hk).2
  have ha' : Apart (l.set k (b.1, b.2.1 + d, b.2.2)) := by
    unfold Apart at *
    rw [List.map_set]
    have : (l.map (·.1)).set k b.1 = l.map (·.1) := by
      apply List.ext_getElem?
      intro i
      rw [List.getElem?_set]
      split
      · rename_i e; subst e; simp [hlt, hk']
      · rfl
    rw [this]; exact ha
  have hmem : (b.1, b.2.1 + d, b.2.2) ∈ l.set k (b.1, b.2.1 + d, b.2.2) := List.mem_set hlt _
  have hmax : ∀ y ∈ l.set k (b.1, b.2.1 + d, b.2.2), ¬ Ahead y (b.1, b.2.1 + d, b.2.2) := by
    intro y hy
    rcases List.mem_or_eq_of_mem_set hy with hy | rfl
    · have := hm y hy
      unfold Ahead at *
      simp only
      omega
    · exact not_ahead_self _
  rw [victim_of ha' hmem hmax, if_neg]
  have := oScore_nonneg b.2.1 b.2.2
  simp only
  omega

/-- The one that goes is not there: another one goes, or nobody. -/
theorem less_goes {l : List Cd} (ha : Apart l) {k : Nat} {b : Cd} (hk : l[k]? = some b) (h : (oVictim (l.take k ++ l.drop (k + 1))).2 = true) : (oVictim (l.take k ++ l.drop (k + 1))).1 ≠ b.1 := by
  obtain ⟨c, hc, e, _, _⟩ := some_goes h
  rw [e]
  intro e2
  have hsplit : l = l.take k ++ b :: l.drop (k + 1) := by
    have hlt : k < l.length := (List.getElem?_eq_some_iff.1 hk).1
    have hk' : l[k] = b := (List.getElem?_eq_some_iff.1 hk).2
    rw [← hk', List.getElem_cons_drop, List.take_append_drop]
  unfold Apart at ha
  rw [hsplit, List.map_append, List.map_cons, List.nodup_append] at ha
  obtain ⟨_, h2, h3⟩ := ha
  simp only [List.nodup_cons] at h2
  rcases List.mem_append.1 hc with hc | hc
  · exact h3 c.1 (List.mem_map.2 ⟨c, hc, rfl⟩) b.1 (by simp) e2
  · exact h2.1 (List.mem_map.2 ⟨c, hc, e2⟩)

theorem turned_perm (l : List Cd) (n : Nat) : l.Perm (l.drop n ++ l.take n) := by
  have h : (l.take n ++ l.drop n).Perm (l.drop n ++ l.take n) := List.perm_append_comm
  rwa [List.take_append_drop] at h

end Go.Proofs.Ytiohpmcedfbcgaa
