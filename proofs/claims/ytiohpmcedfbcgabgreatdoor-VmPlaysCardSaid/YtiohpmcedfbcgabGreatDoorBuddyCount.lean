/- Frames are counted: of a good pool, those of free blocks and of taken ones are all, each once. No program in sight. Conditions: each theorem's own premises. -/
import Derived.Test.YtiohpmcedfbcgabGreatDoorFreePlain
import Derived.Test.YtiohpmcedfbcgabGreatDoorBuddyPlain
namespace Go.Proofs.YtiohpmcedfbcgabGreatDoor
set_option linter.unusedVariables false

def framesOf (l : List Bk) : List Int := l.flatMap fun t => (List.range (sz t.2).toNat).map fun i : Nat => t.1 + (i : Int)
def sumSz (l : List Bk) : Int := (l.map fun t => sz t.2).sum
theorem framesOf_append (l m : List Bk) : framesOf (l ++ m) = framesOf l ++ framesOf m := by simp [framesOf]
theorem sumSz_append (l m : List Bk) : sumSz (l ++ m) = sumSz l + sumSz m := by simp [sumSz]
theorem mem_frames1 (t : Bk) (f : Int) : f ∈ (List.range (sz t.2).toNat).map (fun i : Nat => t.1 + (i : Int)) ↔ t.1 ≤ f ∧ f < t.1 + sz t.2 := by
  have hp := sz_pos t.2
  rw [List.mem_map]
  constructor
  · rintro ⟨i, hi, rfl⟩
    rw [List.mem_range] at hi
    omega
  · rintro ⟨h1, h2⟩
    exact ⟨(f - t.1).toNat, by rw [List.mem_range]; omega, by omega⟩
theorem mem_frames {l : List Bk} {f : Int} : f ∈ framesOf l ↔ ∃ t ∈ l, t.1 ≤ f ∧ f < t.1 + sz t.2 := by
  unfold framesOf
  rw [List.mem_flatMap]
  constructor
  · rintro ⟨t, ht, h⟩; exact ⟨t, ht, (mem_frames1 t f).1 h⟩
  · rintro ⟨t, ht, h⟩; exact ⟨t, ht, (mem_frames1 t f).2 h⟩
theorem len_frames (l : List Bk) : ((framesOf l).length : Int) = sumSz l := by
  induction l with
  | nil => rfl
  | cons t l ih =>
    have hp := sz_pos t.2
    unfold framesOf sumSz at *
    simp only [List.flatMap_cons, List.length_append, List.length_map, List.length_range, List.map_cons, List.sum_cons]
    omega
theorem nodup_frames {l : List Bk} (h : l.Pairwise fun s t => ¬ Ov s.2 s.1 t.2 t.1) : (framesOf l).Nodup := by
  induction l with
  | nil => exact List.nodup_nil
  | cons t l ih =>
    obtain ⟨h1, h2⟩ := List.pairwise_cons.1 h
    have e : framesOf (t :: l) = (List.range (sz t.2).toNat).map (fun i : Nat => t.1 + (i : Int)) ++ framesOf l := by simp [framesOf]
    rw [e, List.nodup_append]
    refine ⟨?_, ih h2, ?_⟩
    · rw [List.Nodup, List.pairwise_map]
      exact (List.nodup_range (n := (sz t.2).toNat)).imp (fun hne e => hne (by omega))
    · intro a ha b hb e
      subst e
      obtain ⟨s, hs, r⟩ := mem_frames.1 hb
      have ha := (mem_frames1 t a).1 ha
      exact h1 s hs ⟨by omega, by omega⟩

theorem Good.apart {n : Int} {fr : Fr} {tk : List Bk} (h : Good n fr tk) : (tk ++ listTo fr 7).Pairwise fun s t => ¬ Ov s.2 s.1 t.2 t.1 := by
  rw [List.pairwise_append]
  refine ⟨h.tt, ?_, fun t ht s hs ho => ?_⟩
  · have : ∀ k, k ≤ 7 → (listTo fr k).Pairwise fun s t => ¬ Ov s.2 s.1 t.2 t.1 := by
      intro k
      induction k with
      | zero => intro _; exact List.Pairwise.nil
      | succ k ih =>
        intro hk
        unfold listTo
        rw [List.pairwise_append]
        refine ⟨ih (by omega), ?_, fun s hs t ht ho => ?_⟩
        · rw [List.pairwise_map]
          refine (h.nd k (by omega)).imp_of_mem ?_
          intro a b ha hb hne ho
          exact hne (h.ff k a k b (by omega) (by omega) ha hb ho).2
        · obtain ⟨h1, h2⟩ := mem_listTo.1 hs
          obtain ⟨b, hb, rfl⟩ := List.mem_map.1 ht
          have := (h.ff s.2 s.1 k b (by omega) (by omega) h2 hb ho).1
          omega
    exact this 7 (Nat.le_refl _)
  · obtain ⟨h1, h2⟩ := mem_listTo.1 hs
    exact h.ft s.2 s.1 h1 h2 t ht ho.symm

theorem Good.frames {n : Int} {fr : Fr} {tk : List Bk} (h : Good n fr tk) (f : Int) : f ∈ framesOf (tk ++ listTo fr 7) ↔ 0 ≤ f ∧ f < n := by
  rw [mem_frames]
  constructor
  · rintro ⟨t, ht, r1, r2⟩
    have hok : Ok n t.2 t.1 := by
      rcases List.mem_append.1 ht with h1 | h1
      · exact h.okT t h1
      · obtain ⟨h2, h3⟩ := mem_listTo.1 h1
        exact h.okF t.2 t.1 h2 h3
    obtain ⟨_, a, _, b⟩ := hok
    omega
  · rintro ⟨h0, h1⟩
    rcases h.cov f h0 h1 with ⟨k, b, hk, hb, r⟩ | ⟨t, ht, r⟩
    · exact ⟨(b, k), List.mem_append_right _ (mem_listTo.2 ⟨hk, hb⟩), r⟩
    · exact ⟨t, List.mem_append_left _ ht, r⟩

theorem Good.sum {n : Int} {fr : Fr} {tk : List Bk} (h : Good n fr tk) (hn : 0 ≤ n) : sumSz tk + sumSz (listTo fr 7) = n := by
  have hp : (framesOf (tk ++ listTo fr 7)).Perm ((List.range n.toNat).map fun i : Nat => (i : Int)) := by
    rw [List.perm_ext_iff_of_nodup (nodup_frames h.apart)]
    · intro f
      rw [h.frames, List.mem_map]
      constructor
      · rintro ⟨h0, h1⟩; exact ⟨f.toNat, by rw [List.mem_range]; omega, by omega⟩
      · rintro ⟨i, hi, rfl⟩; rw [List.mem_range] at hi; omega
    · rw [List.Nodup, List.pairwise_map]
      exact (List.nodup_range (n := n.toNat)).imp (fun hne e => hne (by omega))
  have hl := hp.length_eq
  simp only [List.length_map, List.length_range] at hl
  have := len_frames (tk ++ listTo fr 7)
  rw [sumSz_append] at this
  omega

theorem sumSz_map (l : List Int) (k : Nat) : sumSz (l.map fun b => (b, k)) = l.length * sz k := by
  induction l with
  | nil => simp [sumSz]
  | cons a l ih =>
    unfold sumSz at *
    simp only [List.map_cons, List.sum_cons, List.length_cons]
    rw [ih]
    have : ((l.length + 1 : Nat) : Int) * sz k = l.length * sz k + sz k := by
      rw [Int.natCast_add, Int.add_mul]; simp
    omega
theorem left_sum (fr : Fr) : leftOf fr = sumSz (listTo fr 7) := by
  unfold leftOf
  simp only [listTo, List.nil_append, sumSz_append, sumSz_map]
  have e0 : sz 0 = 1 := rfl
  have e1 : sz 1 = 2 := rfl
  have e2 : sz 2 = 4 := rfl
  have e3 : sz 3 = 8 := rfl
  have e4 : sz 4 = 16 := rfl
  have e5 : sz 5 = 32 := rfl
  have e6 : sz 6 = 64 := rfl
  rw [e0, e1, e2, e3, e4, e5, e6]
  omega
theorem Good.left {n : Int} {fr : Fr} {tk : List Bk} (h : Good n fr tk) (hn : 0 ≤ n) : leftOf fr = n - sumSz tk := by
  have := h.sum hn
  rw [left_sum]; omega
end Go.Proofs.YtiohpmcedfbcgabGreatDoor
