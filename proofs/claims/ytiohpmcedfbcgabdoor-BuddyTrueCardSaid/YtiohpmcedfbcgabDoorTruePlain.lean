/- BuddyTrue's plain law: which frames are free, which blocks are whole, and what an order's least is. Also look-ups in a map of marks. Conditions: each theorem's own premises. -/
import Derived.Test.YtiohpmcedfbcgabDoorPooled
namespace Go.Proofs.YtiohpmcedfbcgabDoor
open Go.RowKit
set_option linter.unusedVariables false

/-- A frame lies in one of some blocks. -/
def FrIn (l : List Bk) (f : Int) : Prop := ∃ t ∈ l, t.1 ≤ f ∧ f < t.1 + sz t.2
theorem frIn_snoc {l : List Bk} {j : Nat} {t : Bk} (h : l[j]? = some t) (f : Int) : FrIn (l.take (j + 1)) f ↔ FrIn (l.take j) f ∨ (t.1 ≤ f ∧ f < t.1 + sz t.2) := by
  have e : l.take (j + 1) = l.take j ++ [t] := by rw [List.take_add_one, h]; rfl
  rw [e]
  unfold FrIn
  constructor
  · rintro ⟨s, hs, h1⟩
    rcases List.mem_append.1 hs with h2 | h2
    · exact .inl ⟨s, h2, h1⟩
    · rw [List.mem_singleton.1 h2] at h1; exact .inr h1
  · rintro (⟨s, hs, h1⟩ | h1)
    · exact ⟨s, List.mem_append_left _ hs, h1⟩
    · exact ⟨t, by simp, h1⟩

/-- A map has a mark at each of some frames, and nothing else. -/
def Marks (m : List (Int × Int)) (P : Int → Prop) : Prop := (∀ f, P f → mget m f = some 1) ∧ (∀ f, ¬ P f → mget m f = none)
theorem Marks.nil (P : Int → Prop) (h : ∀ f, ¬ P f) : Marks [] P := ⟨fun f hf => absurd hf (h f), fun _ _ => rfl⟩
theorem Marks.congr {m : List (Int × Int)} {P Q : Int → Prop} (h : Marks m P) (e : ∀ f, P f ↔ Q f) : Marks m Q := ⟨fun f hf => h.1 f ((e f).2 hf), fun f hf => h.2 f (fun hp => hf ((e f).1 hp))⟩
theorem Marks.put {m : List (Int × Int)} {P : Int → Prop} (h : Marks m P) (k : Int) : Marks (mput m k 1) (fun f => P f ∨ f = k) := by
  refine ⟨fun f hf => ?_, fun f hf => ?_⟩
  · rw [mget_mput]
    by_cases e : f = k
    · rw [if_pos e]
    · rw [if_neg e]; exact h.1 f (hf.resolve_right e)
  · rw [mget_mput, if_neg (fun e => hf (.inr e))]
    exact h.2 f (fun hp => hf (.inl hp))

theorem zeroIn (w : World) : (zeroValue 3).run Tryd.prog w = .ok (.int .i64 0) w := by kernel_rfl
theorem lookup_mark {w : World} {b : Nat} {m : List (Int × Int)} (h : MapIs w b (.int .i64) encI (fun n : Int => Value.int .i64 n) m) (k : Int) : (Instr.lookup 33 (.map (some b)) (.int .i64 k) false).run Tryd.prog w = .ok (.int .i64 ((mget m k).getD 0)) w := by
  have h1 := h.run_lookup keyI Tryd.underlying33 Tryd.underlying3 (zeroIn w) k false
  have e : (mget m k).elim (Value.int .i64 0) (fun n : Int => Value.int .i64 n) = .int .i64 ((mget m k).getD 0) := by cases mget m k <;> rfl
  rw [e] at h1
  exact h1

/-- The least order that serves. -/
def leastR (o : Nat) (l : List Bk) : Nat := l.foldl (fun m t => if o ≤ t.2 then min m t.2 else m) 7
theorem leastR_snoc {o : Nat} {l : List Bk} {j : Nat} {t : Bk} (h : l[j]? = some t) : leastR o (l.take (j + 1)) = if o ≤ t.2 then min (leastR o (l.take j)) t.2 else leastR o (l.take j) := by
  have e : l.take (j + 1) = l.take j ++ [t] := by rw [List.take_add_one, h]; rfl
  rw [e]
  unfold leastR
  rw [List.foldl_append]
  rfl
theorem fold_le (o : Nat) : ∀ (l : List Bk) (m : Nat), l.foldl (fun m t => if o ≤ t.2 then min m t.2 else m) m ≤ m
  | [], m => Nat.le_refl _
  | t :: l, m => by
    rw [List.foldl_cons]
    refine Nat.le_trans (fold_le o l _) ?_
    split <;> omega
theorem leastR_le (o : Nat) (l : List Bk) : leastR o l ≤ 7 := fold_le o l 7
theorem fold_is (o k : Nat) : ∀ (l : List Bk) (m : Nat), k ≤ m → (∀ t ∈ l, o ≤ t.2 → k ≤ t.2) → ((∃ t ∈ l, t.2 = k ∧ o ≤ k) ∨ m = k) → l.foldl (fun m t => if o ≤ t.2 then min m t.2 else m) m = k
  | [], m, hm, _, h => by
    rcases h with ⟨t, ht, _⟩ | h
    · cases ht
    · exact h
  | t :: l, m, hm, ha, h => by
    rw [List.foldl_cons]
    refine fold_is o k l _ ?_ (fun s hs => ha s (List.mem_cons_of_mem _ hs)) ?_
    · split
      · rename_i h1; have := ha t (by simp) h1; omega
      · exact hm
    · rcases h with ⟨s, hs, h1, h2⟩ | h
      · rcases List.mem_cons.1 hs with rfl | hs
        · right; rw [if_pos (by omega)]; omega
        · exact .inl ⟨s, hs, h1, h2⟩
      · by_cases h1 : o ≤ t.2
        · right; rw [if_pos h1]; have := ha t (by simp) h1; omega
        · right; rw [if_neg h1]; exact h
theorem leastR_is {o k : Nat} {l : List Bk} (hk : k ≤ 7) (ha : ∀ t ∈ l, o ≤ t.2 → k ≤ t.2) (h : ∃ t ∈ l, t.2 = k ∧ o ≤ k) : leastR o l = k := fold_is o k l 7 hk ha (.inl h)

/-- All frames of a block are in some blocks. -/
def AllIn (l : List Bk) (o : Nat) (b : Int) : Prop := ∀ f, b ≤ f → f < b + sz o → FrIn l f

theorem whole_up {n : Int} {fr : Fr} {tk : List Bk} (h : Good n fr tk) : ∀ (d o : Nat) (b : Int), o + d = 6 → Whole n tk o b → ∃ k c, o ≤ k ∧ k < 7 ∧ c ∈ fr k
  | 0, o, b, hd, hw => ⟨o, b, Nat.le_refl _, by omega, (h.canon (by omega)).2 ⟨hw, fun h6 => by omega⟩⟩
  | d + 1, o, b, hd, hw => by
    by_cases hu : Whole n tk (o + 1) (par o b)
    · obtain ⟨k, c, h1, h2, h3⟩ := whole_up h d (o + 1) _ (by omega) hu
      exact ⟨k, c, by omega, h2, h3⟩
    · exact ⟨o, b, Nat.le_refl _, by omega, (h.canon (by omega)).2 ⟨hw, fun _ => hu⟩⟩

/-- If no block of an order, or a greater one, is free, no block of it has all its frames free. -/
theorem none_whole {n : Int} {fr : Fr} {tk fl : List Bk} (h : Good n fr tk) (hf : FreeOf fr fl) {o : Nat} (ho : o ≤ 6) (hno : ∀ k, o ≤ k → k < 7 → fr k = []) {b : Int} (h0 : 0 ≤ b) (hb : b % sz o = 0) (hn : b + sz o ≤ n) : ¬ AllIn fl o b := by
  intro ha
  have hw : Whole n tk o b := by
    refine ⟨⟨by omega, h0, hb, hn⟩, fun t ht hov => ?_⟩
    obtain ⟨o1, o2⟩ := hov
    have hpt := sz_pos t.2
    have hpo := sz_pos o
    obtain ⟨s, hs, s1, s2⟩ := ha (max b t.1) (by omega) (by omega)
    obtain ⟨s3, s4⟩ := mem_listTo.1 (hf.1.mem_iff.1 hs)
    exact h.ft s.2 s.1 s3 s4 t ht ⟨by omega, by omega⟩
  obtain ⟨k, c, h1, h2, h3⟩ := whole_up h (6 - o) o b (by omega) hw
  rw [hno k h1 h2] at h3
  cases h3

/-- What is given has all its frames free. -/
theorem given_all {n : Int} {fr : Fr} {tk fl : List Bk} (h : Good n fr tk) (hf : FreeOf fr fl) {o k : Nat} (hk : k < 7) (hok : o ≤ k) {b : Int} (hb : b ∈ fr k) : AllIn fl o b ∧ 0 ≤ b ∧ b % sz o = 0 ∧ b + sz o ≤ n ∧ (b, k) ∈ fl := by
  have hm : (b, k) ∈ fl := hf.1.mem_iff.2 (mem_listTo.2 ⟨hk, hb⟩)
  obtain ⟨_, h0, ha, hn⟩ := h.okF k b hk hb
  obtain ⟨d, rfl⟩ : ∃ d, k = o + d := ⟨k - o, by omega⟩
  have hsz : sz (o + d) = sz o * sz d := by unfold sz; exact Int.pow_add 2 o d
  have hle : sz o ≤ sz (o + d) := by
    rw [hsz]
    have h1 := sz_pos o
    have h2 := sz_pos d
    have h3 := Int.mul_le_mul_of_nonneg_left (show (1 : Int) ≤ sz d by omega) (show (0 : Int) ≤ sz o by omega)
    rw [Int.mul_one] at h3
    exact h3
  have hd : sz o ∣ sz (o + d) := ⟨_, hsz⟩
  refine ⟨fun f h1 h2 => ⟨_, hm, h1, by simp only; omega⟩, h0, ?_, by omega, hm⟩
  exact Int.emod_eq_zero_of_dvd (Int.dvd_trans hd (Int.dvd_of_emod_eq_zero ha))
theorem given_least {fr : Fr} {fl : List Bk} (hf : FreeOf fr fl) {o k : Nat} (hk : k < 7) (hok : o ≤ k) (hno : ∀ j, o ≤ j → j < k → fr j = []) {b : Int} (hb : (b, k) ∈ fl) : leastR o fl = k := by
  refine leastR_is (by omega) (fun t ht h1 => ?_) ⟨(b, k), hb, rfl, hok⟩
  rcases Nat.lt_or_ge t.2 k with h2 | h2
  · obtain ⟨_, h3⟩ := mem_listTo.1 (hf.1.mem_iff.1 ht)
    rw [hno t.2 h1 h2] at h3
    cases h3
  · exact h2
theorem sum_put {tk : List Bk} {b : Int} {o : Nat} (h : mget tk b = none) : sumSz (mput tk b o) = sumSz tk + sz o := by
  unfold mput
  rw [if_neg (by rw [h]; simp), sumSz_append]
  simp [sumSz]
end Go.Proofs.YtiohpmcedfbcgabDoor
