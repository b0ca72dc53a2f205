/- BuddyPlays' plain law: of each frame whether it is free; the document's way to find free blocks finds those of the pool. No program in sight. Conditions: each theorem's own premises. -/
import Derived.Test.YtiohpmcedfbcgabDoorBuddyCount
import Derived.Test.YtiohpmcedfbcgabDoorBlocks
import Derived.Test.YtiohpmcedfbcgabDoorBuddyGive
namespace Go.Proofs.YtiohpmcedfbcgabDoor
open Go.RowKit
set_option linter.unusedVariables false

/-- Which frames are free. -/
abbrev Bits := Nat → Bool
/-- Below n just those frames are free that no taken block covers. -/
def BitsOf (n : Nat) (tk : List Bk) (g : Bits) : Prop := ∀ f : Nat, f < n → (g f = true ↔ ∀ t ∈ tk, ¬ (t.1 ≤ f ∧ (f : Int) < t.1 + sz t.2))
/-- All frames of a block are there, and free. -/
def AllFree (n : Nat) (g : Bits) (b : Int) (o : Nat) : Prop := ∀ f : Nat, b ≤ f → (f : Int) < b + sz o → f < n ∧ g f = true
theorem allFree_whole {n : Nat} {tk : List Bk} {g : Bits} (h : BitsOf n tk g) {o : Nat} (ho : o < 7) {b : Int} (h0 : 0 ≤ b) (ha : b % sz o = 0) (hf : AllFree n g b o) : Whole n tk o b := by
  have hp := sz_pos o
  have h1 := hf (b + sz o - 1).toNat (by omega) (by omega)
  refine ⟨⟨ho, h0, ha, by omega⟩, fun t ht hov => ?_⟩
  obtain ⟨o1, o2⟩ := hov
  have hpt := sz_pos t.2
  obtain ⟨h2, h3⟩ := hf (max b t.1).toNat (by omega) (by omega)
  exact (h _ h2).1 h3 t ht ⟨by omega, by omega⟩
theorem whole_allFree {n : Nat} {tk : List Bk} {g : Bits} (h : BitsOf n tk g) {o : Nat} {b : Int} (hw : Whole n tk o b) : AllFree n g b o := fun f h1 h2 => by
  obtain ⟨⟨_, h0, _, hn⟩, ht⟩ := hw
  have hf : f < n := by omega
  exact ⟨hf, (h f hf).2 (fun t htm hc => ht t htm ⟨by omega, by omega⟩)⟩

/-- What the document has found of free blocks, before it comes to frame f. -/
def FreeTo (fr : Fr) (l : List Bk) (f : Int) : Prop :=
  (∀ t : Bk, t ∈ l ↔ t.2 < 7 ∧ t.1 ∈ fr t.2 ∧ t.1 < f) ∧ (l.Pairwise fun s t => s.1 < t.1) ∧ (∀ k c, k < 7 → c ∈ fr k → c < f → c + sz k ≤ f)
theorem FreeTo.start {n : Int} {fr : Fr} {tk : List Bk} (h : Good n fr tk) : FreeTo fr [] 0 := by
  refine ⟨fun t => ⟨fun ht => (by cases ht), fun ⟨h1, h2, h3⟩ => ?_⟩, List.Pairwise.nil, fun k c hk hc h0 => ?_⟩
  · have := (h.okF t.2 t.1 h1 h2).2.1; omega
  · have := (h.okF k c hk hc).2.1; omega
theorem FreeTo.no {n : Nat} {fr : Fr} {tk : List Bk} {g : Bits} (h : Good n fr tk) (hb : BitsOf n tk g) {l : List Bk} {f : Nat} (hl : FreeTo fr l f) (hg : g f = false) : FreeTo fr l ((f : Int) + 1) := by
  have hno : ∀ k c, k < 7 → c ∈ fr k → c ≠ f := fun k c hk hc e => by
    subst e
    have h1 := whole_allFree hb (h.whole hk hc)
    have := sz_pos k
    obtain ⟨_, h2⟩ := h1 f (Int.le_refl _) (by omega)
    rw [hg] at h2; cases h2
  refine ⟨fun t => ?_, hl.2.1, fun k c hk hc h1 => ?_⟩
  · rw [hl.1]
    constructor
    · rintro ⟨h1, h2, h3⟩; exact ⟨h1, h2, by omega⟩
    · rintro ⟨h1, h2, h3⟩; exact ⟨h1, h2, by have := hno _ _ h1 h2; omega⟩
  · have h2 := hno k c hk hc
    have := hl.2.2 k c hk hc (by omega)
    omega
theorem FreeTo.found {n : Nat} {fr : Fr} {tk : List Bk} {g : Bits} (h : Good n fr tk) (hb : BitsOf n tk g) {l : List Bk} {f : Nat} (hl : FreeTo fr l f) {k : Nat} (hk : k < 7) (ha : (f : Int) % sz k = 0) (hf : AllFree n g f k) (hm : ∀ j, k < j → j < 7 → ¬ ((f : Int) % sz j = 0 ∧ AllFree n g f j)) : (f : Int) ∈ fr k := by
  have hw := allFree_whole hb hk (by omega) ha hf
  obtain ⟨j, c, hj, hc, h1, h2⟩ := h.covers hw
  have he : c = f := by
    rcases Int.lt_or_le c f with h3 | h3
    · have := hl.2.2 j c hj hc h3; omega
    · omega
  subst he
  rcases Nat.lt_trichotomy j k with h3 | h3 | h3
  · exfalso
    have hk1 : j < 6 := by omega
    refine h.top hk1 hc ?_
    have hal : (f : Int) % sz (j + 1) = 0 := align_mono (by omega) ha
    have hp : par j (f : Int) = f := by unfold par; rw [hal]; omega
    rw [hp]
    have hs : sz (j + 1) ≤ sz k := by
      obtain ⟨d, rfl⟩ : ∃ d, k = (j + 1) + d := ⟨k - (j + 1), by omega⟩
      have e := sz_mul (j + 1) d
      rw [e]
      have h1 := sz_pos (j + 1)
      have h2 := sz_pos d
      have h3 := Int.mul_le_mul_of_nonneg_right (show (1 : Int) ≤ sz d by omega) (show (0 : Int) ≤ sz (j + 1) by omega)
      rw [Int.one_mul] at h3
      exact h3
    exact hw.sub (by omega) hal (Int.le_refl _) (by omega)
  · rw [← h3]; exact hc
  · have h4 := h.whole hj hc
    exact absurd ⟨h4.1.2.2.1, whole_allFree hb h4⟩ (hm j h3 hj)
theorem FreeTo.yes {n : Nat} {fr : Fr} {tk : List Bk} (h : Good n fr tk) {l : List Bk} {f : Int} (hl : FreeTo fr l f) {k : Nat} (hk : k < 7) (hm : f ∈ fr k) : FreeTo fr (l ++ [(f, k)]) (f + sz k) := by
  have hp := sz_pos k
  refine ⟨fun t => ?_, ?_, fun j c hj hc h1 => ?_⟩
  · rw [List.mem_append, List.mem_singleton, hl.1]
    constructor
    · rintro (⟨h1, h2, h3⟩ | rfl)
      · exact ⟨h1, h2, by omega⟩
      · exact ⟨hk, hm, by simp only; omega⟩
    · rintro ⟨h1, h2, h3⟩
      rcases Int.lt_or_le t.1 f with h4 | h4
      · exact .inl ⟨h1, h2, h4⟩
      · right
        have hpt := sz_pos t.2
        obtain ⟨e1, e2⟩ := h.ff t.2 t.1 k f h1 hk h2 hm ⟨by omega, by omega⟩
        rw [← e1, ← e2]
  · rw [List.pairwise_append]
    refine ⟨hl.2.1, by simp, fun s hs t ht => ?_⟩
    rw [List.mem_singleton.1 ht]
    exact ((hl.1 s).1 hs).2.2
  · rcases Int.lt_or_le c f with h4 | h4
    · have := hl.2.2 j c hj hc h4; omega
    · have hpt := sz_pos j
      obtain ⟨e1, e2⟩ := h.ff j c k f hj hk hc hm ⟨by omega, by omega⟩
      rw [e1, e2]; omega
theorem FreeTo.len {n : Nat} {fr : Fr} {l : List Bk} {f : Int} (hl : FreeTo fr l f) {tk : List Bk} (h : Good n fr tk) (hn : n ≤ 256) : l.length ≤ 256 := by
  have hp : (l.map (·.1)).Nodup := by
    rw [List.Nodup, List.pairwise_map]
    exact hl.2.1.imp (fun h e => by omega)
  have h1 := len_le_nat n (l.map (·.1)) hp (fun x hx => by
    obtain ⟨t, ht, rfl⟩ := List.mem_map.1 hx
    obtain ⟨h1, h2, _⟩ := (hl.1 t).1 ht
    obtain ⟨_, h3, _, h4⟩ := h.okF t.2 t.1 h1 h2
    have := sz_pos t.2
    omega)
  rw [List.length_map] at h1
  omega
theorem FreeTo.all {n : Nat} {fr : Fr} {tk : List Bk} (h : Good n fr tk) {l : List Bk} {f : Int} (hl : FreeTo fr l f) (hf : (n : Int) ≤ f) : FreeOf fr l := by
  refine ⟨?_, hl.2.1.imp (fun h => by omega)⟩
  have hn2 : (listTo fr 7).Nodup := ((List.pairwise_append.1 h.apart).2.1).imp (fun {a b} hab e => by subst e; exact hab (Ov.self _ _))
  have hn1 : l.Nodup := hl.2.1.imp (fun {a b} hab e => by subst e; omega)
  rw [List.perm_ext_iff_of_nodup hn1 hn2]
  intro t
  rw [hl.1, mem_listTo]
  constructor
  · rintro ⟨h1, h2, _⟩; exact ⟨h1, h2⟩
  · rintro ⟨h1, h2⟩
    obtain ⟨_, h3, _, h4⟩ := h.okF t.2 t.1 h1 h2
    have := sz_pos t.2
    exact ⟨h1, h2, by omega⟩

/-- Frames from a up to b are made so. -/
def fill (g : Bits) (a b : Int) (v : Bool) : Bits := fun f => if a ≤ f ∧ (f : Int) < b then v else g f
theorem fill_start (g : Bits) (a : Int) (v : Bool) : fill g a a v = g := by
  funext f
  unfold fill
  rw [if_neg (by omega)]
theorem fill_more (g : Bits) (a : Int) (c : Nat) (v : Bool) (h : a ≤ c) : fill g a ((c : Int) + 1) v = fun f => if f = c then v else fill g a c v f := by
  funext f
  unfold fill
  by_cases e : f = c
  · subst e
    rw [if_pos ⟨h, by omega⟩, if_pos rfl]
  · rw [if_neg e]
    by_cases h1 : a ≤ f ∧ (f : Int) < c
    · rw [if_pos h1, if_pos ⟨h1.1, by omega⟩]
    · rw [if_neg h1, if_neg (by omega)]
theorem BitsOf.took {n : Nat} {tk : List Bk} {g : Bits} (h : BitsOf n tk g) {b : Int} {o : Nat} (hm : mget tk b = none) : BitsOf n (mput tk b o) (fill g b (b + sz o) false) := fun f hf => by
  have e : mput tk b o = tk ++ [(b, o)] := by unfold mput; rw [hm]; rfl
  rw [e]
  unfold fill
  by_cases h1 : b ≤ f ∧ (f : Int) < b + sz o
  · rw [if_pos h1]
    exact ⟨fun h => (by cases h), fun h => absurd h1 (h (b, o) (by simp))⟩
  · rw [if_neg h1, h f hf]
    constructor
    · intro h2 t ht
      rcases List.mem_append.1 ht with ht | ht
      · exact h2 t ht
      · rw [List.mem_singleton.1 ht]; exact h1
    · exact fun h2 t ht => h2 t (List.mem_append_left _ ht)
theorem BitsOf.gave {n : Nat} {fr : Fr} {tk : List Bk} {g : Bits} (h : BitsOf n tk g) (hg : Good n fr tk) (hnd : MNodup tk) {b : Int} {o : Nat} (hm : mget tk b = some o) : BitsOf n (mdel tk b) (fill g b (b + sz o) true) := fun f hf => by
  have hp := mdel_put hnd hm
  have hpo := sz_pos o
  have htt := (List.pairwise_cons.1 (hg.perm hp).tt).1
  unfold fill
  by_cases h1 : b ≤ f ∧ (f : Int) < b + sz o
  · rw [if_pos h1]
    refine ⟨fun _ t ht hc => htt t ht ⟨by simp only; omega, by simp only; omega⟩, fun _ => rfl⟩
  · rw [if_neg h1, h f hf]
    constructor
    · exact fun h2 t ht => h2 t (List.mem_filter.1 ht).1
    · intro h2 t ht
      rcases List.mem_cons.1 (hp.mem_iff.1 ht) with rfl | h3
      · exact h1
      · exact h2 t h3

/-- How many frames below n are free. -/
def cntFree (n : Nat) (g : Bits) : Nat := ((List.range n).filter fun f => g f).length
theorem cntFree_more (n : Nat) (g : Bits) : cntFree (n + 1) g = if g n then cntFree n g + 1 else cntFree n g := by
  unfold cntFree
  rw [List.range_succ, List.filter_append]
  cases h : g n <;> simp [h]
theorem cntFree_le (n : Nat) (g : Bits) : cntFree n g ≤ n := by
  unfold cntFree
  have := List.length_filter_le (fun f => g f) (List.range n)
  rw [List.length_range] at this
  exact this
theorem cntFree_left {n : Nat} {fr : Fr} {tk : List Bk} {g : Bits} (h : BitsOf n tk g) (hg : Good n fr tk) : (cntFree n g : Int) = leftOf fr := by
  rw [left_sum, ← len_frames]
  unfold cntFree
  have hp : (((List.range n).filter fun f => g f).map fun i : Nat => (i : Int)).Perm (framesOf (listTo fr 7)) := by
    rw [List.perm_ext_iff_of_nodup]
    · intro f
      rw [List.mem_map, mem_frames]
      constructor
      · rintro ⟨i, hi, rfl⟩
        obtain ⟨h1, h2⟩ := List.mem_filter.1 hi
        rw [List.mem_range] at h1
        rcases hg.cov i (by omega) (by omega) with ⟨k, b, hk, hb, r⟩ | ⟨t, ht, r⟩
        · exact ⟨(b, k), mem_listTo.2 ⟨hk, hb⟩, r⟩
        · exact absurd r ((h i h1).1 h2 t ht)
      · rintro ⟨t, ht, r1, r2⟩
        obtain ⟨h1, h2⟩ := mem_listTo.1 ht
        obtain ⟨h3, h4⟩ := whole_allFree h (hg.whole h1 h2) f.toNat (by have := (hg.okF _ _ h1 h2).2.1; omega) (by have := (hg.okF _ _ h1 h2).2.1; omega)
        refine ⟨f.toNat, List.mem_filter.2 ⟨List.mem_range.2 h3, h4⟩, by have := (hg.okF _ _ h1 h2).2.1; omega⟩
    · rw [List.Nodup, List.pairwise_map]
      exact ((List.nodup_range (n := n)).filter _).imp (fun hne e => hne (by omega))
    · exact nodup_frames (List.pairwise_append.1 hg.apart).2.1
  have := hp.length_eq
  rw [List.length_map] at this
  omega

/-- The document's choice: of the least order that serves, the first. -/
def bestR (o : Int) (l : List Bk) : Int × Int := l.foldl (fun m t => if o ≤ t.2 ∧ (m.1 < 0 ∨ (t.2 : Int) < m.2) then (t.1, (t.2 : Int)) else m) (-1, 0)
theorem bestR_snoc {o : Int} {l : List Bk} {j : Nat} {t : Bk} (h : l[j]? = some t) : bestR o (l.take (j + 1)) = if o ≤ t.2 ∧ ((bestR o (l.take j)).1 < 0 ∨ (t.2 : Int) < (bestR o (l.take j)).2) then (t.1, (t.2 : Int)) else bestR o (l.take j) := by
  have e : l.take (j + 1) = l.take j ++ [t] := by rw [List.take_add_one, h]; rfl
  rw [e]
  unfold bestR
  rw [List.foldl_append]
  rfl
theorem bestR_bound (o : Int) : ∀ (l : List Bk) (m : Int × Int), (∀ t ∈ l, 0 ≤ t.1 ∧ t.1 ≤ 256 ∧ t.2 < 7) → -1 ≤ m.1 ∧ m.1 ≤ 256 ∧ 0 ≤ m.2 ∧ m.2 < 7 → -1 ≤ (l.foldl (fun m t => if o ≤ t.2 ∧ (m.1 < 0 ∨ (t.2 : Int) < m.2) then (t.1, (t.2 : Int)) else m) m).1 ∧ (l.foldl (fun m t => if o ≤ t.2 ∧ (m.1 < 0 ∨ (t.2 : Int) < m.2) then (t.1, (t.2 : Int)) else m) m).1 ≤ 256 ∧ 0 ≤ (l.foldl (fun m t => if o ≤ t.2 ∧ (m.1 < 0 ∨ (t.2 : Int) < m.2) then (t.1, (t.2 : Int)) else m) m).2 ∧ (l.foldl (fun m t => if o ≤ t.2 ∧ (m.1 < 0 ∨ (t.2 : Int) < m.2) then (t.1, (t.2 : Int)) else m) m).2 < 7
  | [], m, _, hm => hm
  | t :: l, m, h, hm => by
    rw [List.foldl_cons]
    refine bestR_bound o l _ (fun s hs => h s (List.mem_cons_of_mem _ hs)) ?_
    split
    · obtain ⟨h1, h2, h3⟩ := h t (by simp)
      exact ⟨by simp only; omega, h2, by simp only; omega, by simp only; omega⟩
    · exact hm
theorem bestR_none (o : Int) : ∀ (l : List Bk), (∀ t ∈ l, (t.2 : Int) < o) → bestR o l = (-1, 0) := by
  unfold bestR
  generalize ((-1 : Int), (0 : Int)) = m
  intro l
  induction l generalizing m with
  | nil => intro _; rfl
  | cons t l ih =>
    intro h
    rw [List.foldl_cons, if_neg (by have := h t (by simp); omega)]
    exact ih m (fun s hs => h s (List.mem_cons_of_mem _ hs))
theorem bestR_keep (o : Int) (b k : Int) (hb : 0 ≤ b) : ∀ (l : List Bk), (∀ t ∈ l, o ≤ (t.2 : Int) → k ≤ t.2) → l.foldl (fun m t => if o ≤ t.2 ∧ (m.1 < 0 ∨ (t.2 : Int) < m.2) then (t.1, (t.2 : Int)) else m) (b, k) = (b, k)
  | [], _ => rfl
  | t :: l, h => by
    rw [List.foldl_cons, if_neg (by
      rintro ⟨h1, h2⟩
      have := h t (by simp) h1
      simp only at h2
      omega)]
    exact bestR_keep o b k hb l (fun s hs => h s (List.mem_cons_of_mem _ hs))
theorem bestR_is {o : Int} {k : Nat} {b : Int} : ∀ {l : List Bk}, (∀ t ∈ l, 0 ≤ t.1) → (l.Pairwise fun s t => s.1 ≤ t.1) → (b, k) ∈ l → o ≤ k → (∀ t ∈ l, o ≤ (t.2 : Int) → k ≤ t.2) → (∀ t ∈ l, t.2 = k → b ≤ t.1) → ∀ m : Int × Int, (m.1 < 0 ∨ (k : Int) < m.2) → l.foldl (fun m t => if o ≤ t.2 ∧ (m.1 < 0 ∨ (t.2 : Int) < m.2) then (t.1, (t.2 : Int)) else m) m = (b, (k : Int))
  | [], _, _, h, _, _, _, _, _ => by cases h
  | t :: l, h0, hs, hm, ho, ha, hf, m, hmm => by
    rw [List.foldl_cons]
    obtain ⟨hs1, hs2⟩ := List.pairwise_cons.1 hs
    by_cases e : t.2 = k
    · have hbt : t.1 = b := by
        have h1 := hf t (by simp) e
        rcases List.mem_cons.1 hm with h2 | h2
        · rw [← h2]
        · have := hs1 _ h2; simp only at this; omega
      rw [if_pos ⟨by omega, by omega⟩, hbt, e]
      refine bestR_keep o b k (by have := h0 t (by simp); omega) l (fun s hs h1 => ?_)
      have := ha s (List.mem_cons_of_mem _ hs) h1
      omega
    · have hm2 : (b, k) ∈ l := by
        rcases List.mem_cons.1 hm with h2 | h2
        · exact absurd (by rw [← h2]) e
        · exact h2
      refine bestR_is (fun s hs => h0 s (List.mem_cons_of_mem _ hs)) hs2 hm2 ho (fun s hs => ha s (List.mem_cons_of_mem _ hs)) (fun s hs => hf s (List.mem_cons_of_mem _ hs)) _ ?_
      split
      · rename_i h1
        right
        simp only
        have := ha t (by simp) h1.1
        omega
      · exact hmm
theorem listTo_alike {fr fr' : Fr} : ∀ {k : Nat}, (∀ j, j < k → (fr j).Perm (fr' j)) → (listTo fr k).Perm (listTo fr' k)
  | 0, _ => List.Perm.refl _
  | k + 1, h => by
    unfold listTo
    exact (listTo_alike (fun j hj => h j (by omega))).append ((h k (by omega)).map _)

theorem FreeOf.alike {n : Int} {fr fr' : Fr} {tk tk' : List Bk} {l l' : List Bk} (hg : Good n fr tk) (hg' : Good n fr' tk') (ht : ∀ t, t ∈ tk ↔ t ∈ tk') (h : FreeOf fr l) (h' : FreeOf fr' l') : l = l' := by
  have hp : l.Perm l' := (h.1.trans (listTo_alike (fun j hj => hg.same hg' ht hj))).trans h'.1.symm
  refine List.Perm.eq_of_pairwise (le := fun s t : Bk => s.1 ≤ t.1) ?_ h.2 h'.2 hp
  intro s t hs ht h1 h2
  have e1 := mem_listTo.1 (h.1.mem_iff.1 hs)
  have e2 := mem_listTo.1 (h.1.mem_iff.1 (hp.mem_iff.2 ht))
  have hb : s.1 = t.1 := by omega
  obtain ⟨s0, s1⟩ := s
  obtain ⟨t0, t1⟩ := t
  simp only at hb e1 e2
  subst hb
  have hps := sz_pos s1
  have hpt := sz_pos t1
  obtain ⟨hk, _⟩ := hg.ff s1 s0 t1 s0 e1.1 e2.1 e1.2 e2.2 ⟨by omega, by omega⟩
  rw [hk]
/-- A slice of blocks that lies somewhere. -/
def RowBk (w : World) (a : Option Addr) (l : List Bk) : Prop := l = [] ∨ ∃ g, a = some ⟨g, 0, none⟩ ∧ g < w.heap.size ∧ BksAt w g 0 l
end Go.Proofs.YtiohpmcedfbcgabDoor
