/- Files and tables of a law's own: each call of package desc, told over the plain state alone. Conditions: each theorem's own premises. -/
import Derived.Test.YtiohpmcedfbcgabDoorDescFile
import Derived.Test.YtiohpmcedfbcgabDoorDescWrite
import Derived.Test.YtiohpmcedfbcgabDoorDescFork
import Derived.Test.YtiohpmcedfbcgabDoorDescClose
import Derived.Test.YtiohpmcedfbcgabDoorTreeLaw
namespace Go.Proofs.YtiohpmcedfbcgabDoor
open Go.RowKit
set_option linter.unusedVariables false
/-- Files over a tree, and tables, made since W. -/
structure DLaw (W w : World) (fb tb : Nat) (S : PS) (ts : List (Nat × PTab)) : Prop where
  files : ∃ F, FilesIs w fb tb S F ∧ (∀ k, F k → W.heap.size ≤ k) ∧ ∀ (j : Nat) (x : Nat × PTab), ts[j]? = some x → ¬ F x.1
  tabs : ∀ (j : Nat) (x : Nat × PTab), ts[j]? = some x → TabIs w x.1 x.2 ∧ W.heap.size ≤ x.1
  apart : ∀ (i j : Nat) (x y : Nat × PTab), ts[i]? = some x → ts[j]? = some y → i ≠ j → x.1 ≠ y.1
  turn : Turn (fun _ => False) W w
def noTab : PTab := fun _ => (0, false)
section
variable {W w w' w1 w2 : World} {fb tb tab : Nat} {S S' : PS} {L L' : PTab} {ts : List (Nat × PTab)} {F : Nat → Prop} {i : Nat} {n : Int} {T : PT}
theorem DLaw.still (h : DLaw W w fb tb S ts) (t : Turn (fun _ => False) w w') : DLaw W w' fb tb S ts := by
  obtain ⟨F, h1, h2, h3⟩ := h.files
  exact ⟨⟨F, h1.turned t (fun _ _ => id), h2, h3⟩, fun j x hx => ⟨(h.tabs j x hx).1.turned t id, (h.tabs j x hx).2⟩, h.apart, h.turn.trans t⟩
theorem set_get {x y : Nat × PTab} {j : Nat} (hi : ts[i]? = some x) (h : (ts.set i (x.1, L'))[j]? = some y) : (j = i ∧ y = (x.1, L')) ∨ (j ≠ i ∧ ts[j]? = some y) := by
  by_cases e : j = i
  · subst e
    rw [List.getElem?_set_self (by rcases Nat.lt_or_ge j ts.length with h1 | h1; exact h1; rw [List.getElem?_eq_none h1] at hi; cases hi)] at h
    exact .inl ⟨rfl, (Option.some.inj h).symm⟩
  · rw [List.getElem?_set_ne (fun h => e h.symm)] at h
    exact .inr ⟨e, h⟩
theorem DLaw.step (h : DLaw W w fb tb S ts) (hi : ts[i]? = some (tab, L)) (hF : ∀ k, F k → W.heap.size ≤ k) (hn : ∀ (j : Nat) (x : Nat × PTab), ts[j]? = some x → ¬ F x.1) (hto : FilesTo fb tb tab F w w' S' L') : DLaw W w' fb tb S' (ts.set i (tab, L')) := by
  obtain ⟨F', a, b, t, c, d⟩ := hto
  have hs : ∀ (j : Nat) (y : Nat × PTab), (ts.set i (tab, L'))[j]? = some y → (j = i ∧ y = (tab, L')) ∨ (j ≠ i ∧ ts[j]? = some y) := fun j y hy => set_get hi hy
  refine ⟨⟨F', a, fun k hk => ?_, fun j y hy => ?_⟩, fun j y hy => ?_, fun j k x y hx hy hne => ?_, h.turn.trans' t (fun k hk hx => ?_)⟩
  · rcases c k hk with h1 | h1
    · exact hF k h1
    · exact Nat.le_trans h.turn.size h1
  · rcases hs j y hy with ⟨_, rfl⟩ | ⟨_, h2⟩
    · exact d
    · intro hx
      rcases c _ hx with h1 | h1
      · exact hn j y h2 h1
      · have := (h.tabs j y h2).1.lt; omega
  · rcases hs j y hy with ⟨_, rfl⟩ | ⟨h1, h2⟩
    · exact ⟨b, (h.tabs i _ hi).2⟩
    · exact ⟨(h.tabs j y h2).1.turned t (fun hx => hx.elim (hn j y h2) (fun e => h.apart j i _ _ h2 hi h1 e)), (h.tabs j y h2).2⟩
  · rcases hs j x hx with ⟨rfl, rfl⟩ | ⟨h1, h2⟩
    · rcases hs k y hy with ⟨rfl, rfl⟩ | ⟨h3, h4⟩
      · exact absurd rfl hne
      · exact h.apart j k (tab, L) y hi h4 hne
    · rcases hs k y hy with ⟨rfl, rfl⟩ | ⟨h3, h4⟩
      · exact h.apart j k x (tab, L) h2 hi hne
      · exact h.apart j k _ _ h2 h4 hne
  · rcases hx with hx | rfl
    · have := hF k hx; omega
    · have := (h.tabs i _ hi).2
      have : W.heap.size ≤ k := this
      omega
theorem law_least (h : DLaw W w fb tb S ts) (hi : ts[i]? = some (tab, L)) : Calls Tryd.prog 129 #[.pointer (some ⟨tab, 0, none⟩)] w fun e w' => e = .returned (.int .i64 (leastL L)) ∧ DLaw W w' fb tb S ts :=
  (least_is (h.tabs i _ hi).1).mono fun e w' x => ⟨x.1, h.still x.2⟩
theorem law_file (h : DLaw W w fb tb S ts) (hS : DOk S) (hi : ts[i]? = some (tab, L)) (hL : Laid W) (path : ByteArray) (hs : path.size < 4294967281) (prot : Int) (makes : Bool) :
    Calls Tryd.prog 78 #[.pointer (some ⟨fb, 0, none⟩), .pointer (some ⟨tab, 0, none⟩), .string path, .int .i64 prot, .bool makes] w fun e w' => e = .returned (.tuple #[.int .i64 (openK S L path prot makes), TErr (openE S L path prot makes)]) ∧ DLaw W w' fb tb (openS S L path prot makes) (ts.set i (tab, openL S L path prot makes)) := by
  obtain ⟨F, h1, h2, h3⟩ := h.files
  exact (file_is_open h1 hS (h.tabs i _ hi).1 (h3 i _ hi) (hL.turned0 h.turn) (fun hx => by have := h2 _ hx; have := hL.lt; omega) path hs prot makes).mono fun e w' x => ⟨x.1, h.step hi h2 h3 x.2⟩
theorem law_dup (h : DLaw W w fb tb S ts) (hS : DOk S) (hi : ts[i]? = some (tab, L)) (hok : TabOk S L) (n : Int) (hb : ∀ k e, mget S.es k = some e → e.refs < 1000000) :
    Calls Tryd.prog 79 #[.pointer (some ⟨fb, 0, none⟩), .pointer (some ⟨tab, 0, none⟩), .int .i64 n] w fun e w' => e = .returned (.tuple #[.int .i64 (dupK S L n), TErr (dupE S L n)]) ∧ DLaw W w' fb tb (dupS S L n) (ts.set i (tab, dupL S L n)) := by
  obtain ⟨F, h1, h2, h3⟩ := h.files
  exact (dup_is h1 hS (h.tabs i _ hi).1 hok (h3 i _ hi) n hb).mono fun e w' x => ⟨x.1, h.step hi h2 h3 x.2⟩
theorem law_seek (h : DLaw W w fb tb S ts) (hi : ts[i]? = some (tab, L)) (hok : TabOk S L) (n at' : Int) :
    Calls Tryd.prog 83 #[.pointer (some ⟨fb, 0, none⟩), .pointer (some ⟨tab, 0, none⟩), .int .i64 n, .int .i64 at'] w fun e w' => e = .returned (TErr (seekE S L n at')) ∧ DLaw W w' fb tb (seekS S L n at') (ts.set i (tab, L)) := by
  obtain ⟨F, h1, h2, h3⟩ := h.files
  exact (seek_is h1 (h.tabs i _ hi).1 hok (h3 i _ hi) n at').mono fun e w' x => ⟨x.1, h.step hi h2 h3 x.2⟩
theorem law_dread (h : DLaw W w fb tb S ts) (hS : DOk S) (hi : ts[i]? = some (tab, L)) (hok : TabOk S L) (n many : Int) :
    Calls Tryd.prog 82 #[.pointer (some ⟨fb, 0, none⟩), .pointer (some ⟨tab, 0, none⟩), .int .i64 n, .int .i64 many] w fun e w' => e = .returned (.tuple #[.string (rdB S L n many), TErr (rdE S L n many)]) ∧ DLaw W w' fb tb (rdS S L n many) (ts.set i (tab, L)) := by
  obtain ⟨F, h1, h2, h3⟩ := h.files
  exact (dread_is h1 hS (h.tabs i _ hi).1 hok (h3 i _ hi) n many).mono fun e w' x => ⟨x.1, h.step hi h2 h3 x.2⟩
theorem law_dwrite (h : DLaw W w fb tb S ts) (hS : DOk S) (hi : ts[i]? = some (tab, L)) (hok : TabOk S L) (n : Int) (s : ByteArray) (hs : s.size ≤ 1000000) (most : Int) (hm1 : -9223372036854775808 ≤ most) (hm2 : most ≤ 9223372036854775807) :
    Calls Tryd.prog 81 #[.pointer (some ⟨fb, 0, none⟩), .pointer (some ⟨tab, 0, none⟩), .int .i64 n, .string s, .int .i64 most] w fun e w' => e = .returned (.tuple #[.int .i64 (wrK S L n s most), TErr (wrE S L n s most)]) ∧ DLaw W w' fb tb (wrS S L n s most) (ts.set i (tab, L)) := by
  obtain ⟨F, h1, h2, h3⟩ := h.files
  exact (dwrite_is h1 hS (h.tabs i _ hi).1 hok (h3 i _ hi) n s hs most hm1 hm2).mono fun e w' x => ⟨x.1, h.step hi h2 h3 x.2⟩
theorem law_close (h : DLaw W w fb tb S ts) (hS : DOk S) (hi : ts[i]? = some (tab, L)) (hok : TabOk S L) (n : Int) :
    Calls Tryd.prog 84 #[.pointer (some ⟨fb, 0, none⟩), .pointer (some ⟨tab, 0, none⟩), .int .i64 n] w fun e w' => e = .returned (TErr (closeE S L n)) ∧ DLaw W w' fb tb (closeS S L n) (ts.set i (tab, closeL S L n)) := by
  obtain ⟨F, h1, h2, h3⟩ := h.files
  exact (close_is h1 hS (h.tabs i _ hi).1 hok (h3 i _ hi) n).mono fun e w' x => ⟨x.1, h.step hi h2 h3 x.2⟩
theorem law_has (h : DLaw W w fb tb S ts) (hi : ts[i]? = some (tab, L)) (hok : TabOk S L) (n : Int) :
    Calls Tryd.prog 85 #[.pointer (some ⟨fb, 0, none⟩), .pointer (some ⟨tab, 0, none⟩), .int .i64 n] w fun e w' => e = .returned (.bool (slotL L n).isSome) ∧ DLaw W w' fb tb S ts := by
  obtain ⟨F, ⟨om, B, P, Ft, C, h1, rfl⟩, h2, h3⟩ := h.files
  exact (has_is h1 (h.tabs i _ hi).1 hok n).mono fun e w' x => ⟨x.1, h.still x.2⟩
theorem law_open (h : DLaw W w fb tb S ts) : Calls Tryd.prog 86 #[.pointer (some ⟨fb, 0, none⟩)] w fun e w' => e = .returned (.int .i64 (S.es.length : Int)) ∧ w' = w := by
  obtain ⟨F, ⟨om, B, P, Ft, C, h1, rfl⟩, h2, h3⟩ := h.files
  exact open_is h1
theorem DLaw.more (h : DLaw W w fb tb S ts) {ub : Nat} (ht : TabIs w ub L) (hu : W.heap.size ≤ ub) (hf : ∃ F, FilesIs w fb tb S F ∧ (∀ k, F k → W.heap.size ≤ k) ∧ (∀ (j : Nat) (x : Nat × PTab), ts[j]? = some x → ¬ F x.1) ∧ ¬ F ub) (hne : ∀ (j : Nat) (x : Nat × PTab), ts[j]? = some x → x.1 ≠ ub) : DLaw W w fb tb S (ts ++ [(ub, L)]) := by
  obtain ⟨F, h1, h2, h3, h4⟩ := hf
  have hs : ∀ (j : Nat) (y : Nat × PTab), (ts ++ [(ub, L)])[j]? = some y → ts[j]? = some y ∨ (j = ts.length ∧ y = (ub, L)) := fun j y hy => by
    rcases Nat.lt_or_ge j ts.length with hj | hj
    · rw [List.getElem?_append_left hj] at hy; exact .inl hy
    · rw [List.getElem?_append_right hj] at hy
      cases hz : j - ts.length with
      | zero => rw [hz] at hy; exact .inr ⟨by omega, (Option.some.inj hy).symm⟩
      | succ m => rw [hz] at hy; cases hy
  refine ⟨⟨F, h1, h2, fun j y hy => ?_⟩, fun j y hy => ?_, fun j k x y hx hy hne' => ?_, h.turn⟩
  · rcases hs j y hy with h5 | ⟨_, rfl⟩
    · exact h3 j y h5
    · exact h4
  · rcases hs j y hy with h5 | ⟨_, rfl⟩
    · exact h.tabs j y h5
    · exact ⟨ht, hu⟩
  · rcases hs j x hx with h5 | ⟨h5, rfl⟩
    · rcases hs k y hy with h6 | ⟨h6, rfl⟩
      · exact h.apart j k x y h5 h6 hne'
      · exact hne j x h5
    · rcases hs k y hy with h6 | ⟨h6, rfl⟩
      · exact fun e => hne k y h6 e.symm
      · exact absurd (h5.trans h6.symm) hne'
theorem law_fork (h : DLaw W w fb tb S ts) (hi : ts[i]? = some (tab, L)) (hok : TabOk S L) (hb : ∀ k e, mget S.es k = some e → e.refs < 999000) :
    Calls Tryd.prog 80 #[.pointer (some ⟨fb, 0, none⟩), .pointer (some ⟨tab, 0, none⟩)] w fun e w' => ∃ ub, e = .returned (.pointer (some ⟨ub, 0, none⟩)) ∧ DLaw W w' fb tb (forkS S L) (ts ++ [(ub, L)]) := by
  obtain ⟨F, h1, h2, h3⟩ := h.files
  refine (fork_is h1 (h.tabs i _ hi).1 hok (h3 i _ hi) hb).mono ?_
  rintro e w' ⟨ub, rfl, hu, ht, hf, t⟩
  have hw : DLaw W w' fb tb (forkS S L) ts := ⟨⟨F, hf, h2, h3⟩, fun j x hx => ⟨(h.tabs j x hx).1.turned t (h3 j x hx), (h.tabs j x hx).2⟩, h.apart, h.turn.trans' t (fun k hk hx => by have := h2 k hx; omega)⟩
  have hlow := h1.low
  exact ⟨ub, rfl, hw.more ht (Nat.le_trans h.turn.size hu) ⟨F, hf, h2, h3, fun hx => by have := hlow _ hx; omega⟩ (fun j x hx e => by have := (h.tabs j x hx).1.lt; omega)⟩
/-- A table without numbers is made. -/
theorem DLaw.table (h : DLaw W w fb tb S ts) : DLaw W (w.alloc (tabObj noTab)) fb tb S (ts ++ [(w.heap.size, noTab)]) := by
  have t : Turn (fun _ => False) w (w.alloc (tabObj noTab)) := (Turn.refl _ _).alloc _
  have h' := h.still t
  obtain ⟨F, h1, h2, h3⟩ := h.files
  have hlow := h1.low
  exact h'.more (tabObj_at w noTab (fun i hi => ⟨Int.le_refl _, by show (0 : Int) ≤ 40; decide⟩)) h.turn.size ⟨F, h1.turned t (fun _ _ => id), h2, h3, fun hx => by have := hlow _ hx; omega⟩ (fun j x hx e => by have := (h.tabs j x hx).1.lt; omega)
/-! ### New -/
def filesObj (tb om : Nat) : Obj := .cells #[.pointer (some ⟨tb, 0, none⟩), .map (some om)] 210
theorem filesNew_at (h : TreeLaw W w tb T) : DLaw W ((w.alloc (.map #[] 0)).alloc (filesObj tb w.heap.size)) (w.heap.size + 1) tb ⟨T, [], []⟩ [] := by
  classical
  obtain ⟨Ft, h1, h2⟩ := h.tree
  have t1 : Turn (fun _ => False) w (w.alloc (.map #[] 0)) := (Turn.refl _ _).alloc _
  have t2 : Turn (fun _ => False) (w.alloc (.map #[] 0)) ((w.alloc (.map #[] 0)).alloc (filesObj tb w.heap.size)) := (Turn.refl _ _).alloc _
  have hs1 : (w.alloc (.map #[] 0)).heap.size = w.heap.size + 1 := World.size_alloc _ _
  have hs2 : ((w.alloc (.map #[] 0)).alloc (filesObj tb w.heap.size)).heap.size = w.heap.size + 2 := by rw [World.size_alloc, hs1]
  have hlow : ∀ k, Ft k → k < w.heap.size := h1.foot_lt
  have hW := h.turn.size
  have c0 : ((w.alloc (.map #[] 0)).alloc (filesObj tb w.heap.size)).cell? ⟨w.heap.size + 1, 0, none⟩ = some (.pointer (some ⟨tb, 0, none⟩)) := by rw [← hs1]; exact World.cell?_alloc_new _ _ _ _
  have c1 : ((w.alloc (.map #[] 0)).alloc (filesObj tb w.heap.size)).cell? ⟨w.heap.size + 1, 1, none⟩ = some (.map (some w.heap.size)) := by rw [← hs1]; exact World.cell?_alloc_new _ _ _ _
  refine ⟨⟨CFoot (fun j => if j = w.heap.size + 1 then (1, 0) else if j = w.heap.size then (2, 0) else if Ft j then (5, 0) else (0, 0)), ⟨w.heap.size, fun _ => 0, fun _ => 0, Ft, _, ⟨c0, c1, (h1.turned t1 (fun _ _ => id)).turned t2 (fun _ _ => id), (MapIs.made w).turned t2 id, fun k e he => (by cases he), fun i q hq => (by cases hq), if_pos rfl, ?_, fun k e he => (by cases he), fun i q hq => (by cases hq), fun k hk => ?_, fun k hk => ?_⟩, rfl⟩, fun k hk => ?_, fun j x hx => (by cases hx)⟩, fun j x hx => (by cases hx), fun i j x y hx => (by cases hx), (h.turn.trans t1).trans t2⟩
  · show (if _ then _ else _) = _
    rw [if_neg (by omega), if_pos rfl]
  · have := hlow k hk
    show (if _ then _ else _) = _
    rw [if_neg (by omega), if_neg (by omega), if_pos hk]
  · rw [hs2]
    by_cases e1 : k = w.heap.size + 1
    · omega
    · by_cases e2 : k = w.heap.size
      · omega
      · by_cases e3 : Ft k
        · have := hlow k e3; omega
        · exact absurd (by show (if _ then _ else _) = _; rw [if_neg e1, if_neg e2, if_neg e3]) hk
  · by_cases e1 : k = w.heap.size + 1
    · omega
    · by_cases e2 : k = w.heap.size
      · omega
      · by_cases e3 : Ft k
        · exact h2 k e3
        · exact absurd (by show (if _ then _ else _) = _; rw [if_neg e1, if_neg e2, if_neg e3]) hk
theorem law_dnew (h : TreeLaw W w tb T) : Calls Tryd.prog 77 #[.pointer (some ⟨tb, 0, none⟩)] w fun e w' => ∃ fb, e = .returned (.tuple #[.pointer (some ⟨fb, 0, none⟩), .nilIface]) ∧ DLaw W w' fb tb ⟨T, [], []⟩ [] := by
  have H := hid (filesNew_at h)
  unfold filesObj at H
  clear h
  have hmm := @run_makeMap Tryd.prog
  go_enter Tryd.func77, Tryd.ntmps77
  go_wp2_with fail
  go_ret2
  exact ⟨_, rfl, H.out⟩
end
end Go.Proofs.YtiohpmcedfbcgabDoor
