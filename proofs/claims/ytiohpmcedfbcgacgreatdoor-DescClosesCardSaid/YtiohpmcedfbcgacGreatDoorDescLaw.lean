/- Several texts of ours in one, in build order (DescLaw, DescKeep). Conditions: each theorem's own premises. -/
import Derived.Test.YtiohpmcedfbcgacGreatDoorDescFile
import Derived.Test.YtiohpmcedfbcgacGreatDoorDescIO
import Derived.Test.YtiohpmcedfbcgacGreatDoorDescFiles
import Derived.Test.YtiohpmcedfbcgacGreatDoorTreeLaw
/- Files and tables of a law's own: each call of package desc, told over the plain state alone. Conditions: each theorem's own premises. -/
namespace Go.Proofs.YtiohpmcedfbcgacGreatDoor
open Go.RowKit
set_option linter.unusedVariables false
/-- From where on a law counts: a world, and the blocks that stay as they are there. -/
structure Base where
  w : World
  old : Nat → Prop
def base (W : World) : Base := ⟨W, fun k => k < W.heap.size⟩
/-- Files over a tree, and tables, beside the blocks that stay. -/
structure DLawB (W : Base) (w : World) (fb tb : Nat) (S : PS) (ts : List (Nat × PTab)) : Prop where
  files : ∃ F, FilesIs w fb tb S F ∧ (∀ k, F k → ¬ W.old k) ∧ ∀ (j : Nat) (x : Nat × PTab), ts[j]? = some x → ¬ F x.1
  tabs : ∀ (j : Nat) (x : Nat × PTab), ts[j]? = some x → TabIs w x.1 x.2 ∧ ¬ W.old x.1
  apart : ∀ (i j : Nat) (x y : Nat × PTab), ts[i]? = some x → ts[j]? = some y → i ≠ j → x.1 ≠ y.1
  turn : Turn (fun k => ¬ W.old k) W.w w
  low : ∀ k, W.old k → k < W.w.heap.size
/-- Files over a tree, and tables, made since W. -/
abbrev DLaw (W w : World) (fb tb : Nat) (S : PS) (ts : List (Nat × PTab)) : Prop := DLawB (base W) w fb tb S ts
theorem DLawB.turn0 {W w : World} {fb tb : Nat} {S : PS} {ts : List (Nat × PTab)} (h : DLawB (base W) w fb tb S ts) : Turn (fun _ => False) W w := h.turn.mono (fun k hk hn => hn hk)
def LaidB (W : Base) : Prop := Laid W.w ∧ W.old 0
theorem laidB_of {W : World} (h : Laid W) : LaidB (base W) := ⟨h, h.lt⟩
def noTab : PTab := fun _ => (0, false)
section
variable {W : Base} {w w' w1 w2 : World} {fb tb tab : Nat} {S S' : PS} {L L' : PTab} {ts : List (Nat × PTab)} {F : Nat → Prop} {i : Nat} {n : Int} {T : PT}
theorem DLawB.still (h : DLawB W w fb tb S ts) (t : Turn (fun _ => False) w w') : DLawB W w' fb tb S ts := by
  obtain ⟨F, h1, h2, h3⟩ := h.files
  exact ⟨⟨F, h1.turned t (fun _ _ => id), h2, h3⟩, fun j x hx => ⟨(h.tabs j x hx).1.turned t id, (h.tabs j x hx).2⟩, h.apart, h.turn.trans (no_turn t), h.low⟩
theorem set_get {x y : Nat × PTab} {j : Nat} (hi : ts[i]? = some x) (h : (ts.set i (x.1, L'))[j]? = some y) : (j = i ∧ y = (x.1, L')) ∨ (j ≠ i ∧ ts[j]? = some y) := by
  by_cases e : j = i
  · subst e
    rw [List.getElem?_set_self (by rcases Nat.lt_or_ge j ts.length with h1 | h1; exact h1; rw [List.getElem?_eq_none h1] at hi; cases hi)] at h
    exact .inl ⟨rfl, (Option.some.inj h).symm⟩
  · rw [List.getElem?_set_ne (fun h => e h.symm)] at h
    exact .inr ⟨e, h⟩
theorem DLawB.fresh (h : DLawB W w fb tb S ts) {k : Nat} (hk : w.heap.size ≤ k) : ¬ W.old k := fun ho => by
  have h1 := h.low k ho
  have h2 := h.turn.size
  omega
theorem DLawB.step (h : DLawB W w fb tb S ts) (hi : ts[i]? = some (tab, L)) (hF : ∀ k, F k → ¬ W.old k) (hn : ∀ (j : Nat) (x : Nat × PTab), ts[j]? = some x → ¬ F x.1) (hto : FilesTo fb tb tab F w w' S' L') : DLawB W w' fb tb S' (ts.set i (tab, L')) := by
  obtain ⟨F', a, b, t, c, d⟩ := hto
  have hs : ∀ (j : Nat) (y : Nat × PTab), (ts.set i (tab, L'))[j]? = some y → (j = i ∧ y = (tab, L')) ∨ (j ≠ i ∧ ts[j]? = some y) := fun j y hy => set_get hi hy
  refine ⟨⟨F', a, fun k hk => ?_, fun j y hy => ?_⟩, fun j y hy => ?_, fun j k x y hx hy hne => ?_, h.turn.trans' t (fun k hk hx => ?_), h.low⟩
  · rcases c k hk with h1 | h1
    · exact hF k h1
    · exact h.fresh h1
  · rcases hs j y hy with ⟨_, rfl⟩ | ⟨_, h2⟩
    · exact d
    · intro hx
      rcases c _ hx with h1 | h1
      · exact hn j y h2 h1
      · have := (h.tabs j y h2).1.lt; omega
  · rcases hs j y hy with ⟨_, rfl⟩ | ⟨h1, h2⟩
    · exact ⟨b, (h.tabs i _ hi).2⟩
    · exact ⟨(h.tabs j y h2).1.turned t (fun hx => hx.elim (hn j y h2) (fun e => h.apart j i _ _ h2 hi h1 e)), (h.tabs j y h2).2⟩
  · rcases hs j x hx with ⟨rfl, rfl⟩ | ⟨h1, h2⟩
    · rcases hs k y hy with ⟨rfl, rfl⟩ | ⟨h3, h4⟩
      · exact absurd rfl hne
      · exact h.apart j k (tab, L) y hi h4 hne
    · rcases hs k y hy with ⟨rfl, rfl⟩ | ⟨h3, h4⟩
      · exact h.apart j k x (tab, L) h2 hi hne
      · exact h.apart j k _ _ h2 h4 hne
  · rcases hx with hx | rfl
    · exact hF k hx
    · exact (h.tabs i _ hi).2
theorem law_least (h : DLawB W w fb tb S ts) (hi : ts[i]? = some (tab, L)) : Calls Tryz.prog 220 #[.pointer (some ⟨tab, 0, none⟩)] w fun e w' => e = .returned (.int .i64 (leastL L)) ∧ DLawB W w' fb tb S ts :=
  (least_is (h.tabs i _ hi).1).mono fun e w' x => ⟨x.1, h.still x.2⟩
theorem law_file (h : DLawB W w fb tb S ts) (hS : DOk S) (hi : ts[i]? = some (tab, L)) (hL : LaidB W) (path : ByteArray) (hs : path.size < 4294967281) (prot : Int) (makes : Bool) :
    Calls Tryz.prog 117 #[.pointer (some ⟨fb, 0, none⟩), .pointer (some ⟨tab, 0, none⟩), .string path, .int .i64 prot, .bool makes] w fun e w' => e = .returned (.tuple #[.int .i64 (openK S L path prot makes), TErr (openE S L path prot makes)]) ∧ DLawB W w' fb tb (openS S L path prot makes) (ts.set i (tab, openL S L path prot makes)) := by
  obtain ⟨F, h1, h2, h3⟩ := h.files
  exact (file_is_open h1 hS (h.tabs i _ hi).1 (h3 i _ hi) (hL.1.turned h.turn (fun hx => hx hL.2)) (fun hx => h2 _ hx hL.2) path hs prot makes).mono fun e w' x => ⟨x.1, h.step hi h2 h3 x.2⟩
theorem law_dup (h : DLawB W w fb tb S ts) (hS : DOk S) (hi : ts[i]? = some (tab, L)) (hok : TabOk S L) (n : Int) (hb : ∀ k e, mget S.es k = some e → e.refs < 1000000) :
    Calls Tryz.prog 118 #[.pointer (some ⟨fb, 0, none⟩), .pointer (some ⟨tab, 0, none⟩), .int .i64 n] w fun e w' => e = .returned (.tuple #[.int .i64 (dupK S L n), TErr (dupE S L n)]) ∧ DLawB W w' fb tb (dupS S L n) (ts.set i (tab, dupL S L n)) := by
  obtain ⟨F, h1, h2, h3⟩ := h.files
  exact (dup_is h1 hS (h.tabs i _ hi).1 hok (h3 i _ hi) n hb).mono fun e w' x => ⟨x.1, h.step hi h2 h3 x.2⟩
theorem law_seek (h : DLawB W w fb tb S ts) (hi : ts[i]? = some (tab, L)) (hok : TabOk S L) (n at' : Int) :
    Calls Tryz.prog 120 #[.pointer (some ⟨fb, 0, none⟩), .pointer (some ⟨tab, 0, none⟩), .int .i64 n, .int .i64 at'] w fun e w' => e = .returned (TErr (seekE S L n at')) ∧ DLawB W w' fb tb (seekS S L n at') (ts.set i (tab, L)) := by
  obtain ⟨F, h1, h2, h3⟩ := h.files
  exact (seek_is h1 (h.tabs i _ hi).1 hok (h3 i _ hi) n at').mono fun e w' x => ⟨x.1, h.step hi h2 h3 x.2⟩
theorem law_dread (h : DLawB W w fb tb S ts) (hS : DOk S) (hi : ts[i]? = some (tab, L)) (hok : TabOk S L) (n many : Int) :
    Calls Tryz.prog 125 #[.pointer (some ⟨fb, 0, none⟩), .pointer (some ⟨tab, 0, none⟩), .int .i64 n, .int .i64 many] w fun e w' => e = .returned (.tuple #[.string (rdB S L n many), TErr (rdE S L n many)]) ∧ DLawB W w' fb tb (rdS S L n many) (ts.set i (tab, L)) := by
  obtain ⟨F, h1, h2, h3⟩ := h.files
  exact (dread_is h1 hS (h.tabs i _ hi).1 hok (h3 i _ hi) n many).mono fun e w' x => ⟨x.1, h.step hi h2 h3 x.2⟩
theorem law_dwrite (h : DLawB W w fb tb S ts) (hS : DOk S) (hi : ts[i]? = some (tab, L)) (hok : TabOk S L) (n : Int) (s : ByteArray) (hs : s.size ≤ 1000000) (most : Int) (hm1 : -9223372036854775808 ≤ most) (hm2 : most ≤ 9223372036854775807) :
    Calls Tryz.prog 119 #[.pointer (some ⟨fb, 0, none⟩), .pointer (some ⟨tab, 0, none⟩), .int .i64 n, .string s, .int .i64 most] w fun e w' => e = .returned (.tuple #[.int .i64 (wrK S L n s most), TErr (wrE S L n s most)]) ∧ DLawB W w' fb tb (wrS S L n s most) (ts.set i (tab, L)) := by
  obtain ⟨F, h1, h2, h3⟩ := h.files
  exact (dwrite_is h1 hS (h.tabs i _ hi).1 hok (h3 i _ hi) n s hs most hm1 hm2).mono fun e w' x => ⟨x.1, h.step hi h2 h3 x.2⟩
theorem law_close (h : DLawB W w fb tb S ts) (hS : DOk S) (hi : ts[i]? = some (tab, L)) (hok : TabOk S L) (n : Int) :
    Calls Tryz.prog 124 #[.pointer (some ⟨fb, 0, none⟩), .pointer (some ⟨tab, 0, none⟩), .int .i64 n] w fun e w' => e = .returned (TErr (closeE S L n)) ∧ DLawB W w' fb tb (closeS S L n) (ts.set i (tab, closeL S L n)) := by
  obtain ⟨F, h1, h2, h3⟩ := h.files
  exact (close_is h1 hS (h.tabs i _ hi).1 hok (h3 i _ hi) n).mono fun e w' x => ⟨x.1, h.step hi h2 h3 x.2⟩
theorem law_has (h : DLawB W w fb tb S ts) (hi : ts[i]? = some (tab, L)) (hok : TabOk S L) (n : Int) :
    Calls Tryz.prog 236 #[.pointer (some ⟨fb, 0, none⟩), .pointer (some ⟨tab, 0, none⟩), .int .i64 n] w fun e w' => e = .returned (.bool (slotL L n).isSome) ∧ DLawB W w' fb tb S ts := by
  obtain ⟨F, ⟨om, B, P, Ft, C, h1, rfl⟩, h2, h3⟩ := h.files
  exact (has_is h1 (h.tabs i _ hi).1 hok n).mono fun e w' x => ⟨x.1, h.still x.2⟩
theorem law_open (h : DLawB W w fb tb S ts) : Calls Tryz.prog 42 #[.pointer (some ⟨fb, 0, none⟩)] w fun e w' => e = .returned (.int .i64 (S.es.length : Int)) ∧ w' = w := by
  obtain ⟨F, ⟨om, B, P, Ft, C, h1, rfl⟩, h2, h3⟩ := h.files
  exact open_is h1
theorem DLawB.more (h : DLawB W w fb tb S ts) {ub : Nat} (ht : TabIs w ub L) (hu : ¬ W.old ub) (hf : ∃ F, FilesIs w fb tb S F ∧ (∀ k, F k → ¬ W.old k) ∧ (∀ (j : Nat) (x : Nat × PTab), ts[j]? = some x → ¬ F x.1) ∧ ¬ F ub) (hne : ∀ (j : Nat) (x : Nat × PTab), ts[j]? = some x → x.1 ≠ ub) : DLawB W w fb tb S (ts ++ [(ub, L)]) := by
  obtain ⟨F, h1, h2, h3, h4⟩ := hf
  have hs : ∀ (j : Nat) (y : Nat × PTab), (ts ++ [(ub, L)])[j]? = some y → ts[j]? = some y ∨ (j = ts.length ∧ y = (ub, L)) := fun j y hy => by
    rcases Nat.lt_or_ge j ts.length with hj | hj
    · rw [List.getElem?_append_left hj] at hy; exact .inl hy
    · rw [List.getElem?_append_right hj] at hy
      cases hz : j - ts.length with
      | zero => rw [hz] at hy; exact .inr ⟨by omega, (Option.some.inj hy).symm⟩
      | succ m => rw [hz] at hy; cases hy
  refine ⟨⟨F, h1, h2, fun j y hy => ?_⟩, fun j y hy => ?_, fun j k x y hx hy hne' => ?_, h.turn, h.low⟩
  · rcases hs j y hy with h5 | ⟨_, rfl⟩
    · exact h3 j y h5
    · exact h4
  · rcases hs j y hy with h5 | ⟨_, rfl⟩
    · exact h.tabs j y h5
    · exact ⟨ht, hu⟩
  · rcases hs j x hx with h5 | ⟨h5, rfl⟩
    · rcases hs k y hy with h6 | ⟨h6, rfl⟩
      · exact h.apart j k x y h5 h6 hne'
      · exact hne j x h5
    · rcases hs k y hy with h6 | ⟨h6, rfl⟩
      · exact fun e => hne k y h6 e.symm
      · exact absurd (h5.trans h6.symm) hne'
theorem law_fork (h : DLawB W w fb tb S ts) (hi : ts[i]? = some (tab, L)) (hok : TabOk S L) (hb : ∀ k e, mget S.es k = some e → e.refs < 999000) :
    Calls Tryz.prog 43 #[.pointer (some ⟨fb, 0, none⟩), .pointer (some ⟨tab, 0, none⟩)] w fun e w' => ∃ ub, e = .returned (.pointer (some ⟨ub, 0, none⟩)) ∧ DLawB W w' fb tb (forkS S L) (ts ++ [(ub, L)]) := by
  obtain ⟨F, h1, h2, h3⟩ := h.files
  refine (fork_is h1 (h.tabs i _ hi).1 hok (h3 i _ hi) hb).mono ?_
  rintro e w' ⟨ub, rfl, hu, ht, hf, t⟩
  have hw : DLawB W w' fb tb (forkS S L) ts := ⟨⟨F, hf, h2, h3⟩, fun j x hx => ⟨(h.tabs j x hx).1.turned t (h3 j x hx), (h.tabs j x hx).2⟩, h.apart, h.turn.trans' t (fun k hk hx => h2 k hx), h.low⟩
  have hlow := h1.low
  exact ⟨ub, rfl, hw.more ht (h.fresh hu) ⟨F, hf, h2, h3, fun hx => by have := hlow _ hx; omega⟩ (fun j x hx e => by have := (h.tabs j x hx).1.lt; omega)⟩
/-- A table without numbers is made. -/
theorem DLawB.table (h : DLawB W w fb tb S ts) : DLawB W (w.alloc (tabObj noTab)) fb tb S (ts ++ [(w.heap.size, noTab)]) := by
  have t : Turn (fun _ => False) w (w.alloc (tabObj noTab)) := (Turn.refl _ _).alloc _
  have h' := h.still t
  obtain ⟨F, h1, h2, h3⟩ := h.files
  have hlow := h1.low
  exact h'.more (tabObj_at w noTab (fun i hi => ⟨Int.le_refl _, by show (0 : Int) ≤ 40; decide⟩)) (h.fresh (Nat.le_refl _)) ⟨F, h1.turned t (fun _ _ => id), h2, h3, fun hx => by have := hlow _ hx; omega⟩ (fun j x hx e => by have := (h.tabs j x hx).1.lt; omega)
/-! ### New -/
def filesObj (tb om : Nat) : Obj := .cells #[.pointer (some ⟨tb, 0, none⟩), .map (some om)] 203
theorem filesNew_at {W : World} (h : TreeLaw W w tb T) : DLaw W ((w.alloc (.map #[] 0)).alloc (filesObj tb w.heap.size)) (w.heap.size + 1) tb ⟨T, [], []⟩ [] := by
  classical
  obtain ⟨Ft, h1, h2⟩ := h.tree
  have t1 : Turn (fun _ => False) w (w.alloc (.map #[] 0)) := (Turn.refl _ _).alloc _
  have t2 : Turn (fun _ => False) (w.alloc (.map #[] 0)) ((w.alloc (.map #[] 0)).alloc (filesObj tb w.heap.size)) := (Turn.refl _ _).alloc _
  have hs1 : (w.alloc (.map #[] 0)).heap.size = w.heap.size + 1 := World.size_alloc _ _
  have hs2 : ((w.alloc (.map #[] 0)).alloc (filesObj tb w.heap.size)).heap.size = w.heap.size + 2 := by rw [World.size_alloc, hs1]
  have hlow : ∀ k, Ft k → k < w.heap.size := h1.foot_lt
  have hW := h.turn.size
  have c0 : ((w.alloc (.map #[] 0)).alloc (filesObj tb w.heap.size)).cell? ⟨w.heap.size + 1, 0, none⟩ = some (.pointer (some ⟨tb, 0, none⟩)) := by rw [← hs1]; exact World.cell?_alloc_new _ _ _ _
  have c1 : ((w.alloc (.map #[] 0)).alloc (filesObj tb w.heap.size)).cell? ⟨w.heap.size + 1, 1, none⟩ = some (.map (some w.heap.size)) := by rw [← hs1]; exact World.cell?_alloc_new _ _ _ _
  refine ⟨⟨CFoot (fun j => if j = w.heap.size + 1 then (1, 0) else if j = w.heap.size then (2, 0) else if Ft j then (5, 0) else (0, 0)), ⟨w.heap.size, fun _ => 0, fun _ => 0, Ft, _, ⟨c0, c1, (h1.turned t1 (fun _ _ => id)).turned t2 (fun _ _ => id), (MapIs.made w).turned t2 id, fun k e he => (by cases he), fun i q hq => (by cases hq), if_pos rfl, ?_, fun k e he => (by cases he), fun i q hq => (by cases hq), fun k hk => ?_, fun k hk => ?_⟩, rfl⟩, fun k hk => ?_, fun j x hx => (by cases hx)⟩, fun j x hx => (by cases hx), fun i j x y hx => (by cases hx), no_turn ((h.turn.trans t1).trans t2), fun k hk => hk⟩
  · show (if _ then _ else _) = _
    rw [if_neg (by omega), if_pos rfl]
  · have := hlow k hk
    show (if _ then _ else _) = _
    rw [if_neg (by omega), if_neg (by omega), if_pos hk]
  · rw [hs2]
    by_cases e1 : k = w.heap.size + 1
    · omega
    · by_cases e2 : k = w.heap.size
      · omega
      · by_cases e3 : Ft k
        · have := hlow k e3; omega
        · exact absurd (by show (if _ then _ else _) = _; rw [if_neg e1, if_neg e2, if_neg e3]) hk
  · show ¬ k < W.heap.size
    by_cases e1 : k = w.heap.size + 1
    · omega
    · by_cases e2 : k = w.heap.size
      · omega
      · by_cases e3 : Ft k
        · have := h2 k e3; omega
        · exact absurd (by show (if _ then _ else _) = _; rw [if_neg e1, if_neg e2, if_neg e3]) hk
theorem law_dnew {W : World} (h : TreeLaw W w tb T) : Calls Tryz.prog 41 #[.pointer (some ⟨tb, 0, none⟩)] w fun e w' => ∃ fb, e = .returned (.tuple #[.pointer (some ⟨fb, 0, none⟩), .nilIface]) ∧ DLaw W w' fb tb ⟨T, [], []⟩ [] := by
  have H := hid (filesNew_at h)
  unfold filesObj at H
  clear h
  have hmm := @run_makeMap Tryz.prog
  go_enter Tryz.func41, Tryz.ntmps41
  go_wp2_with fail
  go_ret2
  exact ⟨_, rfl, H.out⟩
end
end Go.Proofs.YtiohpmcedfbcgacGreatDoor
/- Package desc, plain: what each call keeps of what is open. No program in sight. Conditions: each theorem's own premises. -/
namespace Go.Proofs.YtiohpmcedfbcgacGreatDoor
open Go.RowKit
set_option linter.unusedVariables false
section
variable {S S' : PS} {T T' : PT} {es : List (Int × PE)} {e e' : PE} {k n : Int} {L L' : PTab} {p q : PN} {path : ByteArray}
/-! ### how many entries are of a node -/
theorem heldE_nil (n : Int) : heldE n [] = 0 := rfl
theorem heldE_cons (n : Int) (t : Int × PE) (es : List (Int × PE)) : heldE n (t :: es) = (if t.2.kind = 1 ∧ t.2.node = n then 1 else 0) + heldE n es := by
  unfold heldE
  rw [List.filter_cons]
  by_cases h : t.2.kind = 1 ∧ t.2.node = n
  · rw [if_pos (decide_eq_true h), if_pos h, List.length_cons]; omega
  · rw [if_neg (by simpa using h), if_neg h]; omega
theorem heldE_append (n : Int) (a b : List (Int × PE)) : heldE n (a ++ b) = heldE n a + heldE n b := by
  unfold heldE
  rw [List.filter_append, List.length_append]
def oneOf (n : Int) (e : PE) : Nat := if e.kind = 1 ∧ e.node = n then 1 else 0
theorem heldE_new (hk : mget es k = none) (n : Int) : heldE n (mput es k e) = heldE n es + oneOf n e := by
  have h1 : mput es k e = es ++ [(k, e)] := by unfold mput; rw [if_neg (by rw [hk]; simp)]
  rw [h1, heldE_append, heldE_cons, heldE_nil]; rfl
theorem heldE_del (hn : MNodup es) (hk : mget es k = some e) (n : Int) : heldE n (mdel es k) + oneOf n e = heldE n es := by
  induction es with
  | nil => cases hk
  | cons t l ih =>
    have hn' : MNodup l := (List.nodup_cons.1 hn).2
    have hcons : mdel (t :: l) k = if t.1 ≠ k then t :: mdel l k else mdel l k := by
      unfold mdel
      rw [List.filter_cons]
      by_cases h : t.1 ≠ k
      · rw [if_pos (decide_eq_true h), if_pos h]
      · rw [if_neg (by simpa using h), if_neg h]
    by_cases h : t.1 = k
    · have h1 : mget (t :: l) k = some t.2 := mget_mem hn (by rw [← h]; exact List.mem_cons_self)
      rw [h1] at hk
      have hk := Option.some.inj hk
      have hno : mget l k = none := mget_none_iff.2 fun q hq e2 => (List.nodup_cons.1 hn).1 (List.mem_map.2 ⟨q, hq, by rw [e2, h]⟩)
      rw [hcons, if_neg (by simpa using h), mdel_none hno, heldE_cons, hk]
      unfold oneOf
      omega
    · have h1 : mget l k = some e := by
        rcases List.mem_cons.1 (mem_of_mget hk) with h3 | h3
        · exact absurd (by rw [← h3]) h
        · exact mget_mem hn' h3
      have := ih hn' h1
      rw [hcons, if_pos h, heldE_cons, heldE_cons]
      omega
theorem heldE_put (hn : MNodup es) (hk : mget es k = some e) (h1 : e'.kind = e.kind) (h2 : e'.node = e.node) (n : Int) : heldE n (mput es k e') = heldE n es := by
  have hmp : mput es k e' = mupd es k e' := by unfold mput; rw [hk]; rfl
  rw [hmp]
  induction es with
  | nil => cases hk
  | cons t l ih =>
    have hn' : MNodup l := (List.nodup_cons.1 hn).2
    have hcons : mupd (t :: l) k e' = (if t.1 = k then (t.1, e') else t) :: mupd l k e' := rfl
    rw [hcons]
    by_cases h : t.1 = k
    · have h1' : mget (t :: l) k = some t.2 := mget_mem hn (by rw [← h]; exact List.mem_cons_self)
      rw [h1'] at hk
      have hk := Option.some.inj hk
      have hno : ∀ q ∈ l, q.1 ≠ k := fun q hq e2 => (List.nodup_cons.1 hn).1 (List.mem_map.2 ⟨q, hq, by rw [e2, h]⟩)
      have hsame : mupd l k e' = l := by
        unfold mupd
        conv => rhs; rw [← List.map_id l]
        exact List.map_congr_left fun q hq => by rw [if_neg (hno q hq)]; rfl
      rw [if_pos h, hsame, heldE_cons, heldE_cons]
      show (if e'.kind = 1 ∧ e'.node = n then 1 else 0) + _ = _
      rw [h1, h2, ← hk]
    · have h1' : mget l k = some e := by
        rcases List.mem_cons.1 (mem_of_mget hk) with h3 | h3
        · exact absurd (by rw [← h3]) h
        · exact mget_mem hn' h3
      have := ih hn' h1' (by unfold mput; rw [h1']; rfl)
      rw [if_neg h, heldE_cons, heldE_cons, this]
theorem heldE_pos (h : 0 < heldE n es) : ∃ t ∈ es, t.2.kind = 1 ∧ t.2.node = n := by
  unfold heldE at h
  obtain ⟨t, ht⟩ := List.exists_mem_of_length_pos h
  rw [List.mem_filter] at ht
  exact ⟨t, ht.1, of_decide_eq_true ht.2⟩
theorem heldE_le (n : Int) (es : List (Int × PE)) : heldE n es ≤ es.length := List.length_filter_le _ _
/-! ### the tree under them -/
/-- Files that were there are there, held as before. -/
structure Same (T T' : PT) : Prop where
  old : ∀ n p, mget T n = some p → p.isDir = false → 0 < p.held → ∃ q, mget T' n = some q ∧ q.isDir = false ∧ q.held = p.held
  new : ∀ n q, mget T' n = some q → (∃ p, mget T n = some p ∧ q.held = p.held) ∨ (mget T n = none ∧ q.held = 0)
theorem Same.refl (T : PT) : Same T T := ⟨fun n p h1 h2 _ => ⟨p, h1, h2, rfl⟩, fun n q h => .inl ⟨q, h, rfl⟩⟩
theorem DOk.heldPos (h : DOk S) (he : mget S.es k = some e) (hk : e.kind = 1) : ∃ p, mget S.T e.node = some p ∧ p.isDir = false ∧ p.held = heldE e.node S.es ∧ 0 < p.held := by
  have hE := h.ent k e he
  obtain ⟨p, hp, hd⟩ : ∃ p, mget S.T e.node = some p ∧ p.isDir = false := by
    rcases hE.2 with h1 | h1 | h1
    · exact h1.2.2.2
    · omega
    · omega
  refine ⟨p, hp, hd, h.held _ p hp, ?_⟩
  rw [h.held _ p hp]
  have h1 : (k, e) ∈ S.es := mem_of_mget he
  unfold heldE
  exact List.length_pos_of_mem (List.mem_filter.2 ⟨h1, decide_eq_true ⟨hk, rfl⟩⟩)
theorem DOk.unheld (h : DOk S) (hn : mget S.T n = none) : heldE n S.es = 0 := by
  rcases Nat.eq_zero_or_pos (heldE n S.es) with h1 | h1
  · exact h1
  · obtain ⟨t, ht, hk, hnode⟩ := heldE_pos h1
    have he : mget S.es t.1 = some t.2 := mget_mem h.nd ht
    obtain ⟨p, hp, _⟩ := h.heldPos he hk
    rw [hnode, hn] at hp
    cases hp
theorem DOk.tree (h : DOk S) (ht : Same S.T T') : DOk (treeS S T') := by
  refine ⟨h.nd, h.keys, fun k e he => ?_, h.size, h.one, h.pipes, fun n q hq => ?_⟩
  · have hE := h.ent k e he
    refine ⟨hE.1, ?_⟩
    rcases hE.2 with ⟨h1, h2, h3, h4⟩ | h1 | h1
    · obtain ⟨p, hp, hd, hp1, hp2⟩ := h.heldPos he h1
      obtain ⟨q, hq, hqd, _⟩ := ht.old _ p hp hd hp2
      exact .inl ⟨h1, h2, h3, q, hq, hqd⟩
    · exact .inr (.inl h1)
    · exact .inr (.inr h1)
  · rcases ht.new n q hq with ⟨p, hp, h1⟩ | ⟨h1, h2⟩
    · rw [h1]; exact h.held n p hp
    · rw [h2]; exact (h.unheld h1).symm
/-- An entry changes but for its kind, node and pipe. -/
theorem DOk.put (h : DOk S) (he : mget S.es k = some e) (h1 : e'.kind = e.kind) (h2 : e'.node = e.node) (h3 : e'.pid = e.pid) (h4 : e'.prot = e.prot) (h5 : 1 ≤ e'.refs ∧ e'.refs ≤ 1000000 ∧ 0 ≤ e'.at' ∧ e'.at' ≤ 200) : DOk (putS S k e') := by
  have hget : ∀ m f, mget (mput S.es k e') m = some f → (m = k ∧ f = e') ∨ (m ≠ k ∧ mget S.es m = some f) := fun m q hq => by
    rw [mget_mput] at hq
    by_cases e : m = k
    · rw [if_pos e] at hq; cases hq; exact .inl ⟨e, rfl⟩
    · rw [if_neg e] at hq; exact .inr ⟨e, hq⟩
  refine ⟨mput_nodup h.nd k e', fun m f hf => ?_, fun m f hf => ?_, ?_, fun a b f g hf hg hk1 hk2 hp => ?_, h.pipes, fun n p hp => ?_⟩
  · rcases hget m f hf with ⟨rfl, rfl⟩ | ⟨_, hf⟩
    · exact h.keys m e he
    · exact h.keys m f hf
  · rcases hget m f hf with ⟨rfl, rfl⟩ | ⟨_, hf⟩
    · have hE := h.ent m e he
      refine ⟨h5, ?_⟩
      rw [h1, h2, h3, h4]; exact hE.2
    · exact h.ent m f hf
  · show (mput S.es k e').length ≤ 40
    rw [mput_length, he]; exact h.size
  · have hf' : ∃ f0, mget S.es a = some f0 ∧ f0.kind = f.kind ∧ f0.pid = f.pid := by
      rcases hget a f hf with ⟨rfl, rfl⟩ | ⟨_, hf⟩
      · exact ⟨e, he, h1.symm, h3.symm⟩
      · exact ⟨f, hf, rfl, rfl⟩
    have hg' : ∃ g0, mget S.es b = some g0 ∧ g0.kind = g.kind ∧ g0.pid = g.pid := by
      rcases hget b g hg with ⟨rfl, rfl⟩ | ⟨_, hg⟩
      · exact ⟨e, he, h1.symm, h3.symm⟩
      · exact ⟨g, hg, rfl, rfl⟩
    obtain ⟨f0, a1, a2, a3⟩ := hf'
    obtain ⟨g0, b1, b2, b3⟩ := hg'
    exact h.one a b f0 g0 a1 b1 (by rw [a2]; exact hk1) (by rw [a2, b2]; exact hk2) (by rw [a3, b3]; exact hp)
  · show p.held = heldE n (mput S.es k e')
    rw [heldE_put h.nd he h1 h2]
    exact h.held n p hp
theorem pipes_set {ps : List PP} {i : Nat} {q q' : PP} (hq : ps[i]? = some q) {m : Nat} {r : PP} (hr : (ps.set i q')[m]? = some r) : (m = i ∧ r = q') ∨ (m ≠ i ∧ ps[m]? = some r) := by
  by_cases e : m = i
  · subst e
    rw [List.getElem?_set_self (by rcases Nat.lt_or_ge m ps.length with h1 | h1; exact h1; rw [List.getElem?_eq_none h1] at hq; cases hq)] at hr
    exact .inl ⟨rfl, (Option.some.inj hr).symm⟩
  · rw [List.getElem?_set_ne (fun h => e h.symm)] at hr
    exact .inr ⟨e, hr⟩
theorem pipes_get {ps : List PP} {i : Nat} {q q' : PP} (hq : ps[i]? = some q) (m : Nat) {r : PP} (hr : ps[m]? = some r) : (ps.set i q')[m]? = some (if m = i then q' else r) := by
  by_cases e : m = i
  · subst e
    rw [if_pos rfl, List.getElem?_set_self (by rcases Nat.lt_or_ge m ps.length with h1 | h1; exact h1; rw [List.getElem?_eq_none h1] at hq; cases hq)]
  · rw [if_neg e, List.getElem?_set_ne (fun h => e h.symm)]; exact hr
/-- A pipe's bytes change. -/
theorem DOk.pipe (h : DOk S) {i : Nat} {q q' : PP} (hq : S.ps[i]? = some q) (h0 : q'.e0 = q.e0) (h1 : q'.e1 = q.e1) (hb : q'.b.size ≤ 16) : DOk (pipeS S i q') := by
  refine ⟨h.nd, h.keys, fun k e he => ?_, h.size, h.one, fun m r hr => ?_, h.held⟩
  · have hE := h.ent k e he
    refine ⟨hE.1, ?_⟩
    rcases hE.2 with h2 | ⟨h2, h3, r, hr, h4⟩ | ⟨h2, h3, r, hr, h4⟩
    · exact .inl h2
    · refine .inr (.inl ⟨h2, h3, _, pipes_get hq _ hr, ?_⟩)
      by_cases e1 : e.pid = i
      · rw [if_pos e1, h0]
        rw [e1, hq] at hr
        cases hr; exact h4
      · rw [if_neg e1]; exact h4
    · refine .inr (.inr ⟨h2, h3, _, pipes_get hq _ hr, ?_⟩)
      by_cases e1 : e.pid = i
      · rw [if_pos e1, h1]
        rw [e1, hq] at hr
        cases hr; exact h4
      · rw [if_neg e1]; exact h4
  · rcases pipes_set hq hr with ⟨rfl, rfl⟩ | ⟨_, hr⟩
    · rw [h0, h1]; exact ⟨hb, (h.pipes m q hq).2⟩
    · exact h.pipes m r hr
theorem DOk.still_del (h : DOk S) (he : mget S.es k = some e) : (∀ m f, mget (mdel S.es k) m = some f → m ≠ k ∧ mget S.es m = some f) ∧ MNodup (mdel S.es k) ∧ (mdel S.es k).length ≤ 40 := by
  refine ⟨fun m f hf => ?_, mdel_nodup h.nd k, ?_⟩
  · rw [mget_mdel] at hf
    by_cases e1 : m = k
    · rw [if_pos e1] at hf; cases hf
    · rw [if_neg e1] at hf; exact ⟨e1, hf⟩
  · have := mdel_length h.nd he
    have := h.size
    omega
/-- The last number of an entry goes. -/
theorem DOk.gone (h : DOk S) (he : mget S.es k = some e) : DOk (goneS (delS S k) e) := by
  obtain ⟨hget, hnd, hlen⟩ := h.still_del he
  by_cases hk : e.kind = 1
  · have e1 : goneS (delS S k) e = treeS (delS S k) (dropT S.T e.node) := if_pos hk
    rw [e1]
    obtain ⟨p, hp, hd, hph, hpp⟩ := h.heldPos he hk
    have hD : dropT S.T e.node = goneT (mput S.T e.node { p with held := p.held - 1 }) e.node { p with held := p.held - 1 } := by
      unfold dropT
      rw [hp]
      show (if p.isDir then _ else if p.held = 0 then _ else _) = _
      rw [hd]
      simp only [Bool.false_eq_true, if_false]
      rw [if_neg (by omega)]
    have hdel : ∀ n, heldE n (mdel S.es k) + oneOf n e = heldE n S.es := heldE_del h.nd he
    have hone : oneOf e.node e = 1 := if_pos ⟨hk, rfl⟩
    have hoth : ∀ n, n ≠ e.node → oneOf n e = 0 := fun n hn => if_neg (fun h => hn h.2.symm)
    have hget2 : ∀ n q, mget (dropT S.T e.node) n = some q → (n = e.node ∧ q = { p with held := p.held - 1 }) ∨ (n ≠ e.node ∧ mget S.T n = some q) := fun n q hq => by
      rw [hD] at hq
      have hq' : mget (mput S.T e.node { p with held := p.held - 1 }) n = some q := by
        unfold goneT at hq
        split at hq
        · rw [mget_mdel] at hq
          split at hq
          · cases hq
          · exact hq
        · exact hq
      rw [mget_mput] at hq'
      by_cases e1 : n = e.node
      · rw [if_pos e1] at hq'; cases hq'; exact .inl ⟨e1, rfl⟩
      · rw [if_neg e1] at hq'; exact .inr ⟨e1, hq'⟩
    have hold : ∀ n q, n ≠ e.node ∨ 1 < p.held → mget S.T n = some q → ∃ q', mget (dropT S.T e.node) n = some q' ∧ q'.isDir = q.isDir := fun n q hn hq => by
      rw [hD]
      have h1 : ∃ q', mget (mput S.T e.node { p with held := p.held - 1 }) n = some q' ∧ q'.isDir = q.isDir := by
        rw [mget_mput]
        by_cases e1 : n = e.node
        · refine ⟨_, if_pos e1, ?_⟩
          rw [e1, hp] at hq
          cases hq; rfl
        · exact ⟨q, by rw [if_neg e1]; exact hq, rfl⟩
      obtain ⟨q', a, b⟩ := h1
      refine ⟨q', ?_, b⟩
      unfold goneT
      split
      · rename_i hz
        have hz2 : p.held - 1 = 0 := hz.2
        rcases hn with hn | hn
        · rw [mget_mdel, if_neg hn]; exact a
        · omega
      · exact a
    refine ⟨hnd, fun m f hf => h.keys m f (hget m f hf).2, fun m f hf => ?_, hlen, fun a b f g hf hg => h.one a b f g (hget a f hf).2 (hget b g hg).2, h.pipes, fun n q hq => ?_⟩
    · have hE := h.ent m f (hget m f hf).2
      refine ⟨hE.1, ?_⟩
      rcases hE.2 with ⟨h1, h2, h3, q, hq, hqd⟩ | h1 | h1
      · obtain ⟨q', hq', hd'⟩ := hold f.node q (by
          by_cases e1 : f.node = e.node
          · refine .inr ?_
            have h4 := hdel e.node
            rw [hone] at h4
            have h5 : 0 < heldE e.node (mdel S.es k) := List.length_pos_of_mem (List.mem_filter.2 ⟨mem_of_mget hf, decide_eq_true ⟨h1, e1⟩⟩)
            omega
          · exact .inl e1) hq
        exact .inl ⟨h1, h2, h3, q', hq', by rw [hd']; exact hqd⟩
      · exact .inr (.inl h1)
      · exact .inr (.inr h1)
    · show q.held = heldE n (mdel S.es k)
      have h4 := hdel n
      rcases hget2 n q hq with ⟨rfl, rfl⟩ | ⟨h1, h2⟩
      · rw [hone] at h4
        show p.held - 1 = _
        omega
      · rw [hoth n h1] at h4
        rw [h.held n q h2]; omega
  · have hE := h.ent k e he
    obtain ⟨q, hq⟩ : ∃ q, S.ps[e.pid]? = some q := by
      rcases hE.2 with h1 | ⟨_, _, q, hq, _⟩ | ⟨_, _, q, hq, _⟩
      · exact absurd h1.1 hk
      · exact ⟨q, hq⟩
      · exact ⟨q, hq⟩
    have e1 : goneS (delS S k) e = pipeS (delS S k) e.pid (endP q e.kind) := by
      have h1 : goneS (delS S k) e = (S.ps[e.pid]?).elim (delS S k) fun q => pipeS (delS S k) e.pid (endP q e.kind) := if_neg hk
      rw [h1, hq]; rfl
    rw [e1]
    have hoth : ∀ m f, mget (mdel S.es k) m = some f → f.kind = e.kind → f.pid ≠ e.pid := fun m f hf h1 h2 => (hget m f hf).1 (h.one m k f e (hget m f hf).2 he (by rw [h1]; exact hk) h1 h2)
    refine ⟨hnd, fun m f hf => h.keys m f (hget m f hf).2, fun m f hf => ?_, hlen, fun a b f g hf hg => h.one a b f g (hget a f hf).2 (hget b g hg).2, fun m r hr => ?_, fun n p hp => ?_⟩
    · have hF := h.ent m f (hget m f hf).2
      refine ⟨hF.1, ?_⟩
      rcases hF.2 with h2 | ⟨h2, h3, r, hr, h4⟩ | ⟨h2, h3, r, hr, h4⟩
      · exact .inl h2
      · refine .inr (.inl ⟨h2, h3, _, pipes_get hq _ hr, ?_⟩)
        by_cases e1 : f.pid = e.pid
        · have hne : e.kind ≠ 2 := fun e2 => hoth m f hf (by rw [h2, e2]) e1
          rw [if_pos e1]
          rw [e1, hq] at hr
          cases hr
          unfold endP
          rw [if_neg hne]; exact h4
        · rw [if_neg e1]; exact h4
      · refine .inr (.inr ⟨h2, h3, _, pipes_get hq _ hr, ?_⟩)
        by_cases e1 : f.pid = e.pid
        · have hne : e.kind = 2 := by
            rcases hE.2 with h5 | h5 | h5
            · exact absurd h5.1 hk
            · exact h5.1
            · exact absurd e1 (hoth m f hf (by rw [h2, h5.1]))
          rw [if_pos e1]
          rw [e1, hq] at hr
          cases hr
          unfold endP
          rw [if_pos hne]; exact h4
        · rw [if_neg e1]; exact h4
    · rcases pipes_set hq hr with ⟨rfl, rfl⟩ | ⟨_, hr⟩
      · have hp := h.pipes _ q hq
        have hE2 : (e.kind = 2 ∧ q.e0 = 1) ∨ (e.kind ≠ 2 ∧ q.e1 = 1) := by
          rcases hE.2 with h5 | ⟨h5, _, r, hr, h6⟩ | ⟨h5, _, r, hr, h6⟩
          · exact absurd h5.1 hk
          · rw [hq] at hr; cases hr; exact .inl ⟨h5, h6⟩
          · rw [hq] at hr; cases hr; exact .inr ⟨by omega, h6⟩
        unfold endP
        rcases hE2 with ⟨h5, h6⟩ | ⟨h5, h6⟩
        · rw [if_pos h5]
          refine ⟨hp.1, .inl ?_, hp.2.2⟩
          show q.e0 - 1 = 0; omega
        · rw [if_neg h5]
          refine ⟨hp.1, hp.2.1, .inl ?_⟩
          show q.e1 - 1 = 0; omega
      · exact h.pipes m r hr
    · show p.held = heldE n (mdel S.es k)
      have h4 := heldE_del h.nd he n
      have h5 : oneOf n e = 0 := if_neg (fun h => hk h.1)
      rw [h.held n p hp]; omega
theorem DOk.close (h : DOk S) (L : PTab) (n : Int) : DOk (closeS S L n) := by
  unfold closeS
  cases hx : entL S L n with
  | none => exact h
  | some x =>
    obtain ⟨k, e⟩ := x
    have he := (entL_some hx).2
    show DOk (if 1 < e.refs then putS S k { e with refs := e.refs - 1 } else goneS (delS S k) e)
    have hE := (h.ent k e he).1
    by_cases hr : 1 < e.refs
    · rw [if_pos hr]
      exact h.put he rfl rfl rfl rfl ⟨by show 1 ≤ e.refs - 1; omega, by show e.refs - 1 ≤ 1000000; omega, hE.2.2⟩
    · rw [if_neg hr]
      exact h.gone he
end
end Go.Proofs.YtiohpmcedfbcgacGreatDoor
