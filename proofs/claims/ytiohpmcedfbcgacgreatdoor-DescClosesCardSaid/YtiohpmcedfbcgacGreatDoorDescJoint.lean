/- Several texts of ours in one, in build order (DescJoint, DescMade, DescTree, DescDup2, DescClear). Conditions: each theorem's own premises. -/
import Derived.Test.YtiohpmcedfbcgacGreatDoorDescLaw
import Derived.Test.YtiohpmcedfbcgacGreatDoorDescFiles
import Derived.Test.YtiohpmcedfbcgacGreatDoorTreeList
import Derived.Test.YtiohpmcedfbcgacGreatDoorTreeHold
/- Package desc, plain: how many numbers each entry has, over all tables. No program in sight. Conditions: each theorem's own premises. -/
namespace Go.Proofs.YtiohpmcedfbcgacGreatDoor
open Go.RowKit
set_option linter.unusedVariables false
def hitX (x : Int × Bool) (k : Int) : Nat := if x.1 = k + 1 then 1 else 0
def cntFrom (L : PTab) (k : Int) : Nat → Nat → Nat
  | 0, _ => 0
  | f + 1, i => hitX (L i) k + cntFrom L k f (i + 1)
/-- How many of a table's numbers are of an entry. -/
def cntL (L : PTab) (k : Int) : Nat := cntFrom L k 8 0
def cntT (k : Int) : List (Nat × PTab) → Nat
  | [] => 0
  | t :: ts => cntL t.2 k + cntT k ts
def usedT : List (Nat × PTab) → Nat
  | [] => 0
  | t :: ts => usedL t.2 + usedT ts
section
variable {S S' : PS} {e e' : PE} {k n : Int} {L L' : PTab} {ts : List (Nat × PTab)} {x : Int × Bool} {i j : Nat}
theorem cntFrom_out : ∀ (f i : Nat), j < i → cntFrom (tset L j x) k f i = cntFrom L k f i
  | 0, _, _ => rfl
  | f + 1, i, hi => by
    show hitX (tset L j x i) k + _ = hitX (L i) k + _
    rw [cntFrom_out f (i + 1) (by omega)]
    unfold tset
    rw [if_neg (by omega)]
theorem cntFrom_set : ∀ (f i : Nat), i ≤ j → j < i + f → cntFrom (tset L j x) k f i + hitX (L j) k = cntFrom L k f i + hitX x k
  | 0, i, h1, h2 => by omega
  | f + 1, i, h1, h2 => by
    show hitX (tset L j x i) k + cntFrom (tset L j x) k f (i + 1) + hitX (L j) k = hitX (L i) k + cntFrom L k f (i + 1) + hitX x k
    by_cases e : i = j
    · subst e
      rw [cntFrom_out (L := L) (x := x) (k := k) (j := i) f (i + 1) (by omega)]
      have : tset L i x i = x := if_pos rfl
      rw [this]
      omega
    · have h3 := cntFrom_set f (i + 1) (by omega) (by omega)
      have : tset L j x i = L i := if_neg e
      rw [this]
      omega
theorem cntL_set (hj : j < 8) : cntL (tset L j x) k + hitX (L j) k = cntL L k + hitX x k := cntFrom_set 8 0 (by omega) (by omega)
theorem cntT_set {n' : Nat} (hi : ts[i]? = some (n', L)) {L' : PTab} (k : Int) : cntT k (ts.set i (n', L')) + cntL L k = cntT k ts + cntL L' k := by
  induction ts generalizing i with
  | nil => cases hi
  | cons t ts ih =>
    cases i with
    | zero =>
      have h1 := Option.some.inj hi
      subst h1
      show cntL L' k + cntT k ts + cntL L k = cntL L k + cntT k ts + cntL L' k
      omega
    | succ i =>
      have h1 := ih (i := i) hi
      show cntL t.2 k + cntT k (ts.set i (n', L')) + cntL L k = cntL t.2 k + cntT k ts + cntL L' k
      omega
theorem cntT_append (k : Int) : ∀ (ts us : List (Nat × PTab)), cntT k (ts ++ us) = cntT k ts + cntT k us
  | [], us => (Nat.zero_add _).symm
  | t :: ts, us => by
    show cntL t.2 k + cntT k (ts ++ us) = cntL t.2 k + cntT k ts + cntT k us
    rw [cntT_append k ts us]; omega
theorem usedFrom_out : ∀ (f i : Nat), j < i → usedFrom (tset L j x) f i = usedFrom L f i
  | 0, _, _ => rfl
  | f + 1, i, hi => by
    show (if 0 < (tset L j x i).1 then 1 else 0) + _ = (if 0 < (L i).1 then 1 else 0) + _
    rw [usedFrom_out f (i + 1) (by omega)]
    unfold tset
    rw [if_neg (show ¬ i = j by omega)]
def usX (x : Int × Bool) : Nat := if 0 < x.1 then 1 else 0
theorem usedFrom_set : ∀ (f i : Nat), i ≤ j → j < i + f → usedFrom (tset L j x) f i + usX (L j) = usedFrom L f i + usX x
  | 0, i, h1, h2 => by omega
  | f + 1, i, h1, h2 => by
    show usX (tset L j x i) + usedFrom (tset L j x) f (i + 1) + usX (L j) = usX (L i) + usedFrom L f (i + 1) + usX x
    by_cases e : i = j
    · subst e
      rw [usedFrom_out (L := L) (x := x) (j := i) f (i + 1) (by omega)]
      have : tset L i x i = x := if_pos rfl
      rw [this]
      omega
    · have h3 := usedFrom_set f (i + 1) (by omega) (by omega)
      have : tset L j x i = L i := if_neg e
      rw [this]
      omega
theorem usedL_set (hj : j < 8) : usedL (tset L j x) + usX (L j) = usedL L + usX x := usedFrom_set 8 0 (by omega) (by omega)
theorem usedFrom_full : ∀ (f i : Nat), (∀ m, i ≤ m → m < i + f → 0 ≤ (L m).1) → leastFrom L f i = -1 → usedFrom L f i = f
  | 0, _, _, _ => rfl
  | f + 1, i, hp, h => by
    by_cases hz : (L i).1 = 0
    · rw [leastFrom_zero f i hz] at h; omega
    · rw [leastFrom_next f i hz] at h
      show (if 0 < (L i).1 then 1 else 0) + usedFrom L f (i + 1) = f + 1
      rw [if_pos (by have := hp i (by omega) (by omega); omega), usedFrom_full f (i + 1) (fun m h1 h2 => hp m (by omega) (by omega)) h]
      omega
/-- A table with room has a least number that is free. -/
theorem least_room (hp : ∀ m, m < 8 → 0 ≤ (L m).1) (h : usedL L < 8) : ∃ j : Nat, leastL L = j ∧ j < 8 ∧ (L j).1 = 0 := by
  rcases leastL_spec L with h1 | h1
  · have := usedFrom_full 8 0 (fun m _ hm => hp m (by omega)) h1
    unfold usedL at h
    omega
  · exact h1
/-- How many numbers an entry says that it has (0: there is none). -/
def refsOf (S : PS) (k : Int) : Nat := (mget S.es k).elim 0 (·.refs)
/-- Each entry has as many numbers as are counted over all tables. -/
structure Joint (S : PS) (ts : List (Nat × PTab)) : Prop where
  cnt : ∀ k, 0 ≤ k → cntT k ts = refsOf S k
  pos : ∀ (i : Nat) (t : Nat × PTab), ts[i]? = some t → ∀ j, j < 8 → 0 ≤ (t.2 j).1 ∧ (t.2 j).1 ≤ 40
theorem cntFrom_pos : ∀ (f i : Nat), i ≤ j → j < i + f → (L j).1 = k + 1 → 0 < cntFrom L k f i
  | 0, i, h1, h2, _ => by omega
  | f + 1, i, h1, h2, h3 => by
    show 0 < hitX (L i) k + cntFrom L k f (i + 1)
    by_cases e : i = j
    · subst e
      have : hitX (L i) k = 1 := if_pos h3
      omega
    · have := cntFrom_pos f (i + 1) (by omega) (by omega) h3
      omega
theorem cntL_pos (hj : j < 8) (h : (L j).1 = k + 1) : 0 < cntL L k := cntFrom_pos 8 0 (by omega) (by omega) h
theorem cntFrom_ex : ∀ (f i : Nat), 0 < cntFrom L k f i → ∃ j, i ≤ j ∧ j < i + f ∧ (L j).1 = k + 1
  | 0, i, h => by unfold cntFrom at h; omega
  | f + 1, i, h => by
    by_cases e : (L i).1 = k + 1
    · exact ⟨i, Nat.le_refl _, by omega, e⟩
    · have h0 : hitX (L i) k = 0 := if_neg e
      have h : 0 < hitX (L i) k + cntFrom L k f (i + 1) := h
      obtain ⟨j, h1, h2, h3⟩ := cntFrom_ex f (i + 1) (by omega)
      exact ⟨j, by omega, by omega, h3⟩
theorem cntT_ge {t : Nat × PTab} (hi : ts[i]? = some t) (k : Int) : cntL t.2 k ≤ cntT k ts := by
  induction ts generalizing i with
  | nil => cases hi
  | cons u ts ih =>
    cases i with
    | zero =>
      have h1 := Option.some.inj hi
      subst h1
      show cntL u.2 k ≤ cntL u.2 k + _
      omega
    | succ i =>
      have := ih (i := i) hi
      show _ ≤ cntL u.2 k + cntT k ts
      omega
theorem two_ge {t u : Nat × PTab} (hi : ts[i]? = some t) (hj : ts[j]? = some u) (hne : i ≠ j) (k : Int) : cntL t.2 k + cntL u.2 k ≤ cntT k ts := by
  induction ts generalizing i j with
  | nil => cases hi
  | cons v ts ih =>
    cases i with
    | zero =>
      have h1 := Option.some.inj hi
      subst h1
      cases j with
      | zero => omega
      | succ j =>
        have := cntT_ge (ts := ts) (i := j) hj k
        show _ ≤ cntL v.2 k + cntT k ts
        omega
    | succ i =>
      cases j with
      | zero =>
        have h1 := Option.some.inj hj
        subst h1
        have := cntT_ge (ts := ts) (i := i) hi k
        show _ ≤ cntL v.2 k + cntT k ts
        omega
      | succ j =>
        have := ih (i := i) (j := j) hi hj (by omega)
        show _ ≤ cntL v.2 k + cntT k ts
        omega
theorem cntT_le (k : Int) : ∀ ts : List (Nat × PTab), cntT k ts ≤ 8 * ts.length
  | [] => Nat.le_refl _
  | t :: ts => by
    have h1 : ∀ f i, cntFrom t.2 k f i ≤ f := fun f => by
      induction f with
      | zero => intro i; exact Nat.le_refl _
      | succ f ih =>
        intro i
        have := ih (i + 1)
        show hitX (t.2 i) k + _ ≤ f + 1
        unfold hitX
        split <;> omega
    have h2 := h1 8 0
    have h3 := cntT_le k ts
    show cntFrom t.2 k 8 0 + cntT k ts ≤ 8 * (ts.length + 1)
    omega
theorem tset_self (L : PTab) (j : Nat) (x : Int × Bool) : tset L j x j = x := if_pos rfl
theorem tset_other (L : PTab) {j m : Nat} (x : Int × Bool) (h : m ≠ j) : tset L j x m = L m := if_neg h
theorem set_pos {tab : Nat} (h : Joint S ts) (hi : ts[i]? = some (tab, L)) (hp : ∀ j, j < 8 → 0 ≤ (L' j).1 ∧ (L' j).1 ≤ 40) : ∀ (m : Nat) (t : Nat × PTab), (ts.set i (tab, L'))[m]? = some t → ∀ j, j < 8 → 0 ≤ (t.2 j).1 ∧ (t.2 j).1 ≤ 40 := fun m t ht => by
  rcases set_get (x := (tab, L)) hi ht with ⟨_, rfl⟩ | ⟨_, h2⟩
  · exact hp
  · exact h.pos m t h2
theorem pos_set (hp : ∀ j, j < 8 → 0 ≤ (L j).1 ∧ (L j).1 ≤ 40) (hx : 0 ≤ x.1 ∧ x.1 ≤ 40) (j : Nat) : ∀ m, m < 8 → 0 ≤ (tset L j x m).1 ∧ (tset L j x m).1 ≤ 40 := fun m hm => by
  by_cases e : m = j
  · rw [e, tset_self]; exact hx
  · rw [tset_other L x e]; exact hp m hm
theorem refsOf_put (S : PS) (k : Int) (e : PE) (m : Int) : refsOf (putS S k e) m = if m = k then e.refs else refsOf S m := by
  show (mget (mput S.es k e) m).elim 0 (·.refs) = _
  rw [mget_mput]
  by_cases h : m = k
  · rw [if_pos h, if_pos h]; rfl
  · rw [if_neg h, if_neg h]; rfl
theorem refsOf_del (S : PS) (k m : Int) : refsOf (delS S k) m = if m = k then 0 else refsOf S m := by
  show (mget (mdel S.es k) m).elim 0 (·.refs) = _
  rw [mget_mdel]
  by_cases h : m = k
  · rw [if_pos h, if_pos h]; rfl
  · rw [if_neg h, if_neg h]; rfl
theorem refsOf_es {S S' : PS} (h : S'.es = S.es) (m : Int) : refsOf S' m = refsOf S m := by unfold refsOf; rw [h]
theorem refsOf_some (he : mget S.es k = some e) : refsOf S k = e.refs := by unfold refsOf; rw [he]; rfl
theorem gone_es (S : PS) (e : PE) : (goneS S e).es = S.es := by
  unfold goneS
  split
  · rfl
  · cases S.ps[e.pid]? <;> rfl
theorem Joint.there (h : Joint S ts) {t : Nat × PTab} (hi : ts[i]? = some t) : TabOk S t.2 := fun j hj => by
  by_cases hz : (t.2 j).1 = 0
  · exact .inl hz
  · refine .inr ?_
    have hp := h.pos i t hi j hj
    have h1 : 0 < cntL t.2 ((t.2 j).1 - 1) := cntL_pos hj (by omega)
    have h2 := cntT_ge hi ((t.2 j).1 - 1)
    have h3 := h.cnt ((t.2 j).1 - 1) (by omega)
    have h4 : 0 < refsOf S ((t.2 j).1 - 1) := by omega
    unfold refsOf at h4
    cases he : mget S.es ((t.2 j).1 - 1) with
    | none => rw [he] at h4; exact absurd h4 (by show ¬ 0 < 0; omega)
    | some e => exact ⟨e, rfl⟩
theorem Joint.refs (h : Joint S ts) (hS : DOk S) (he : mget S.es k = some e) : e.refs = cntT k ts := by
  rw [h.cnt k (hS.keys k e he).1, refsOf_some he]
theorem Joint.bound (h : Joint S ts) (hS : DOk S) (hl : ts.length ≤ 1000) : ∀ k e, mget S.es k = some e → e.refs < 999000 := fun k e he => by
  rw [h.refs hS he]
  have := cntT_le k ts
  omega
theorem hit_zero {c : Bool} (hk : 0 ≤ k) : hitX (0, c) k = 0 := if_neg (by show ¬ (0 : Int) = k + 1; omega)
theorem set_same {x : Nat × PTab} (hi : ts[i]? = some x) : ts.set i x = ts := by
  apply List.ext_getElem?
  intro j
  by_cases e : j = i
  · subst e
    rw [List.getElem?_set_self (by rcases Nat.lt_or_ge j ts.length with h1 | h1; exact h1; rw [List.getElem?_eq_none h1] at hi; cases hi), hi]
  · rw [List.getElem?_set_ne (fun h => e h.symm)]
theorem entL_slot (h : entL S L n = some (k, e)) : 0 ≤ n ∧ n < 8 ∧ (L n.toNat).1 = k + 1 ∧ (L n.toNat).1 ≠ 0 ∧ mget S.es k = some e := by
  obtain ⟨h1, h2⟩ := entL_some h
  obtain ⟨h3, h4, h5, h6⟩ := slotL_some h1
  exact ⟨h3, h4, by omega, h5, h2⟩
/-- A change of one number in one table, and of the entries, that agree. -/
theorem Joint.step (h : Joint S ts) {tab : Nat} (hi : ts[i]? = some (tab, L)) (hj : j < 8) (hx : 0 ≤ x.1 ∧ x.1 ≤ 40) (hr : ∀ m, 0 ≤ m → refsOf S' m + hitX (L j) m = refsOf S m + hitX x m) : Joint S' (ts.set i (tab, tset L j x)) := by
  refine ⟨fun m hm => ?_, set_pos h hi (pos_set (fun j hj => h.pos i _ hi j hj) hx j)⟩
  have h1 := cntT_set hi (L' := tset L j x) m
  have h2 := cntL_set (L := L) (x := x) (k := m) hj
  have h3 := h.cnt m hm
  have h4 := hr m hm
  omega
theorem Joint.keep (h : Joint S ts) (hr : ∀ m, 0 ≤ m → refsOf S' m = refsOf S m) : Joint S' ts := ⟨fun m hm => (h.cnt m hm).trans (hr m hm).symm, h.pos⟩
/-! ### each call -/
theorem joint_close (h : Joint S ts) (hS : DOk S) {tab : Nat} (hi : ts[i]? = some (tab, L)) (n : Int) : Joint (closeS S L n) (ts.set i (tab, closeL S L n)) := by
  unfold closeS closeL
  cases hx : entL S L n with
  | none => rw [show (Option.elim (none : Option (Int × PE)) L fun _ => tset L n.toNat (0, false)) = L from rfl, set_same hi]; exact h
  | some x =>
    obtain ⟨k, e⟩ := x
    obtain ⟨h1, h2, h3, h4, he⟩ := entL_slot hx
    show Joint (if 1 < e.refs then putS S k { e with refs := e.refs - 1 } else goneS (delS S k) e) (ts.set i (tab, tset L n.toNat (0, false)))
    have hk0 := (hS.keys k e he).1
    have hre := refsOf_some he
    have hr1 := (hS.ent k e he).1.1
    refine h.step hi (by omega) ⟨Int.le_refl _, by show (0 : Int) ≤ 40; decide⟩ (fun m hm => ?_)
    rw [hit_zero hm]
    have hr : refsOf (if 1 < e.refs then putS S k { e with refs := e.refs - 1 } else goneS (delS S k) e) m = if m = k then e.refs - 1 else refsOf S m := by
      by_cases hb : 1 < e.refs
      · rw [if_pos hb, refsOf_put]
      · rw [if_neg hb, refsOf_es (gone_es _ _), refsOf_del]
        by_cases hmk : m = k
        · rw [if_pos hmk, if_pos hmk]; omega
        · rw [if_neg hmk, if_neg hmk]
    rw [hr]
    unfold hitX
    by_cases hmk : m = k
    · rw [if_pos hmk, if_pos (by omega), hmk, hre]; omega
    · rw [if_neg hmk, if_neg (by omega)]
theorem joint_dup (h : Joint S ts) (hS : DOk S) {tab : Nat} (hi : ts[i]? = some (tab, L)) (n : Int) : Joint (dupS S L n) (ts.set i (tab, dupL S L n)) := by
  unfold dupS dupL
  by_cases hE : dupE S L n = 0
  · rw [if_pos hE, if_pos hE]
    cases hx : entL S L n with
    | none => unfold dupE at hE; rw [hx] at hE; cases hE
    | some x =>
      obtain ⟨k, e⟩ := x
      obtain ⟨h1, h2, h3, h4, he⟩ := entL_slot hx
      unfold dupE at hE
      rw [hx] at hE
      have hE : (if leastL L < 0 then (12 : Int) else 0) = 0 := hE
      obtain ⟨j, hl, hj, hjz⟩ := (leastL_spec L).resolve_left (fun hl => by rw [if_pos (by omega)] at hE; cases hE)
      rw [show (leastL L).toNat = j by omega]
      show Joint (putS S k { e with refs := e.refs + 1 }) _
      have hk0 := (hS.keys k e he).1
      have hp := h.pos i _ hi n.toNat (by omega)
      refine h.step hi hj hp (fun m hm => ?_)
      have h0 : hitX (L j) m = 0 := if_neg (by omega)
      rw [h0, refsOf_put]
      unfold hitX
      by_cases hmk : m = k
      · rw [if_pos hmk, if_pos (by show (L n.toNat).1 = m + 1; omega), hmk, refsOf_some he]
      · rw [if_neg hmk, if_neg (by show ¬ (L n.toNat).1 = m + 1; omega)]
  · rw [if_neg hE, if_neg hE, set_same hi]; exact h
theorem joint_seek (h : Joint S ts) (L : PTab) (n at' : Int) : Joint (seekS S L n at') ts := by
  refine h.keep (fun m hm => ?_)
  unfold seekS
  split
  · cases hx : entL S L n with
    | none => rfl
    | some x =>
      obtain ⟨k, e⟩ := x
      show refsOf (putS S k { e with at' := at' }) m = _
      rw [refsOf_put]
      by_cases hmk : m = k
      · rw [if_pos hmk, hmk, refsOf_some (entL_some hx).2]
      · rw [if_neg hmk]
  · rfl
theorem joint_rd (h : Joint S ts) (L : PTab) (n many : Int) : Joint (rdS S L n many) ts := by
  refine h.keep (fun m hm => ?_)
  unfold rdS
  cases hx : entL S L n with
  | none => rfl
  | some x =>
    obtain ⟨k, e⟩ := x
    show refsOf (if e.prot = 2 then S else if e.kind = 2 then (S.ps[e.pid]?).elim S fun q => pipeS S e.pid (pRdQ q many) else putS S k { e with at' := e.at' + (readT S.T e.node e.at' many).size }) m = _
    split
    · rfl
    · split
      · cases S.ps[e.pid]? <;> rfl
      · rw [refsOf_put]
        by_cases hmk : m = k
        · rw [if_pos hmk, hmk, refsOf_some (entL_some hx).2]
        · rw [if_neg hmk]
theorem joint_wr (h : Joint S ts) (L : PTab) (n : Int) (s : ByteArray) (most : Int) : Joint (wrS S L n s most) ts := by
  refine h.keep (fun m hm => ?_)
  unfold wrS
  cases hx : entL S L n with
  | none => rfl
  | some x =>
    obtain ⟨k, e⟩ := x
    show refsOf (if e.prot = 1 then S else if e.kind = 3 then (S.ps[e.pid]?).elim S fun q => pipeS S e.pid (pWrQ q s) else if limB e s most = true then S else if writeE S.T e.node e.at' s = 0 then putS (treeS S (writeT S.T e.node e.at' s)) k { e with at' := e.at' + s.size } else S) m = _
    split
    · rfl
    · split
      · cases S.ps[e.pid]? <;> rfl
      · split
        · rfl
        · split
          · rw [refsOf_put]
            by_cases hmk : m = k
            · rw [if_pos hmk, hmk, refsOf_some (entL_some hx).2]
            · rw [if_neg hmk]; rfl
          · rfl
theorem joint_mark (h : Joint S ts) {tab : Nat} (hi : ts[i]? = some (tab, L)) (n : Int) (c : Bool) : Joint S (ts.set i (tab, markL S L n c)) := by
  unfold markL
  cases hx : entL S L n with
  | none => rw [show (Option.elim (none : Option (Int × PE)) L fun _ => tset L n.toNat ((L n.toNat).1, c)) = L from rfl, set_same hi]; exact h
  | some x =>
    obtain ⟨k, e⟩ := x
    obtain ⟨h1, h2, h3, h4, he⟩ := entL_slot hx
    exact h.step hi (by omega) (h.pos i _ hi n.toNat (by omega)) (fun m hm => rfl)
theorem refs_fork : ∀ (f i : Nat) (S : PS), (∀ j, i ≤ j → j < i + f → 0 ≤ (L j).1 ∧ ((L j).1 = 0 ∨ ∃ e, mget S.es ((L j).1 - 1) = some e)) → ∀ m, 0 ≤ m → refsOf (forkFrom L f i S) m = refsOf S m + cntFrom L m f i
  | 0, i, S, _, m, _ => rfl
  | f + 1, i, S, h, m, hm => by
    show refsOf (forkFrom L f (i + 1) (if 0 < (L i).1 then bumpS S ((L i).1 - 1) else S)) m = refsOf S m + (hitX (L i) m + cntFrom L m f (i + 1))
    obtain ⟨hp, hh⟩ := h i (Nat.le_refl _) (by omega)
    by_cases hz : 0 < (L i).1
    · obtain ⟨e, he⟩ := hh.resolve_left (by omega)
      rw [if_pos hz, bumpS_is he, refs_fork f (i + 1) _ (fun j h1 h2 => ?_) m hm, refsOf_put]
      · unfold hitX
        by_cases hmk : m = (L i).1 - 1
        · rw [if_pos hmk, if_pos (by omega), hmk, refsOf_some he]; show e.refs + 1 + _ = _; omega
        · rw [if_neg hmk, if_neg (by omega)]; omega
      · obtain ⟨a, b⟩ := h j (by omega) (by omega)
        refine ⟨a, b.imp id ?_⟩
        rintro ⟨f', hf'⟩
        show ∃ e', mget (mput S.es _ _) _ = some e'
        rw [mget_mput]
        by_cases e1 : (L j).1 - 1 = (L i).1 - 1
        · exact ⟨_, if_pos e1⟩
        · exact ⟨f', by rw [if_neg e1]; exact hf'⟩
    · rw [if_neg hz, refs_fork f (i + 1) S (fun j h1 h2 => h j (by omega) (by omega)) m hm]
      have : hitX (L i) m = 0 := if_neg (by omega)
      omega
theorem joint_fork (h : Joint S ts) {tab : Nat} (hi : ts[i]? = some (tab, L)) (ub : Nat) : Joint (forkS S L) (ts ++ [(ub, L)]) := by
  have hp := fun j hj => h.pos i _ hi j hj
  refine ⟨fun m hm => ?_, fun j t ht => ?_⟩
  · rw [cntT_append, h.cnt m hm]
    unfold forkS
    rw [refs_fork 8 0 S (fun j _ hj => ⟨(hp j (by omega)).1, h.there hi j (by omega)⟩) m hm]
    rfl
  · rcases Nat.lt_or_ge j ts.length with hj | hj
    · rw [List.getElem?_append_left hj] at ht; exact h.pos j t ht
    · rw [List.getElem?_append_right hj] at ht
      cases hz : j - ts.length with
      | zero => rw [hz] at ht; cases ht; exact hp
      | succ m => rw [hz] at ht; cases ht
end
end Go.Proofs.YtiohpmcedfbcgacGreatDoor
/- Package desc, plain: what File and Pipe keep. No program in sight. Conditions: each theorem's own premises. -/
namespace Go.Proofs.YtiohpmcedfbcgacGreatDoor
open Go.RowKit
set_option linter.unusedVariables false
section
variable {S S' : PS} {T T' : PT} {e e' : PE} {k n : Int} {L L' : PTab} {ts : List (Nat × PTab)} {i j tab : Nat} {p q : PN} {path : ByteArray}
/-- A new entry at a free key. -/
theorem DOk.new (h : DOk S) (hk : mget S.es k = none) (hk40 : 0 ≤ k ∧ k < 40) (hlen : S.es.length < 40) (hE : EOk S' e) (hT : S'.ps = S.ps) (hone : e.kind ≠ 1 → ∀ m f, mget S.es m = some f → f.kind = e.kind → f.pid ≠ e.pid) (hes : S'.es = S.es)
    (hold : ∀ m f, mget S.es m = some f → EOk S f → EOk S' f) (hheld : ∀ n p, mget S'.T n = some p → p.held = heldE n S.es + oneOf n e) : DOk (putS S' k e) := by
  have hget : ∀ m f, mget (mput S'.es k e) m = some f → (m = k ∧ f = e) ∨ (m ≠ k ∧ mget S.es m = some f) := fun m q hq => by
    rw [mget_mput] at hq
    by_cases e : m = k
    · rw [if_pos e] at hq; cases hq; exact .inl ⟨e, rfl⟩
    · rw [if_neg e, hes] at hq; exact .inr ⟨e, hq⟩
  refine ⟨mput_nodup (by rw [hes]; exact h.nd) k e, fun m f hf => ?_, fun m f hf => ?_, ?_, fun a b f g hf hg hk1 hk2 hp => ?_, by rw [show (putS S' k e).ps = S.ps from hT]; exact h.pipes, fun n p hp => ?_⟩
  · rcases hget m f hf with ⟨rfl, rfl⟩ | ⟨_, hf⟩
    · exact hk40
    · exact h.keys m f hf
  · rcases hget m f hf with ⟨rfl, rfl⟩ | ⟨_, hf⟩
    · exact hE
    · exact hold m f hf (h.ent m f hf)
  · show (mput S'.es k e).length ≤ 40
    rw [mput_length, hes, hk]
    show S.es.length + 1 ≤ 40
    omega
  · rcases hget a f hf with ⟨rfl, rfl⟩ | ⟨ha, hf2⟩
    · rcases hget b g hg with ⟨rfl, rfl⟩ | ⟨_, hg⟩
      · rfl
      · exact absurd hp.symm (hone hk1 b g hg hk2.symm)
    · rcases hget b g hg with ⟨rfl, rfl⟩ | ⟨_, hg⟩
      · exact absurd hp (hone (by rw [← hk2]; exact hk1) a f hf2 hk2)
      · exact h.one a b f g hf2 hg hk1 hk2 hp
  · show p.held = heldE n (mput S'.es k e)
    rw [hes, heldE_new hk]
    exact hheld n p hp
theorem mget_holdT (n m : Int) : mget (holdT T n) m = if m = n then (mget T n).map (fun p => if p.isDir then p else { p with held := p.held + 1 }) else mget T m := by
  unfold holdT
  cases hn : mget T n with
  | none =>
    show mget T m = _
    by_cases h : m = n
    · rw [if_pos h, h, hn]; rfl
    · rw [if_neg h]
  | some p =>
    show mget (if p.isDir then T else mput T n { p with held := p.held + 1 }) m = if m = n then some (if p.isDir then p else { p with held := p.held + 1 }) else mget T m
    cases hd : p.isDir with
    | true =>
      simp only [if_true]
      by_cases h : m = n
      · rw [if_pos h, h, hn]
      · rw [if_neg h]
    | false =>
      simp only [Bool.false_eq_true, if_false]
      rw [mget_mput]
/-- What was there is there behind a make. -/
theorem makeT_old (hok : TOk T) (hn : mget T n = some p) (path : ByteArray) (b : Bool) : ∃ q, mget (makeT T path b) n = some q ∧ q.isDir = p.isDir ∧ q.held = p.held := by
  unfold makeT
  by_cases hE : makeE T path = 0
  · rw [if_pos hE]
    have hlen : T.length < 60 := by
      unfold makeE at hE
      by_cases h1 : (placeT T path).1 ≠ 0
      · rw [if_pos h1] at hE; exact absurd hE h1
      · rw [if_neg h1] at hE
        split at hE
        · cases hE
        · split at hE
          · cases hE
          · omega
    obtain ⟨_, _, hfree, _⟩ := freeT_spec hok hlen
    have h1 : mget (mput T (freeT T : Int) (newN b)) n = some p := by
      rw [mget_mput]
      by_cases e : n = (freeT T : Int)
      · rw [← e, hn] at hfree; cases hfree
      · rw [if_neg e]; exact hn
    unfold nameT
    cases hd : mget (mput T (freeT T : Int) (newN b)) (placeT T path).2.1 with
    | none => exact ⟨p, h1, rfl, rfl⟩
    | some q =>
      show ∃ q', mget (mput (mput T (freeT T : Int) (newN b)) (placeT T path).2.1 { q with ds := _ }) n = some q' ∧ _
      rw [mget_mput]
      by_cases e : n = (placeT T path).2.1
      · rw [if_pos e]
        rw [← e, h1] at hd
        cases hd
        exact ⟨_, rfl, rfl, rfl⟩
      · rw [if_neg e]
        exact ⟨p, h1, rfl, rfl⟩
  · rw [if_neg hE]
    exact ⟨p, hn, rfl, rfl⟩
theorem makeT_same (hok : TOk T) (path : ByteArray) (b : Bool) : Same T (makeT T path b) := by
  refine ⟨fun n p hp hd _ => ?_, fun n q hq => ?_⟩
  · obtain ⟨q, h1, h2, h3⟩ := makeT_old hok hp path b
    exact ⟨q, h1, by rw [h2]; exact hd, h3⟩
  · cases hn : mget T n with
    | some p =>
      obtain ⟨q', h1, h2, h3⟩ := makeT_old hok hn path b
      rw [hq] at h1
      cases h1
      exact .inl ⟨p, rfl, h3⟩
    | none =>
      rcases mget_makeT hq with ⟨p, hp, _⟩ | ⟨h1, _⟩
      · rw [hn] at hp; cases hp
      · exact .inr ⟨rfl, h1⟩
theorem fileN_same (hok : TOk S.T) (path : ByteArray) (makes : Bool) : Same S.T (fileN S.T path makes).2.2 := by
  unfold fileN
  split
  · exact makeT_same hok path false
  · exact Same.refl _
/-- What was made is a file. -/
theorem make_file (hE : makeE T path = 0) : fileE (makeT T path false) (makeK T path) = 0 := by
  rw [makeK_ok hE]
  unfold makeT
  rw [if_pos hE]
  have h1 : mget (mput T (freeT T : Int) (newN false)) (freeT T : Int) = some (newN false) := by rw [mget_mput, if_pos rfl]
  unfold nameT
  cases hd : mget (mput T (freeT T : Int) (newN false)) (placeT T path).2.1 with
  | none => exact fileE_file h1 rfl
  | some q =>
    show fileE (mput (mput T (freeT T : Int) (newN false)) (placeT T path).2.1 { q with ds := _ }) (freeT T : Int) = 0
    by_cases e : (freeT T : Int) = (placeT T path).2.1
    · rw [← e, h1] at hd
      cases hd
      exact fileE_file (p := { newN false with ds := mput (dsT T (placeT T path).2.1) (placeT T path).2.2 (freeT T : Int) }) (by rw [mget_mput, if_pos e]) rfl
    · exact fileE_file (p := newN false) (by rw [mget_mput, if_neg e]; exact h1) rfl
/-- What is told an error of leaves all as it was. -/
theorem open_err {prot : Int} {makes : Bool} (h : openE S L path prot makes ≠ 0) : openS S L path prot makes = S ∧ openL S L path prot makes = L := by
  refine ⟨?_, if_neg h⟩
  unfold openS
  unfold openE at h
  split
  · rfl
  · rename_i hp
    rw [if_neg hp] at h
    split
    · rfl
    · rename_i hf
      rw [if_neg hf] at h
      rw [if_neg h]
      have hT : fileH (fileN S.T path makes) = S.T := by
        unfold fileZ at h
        unfold fileH
        by_cases h0 : (fileN S.T path makes).1 = 0
        · rw [if_pos h0] at h ⊢
          rw [holdT_err h]
          unfold fileN at h h0 ⊢
          split
          · rename_i hc
            rw [if_pos hc] at h h0
            exact absurd (make_file h0) h
          · rfl
        · rw [if_neg h0]
          unfold fileN at h0 ⊢
          split
          · rename_i hc
            rw [if_pos hc] at h0
            exact if_neg h0
          · rfl
      rw [hT]; rfl
theorem open_len {prot : Int} {makes : Bool} (hS : DOk S) (h : openE S L path prot makes = 0) : (∃ j : Nat, leastL L = j ∧ j < 8 ∧ (L j).1 = 0) ∧ S.es.length < 40 ∧ fileZ (fileN S.T path makes) = 0 ∧ 1 ≤ prot ∧ prot ≤ 3 := by
  unfold openE at h
  by_cases hp : prot < 1 ∨ 3 < prot
  · rw [if_pos hp] at h; cases h
  · rw [if_neg hp] at h
    by_cases hf : leastL L < 0 ∨ 40 ≤ S.es.length
    · rw [if_pos hf] at h; cases h
    · rw [if_neg hf] at h
      exact ⟨(leastL_spec L).resolve_left (by omega), by omega, h, by omega, by omega⟩
theorem joint_open (h : Joint S ts) (hS : DOk S) (hok : TOk S.T) (hi : ts[i]? = some (tab, L)) (path : ByteArray) (prot : Int) (makes : Bool) :
    DOk (openS S L path prot makes) ∧ Joint (openS S L path prot makes) (ts.set i (tab, openL S L path prot makes)) := by
  by_cases hE : openE S L path prot makes = 0
  · obtain ⟨⟨j, hl, hj, hjz⟩, hlen, hz, hp1, hp2⟩ := open_len hS hE
    obtain ⟨hK40, hfree, _⟩ := freeE_spec hS.nd hlen
    obtain ⟨K, hK⟩ : ∃ K : Int, (freeE S.es : Int) = K := ⟨_, rfl⟩
    rw [hK] at hfree
    obtain ⟨xe, xk, T2, hX⟩ : ∃ xe xk T2, fileN S.T path makes = (xe, xk, T2) := ⟨_, _, _, rfl⟩
    have hsame : Same S.T T2 := by have := fileN_same (S := S) hok path makes; rw [hX] at this; exact this
    have e1 : openS S L path prot makes = putS (treeS S (holdT T2 xk)) K ⟨1, prot, xk, 0, 0, 1⟩ ∧ fileE T2 xk = 0 := by
      unfold openS
      rw [if_neg (by omega), if_neg (by omega), if_pos hz, hX, hK]
      rw [hX] at hz
      unfold fileZ at hz
      by_cases h0 : xe = 0
      · subst h0
        exact ⟨by unfold fileH; rfl, hz⟩
      · have hz : (if xe = 0 then fileE T2 xk else xe) = 0 := hz
        rw [if_neg h0] at hz
        exact absurd hz h0
    have e2 : openL S L path prot makes = tset L j (K + 1, false) := by
      unfold openL
      rw [if_pos hE, hl, hK]; rfl
    rw [e1.1, e2]
    obtain ⟨q, hq, hqd⟩ : ∃ q, mget T2 xk = some q ∧ q.isDir = false := by
      have h1 := e1.2
      cases hn : mget T2 xk with
      | none => rw [fileE_none hn] at h1; cases h1
      | some q =>
        cases hd : q.isDir with
        | true => rw [fileE_dir hn hd] at h1; cases h1
        | false => exact ⟨q, rfl, hd⟩
    have hkind : ∀ n p, mget (holdT T2 xk) n = some p → ∃ p2, mget T2 n = some p2 ∧ p.isDir = p2.isDir ∧ p.held = p2.held + (if n = xk then 1 else 0) := fun n p hp => by
      rw [mget_holdT] at hp
      by_cases e : n = xk
      · rw [if_pos e, hq] at hp
        simp only [Option.map_some, hqd, Bool.false_eq_true, if_false, Option.some.injEq] at hp
        refine ⟨q, by rw [e]; exact hq, ?_, ?_⟩
        · rw [← hp]; exact hqd.symm
        · rw [← hp, if_pos e]
      · rw [if_neg e] at hp
        exact ⟨p, hp, rfl, by rw [if_neg e]; rfl⟩
    have hback : ∀ n p, mget T2 n = some p → ∃ p', mget (holdT T2 xk) n = some p' ∧ p'.isDir = p.isDir := fun n p hp => by
      rw [mget_holdT]
      by_cases e : n = xk
      · rw [e, hq] at hp
        cases hp
        rw [if_pos e, hq]
        exact ⟨_, rfl, by simp only [hqd, Bool.false_eq_true, if_false]⟩
      · rw [if_neg e]
        exact ⟨p, hp, rfl⟩
    have hS2 := hS.tree hsame
    refine ⟨DOk.new (S := S) (S' := treeS S (holdT T2 xk)) hS hfree (by omega) hlen ?_ rfl (fun h => absurd rfl h) rfl (fun m f hf hEf => ?_) (fun n p hp => ?_), ?_⟩
    · obtain ⟨p', h1, h2⟩ := hback xk q hq
      exact ⟨⟨by show 1 ≤ 1; decide, by show 1 ≤ 1000000; decide, Int.le_refl _, by show (0 : Int) ≤ 200; decide⟩, .inl ⟨rfl, hp1, hp2, p', h1, by rw [h2]; exact hqd⟩⟩
    · have hE2 := hS2.ent m f hf
      refine ⟨hE2.1, ?_⟩
      rcases hE2.2 with ⟨h1, h2, h3, r, hr, hrd⟩ | h1 | h1
      · obtain ⟨p', h4, h5⟩ := hback f.node r hr
        exact .inl ⟨h1, h2, h3, p', h4, by rw [h5]; exact hrd⟩
      · exact .inr (.inl h1)
      · exact .inr (.inr h1)
    · obtain ⟨p2, h1, _, h3⟩ := hkind n p hp
      have h4 : p2.held = heldE n S.es := hS2.held n p2 h1
      rw [h3, h4]
      unfold oneOf
      by_cases e : n = xk
      · rw [if_pos e, if_pos ⟨rfl, e.symm⟩]
      · rw [if_neg e, if_neg (fun h => e h.2.symm)]
    · refine h.step hi hj (by show 0 ≤ K + 1 ∧ K + 1 ≤ 40; omega) (fun m hm => ?_)
      have h0 : hitX (L j) m = 0 := if_neg (by omega)
      rw [h0, refsOf_put]
      unfold hitX
      by_cases hmk : m = K
      · rw [if_pos hmk, if_pos (by show K + 1 = m + 1; omega)]
        have : refsOf S m = 0 := by unfold refsOf; rw [hmk, hfree]; rfl
        rw [this]
      · rw [if_neg hmk, if_neg (by show ¬ K + 1 = m + 1; omega)]; rfl
  · obtain ⟨e1, e2⟩ := open_err hE
    rw [e1, e2, set_same hi]
    exact ⟨hS, h⟩
end
end Go.Proofs.YtiohpmcedfbcgacGreatDoor
/- A tree of files in the directory of all alone: what keeps it so. Plain, no program in sight. Conditions: each theorem's own premises. -/
namespace Go.Proofs.YtiohpmcedfbcgacGreatDoor
open Go.RowKit Go.Lib
set_option linter.unusedVariables false
def noSl (s : ByteArray) : Prop := s.data.toList.count 47 = 0
theorem countB_count (s : ByteArray) : countB s slash = s.data.toList.count 47 := count_one 47 _
theorem occ_slash {l : List UInt8} {i : Nat} (h : occAt l [47] i = true) : ∃ t, l.drop i = 47 :: t := by
  unfold occAt at h
  cases hd : l.drop i with
  | nil => rw [hd] at h; cases h
  | cons a t =>
    rw [hd] at h
    have h1 : 47 = a := by simpa using h
    exact ⟨t, by rw [← h1]⟩
theorem pieces_noSl : ∀ (k : Nat) (s : ByteArray), countB s slash = k → ∀ x ∈ splitB slash 0 k s, noSl x
  | 0, s, h, x, hx => by
    rw [splitB_zero, List.mem_singleton] at hx
    subst hx
    unfold noSl
    rw [← countB_count]; exact h
  | k + 1, s, h, x, hx => by
    rcases index_spec s.data.toList slash.data.toList with ⟨h1, _⟩ | ⟨i, h1, h2, h3, h4⟩
    · rw [countB_miss s slash h1] at h; cases h
    · have hs : slash.size = 1 := rfl
      have hc := countB_hit s slash i (by decide) h1
      rw [hs] at hc
      rw [splitB_hit slash 0 k s i h1, hs] at hx
      rcases List.mem_cons.1 hx with rfl | hx
      · obtain ⟨t, ht⟩ := occ_slash h3
        have e1 : s.data.toList.count 47 = (s.data.toList.take i).count 47 + (s.data.toList.drop i).count 47 := by
          rw [← List.count_append, List.take_append_drop]
        have e2 : t = s.data.toList.drop (i + 1) := by
          have := congrArg List.tail ht
          simp only [List.tail_drop, List.tail_cons] at this
          exact this.symm
        have e3 : countB (s.extract (i + 1) s.size) slash = (s.data.toList.drop (i + 1)).count 47 := by
          rw [countB_count, extract_data, List.take_of_length_le (by rw [List.length_drop, ← size_eq]; omega)]
        rw [ht, List.count_cons_self, e2] at e1
        rw [countB_count, e3] at hc
        unfold noSl
        rw [Nat.add_zero, extract_data, List.drop_zero, Nat.sub_zero]
        omega
      · exact pieces_noSl k _ (by omega) x hx
theorem names_noSl {p : ByteArray} {l : List ByteArray} (h : namesOf p = some l) : ∀ s ∈ l, noSl s := by
  unfold namesOf at h
  split at h
  · split at h
    · cases h; intro s hs; cases hs
    · split at h
      · cases h
        exact pieces_noSl _ _ rfl
      · cases h
  · cases h
theorem slash_app (s : ByteArray) : led (slash ++ s) = true ∧ (slash ++ s).size = s.size + 1 ∧ (slash ++ s).extract 1 (slash ++ s).size = s := by
  have hd : (slash ++ s).data.toList = 47 :: s.data.toList := by simp [slash]
  have hsz : (slash ++ s).size = s.size + 1 := by rw [size_eq, hd, List.length_cons, ← size_eq]
  refine ⟨?_, hsz, ?_⟩
  · unfold led hasPrefix
    rw [hd]; simp
  · rw [← mk_data ((slash ++ s).extract 1 (slash ++ s).size), ← mk_data s]
    congr 2
    rw [extract_data, hd, List.drop_succ_cons, List.drop_zero, hsz]
    exact List.take_of_length_le (by rw [← size_eq]; omega)
/-- A name in the directory of all, as a path. -/
theorem names_one {s : ByteArray} (h1 : okName s = true) (h2 : noSl s) : namesOf (slash ++ s) = some [s] := by
  obtain ⟨a, b, c⟩ := slash_app s
  have hsz : 1 ≤ s.size := by
    unfold okName at h1
    rw [Bool.and_eq_true, Bool.and_eq_true, Bool.and_eq_true] at h1
    exact of_decide_eq_true h1.1.1.1
  have hp : piecesOf s = [s] := by
    unfold piecesOf
    rw [countB_count, show s.data.toList.count 47 = 0 from h2]; rfl
  have := namesOf_ok a (by omega) (by rw [c, hp, List.all_cons, h1]; rfl)
  rw [c, hp] at this
  exact this
/-- All but the directory of all are files; each is named or held; names have no slash, and lead to files. -/
structure Flat (T : PT) : Prop where
  file : ∀ n p, mget T n = some p → n ≠ 0 → p.isDir = false
  live : ∀ n p, mget T n = some p → 0 < p.names + p.held
  up : ∀ n p, mget T n = some p → ∀ s m, mget p.ds s = some m → m ≠ 0 ∧ noSl s
  one : ∀ n p, mget T n = some p → p.names ≤ 1
theorem flat_root : Flat rootT := by
  have h : ∀ n p, mget rootT n = some p → n = 0 ∧ p = ⟨true, [], ByteArray.empty, 1, 0⟩ := fun n p h => by
    have hm := mem_of_mget h
    unfold rootT at hm
    simp only [List.mem_cons, List.not_mem_nil, or_false, Prod.mk.injEq] at hm
    exact hm
  refine ⟨fun n p hp hn => absurd (h n p hp).1 hn, fun n p hp => ?_, fun n p hp s m hs => ?_, fun n p hp => ?_⟩
  · rw [(h n p hp).2]; decide
  · rw [(h n p hp).2] at hs; cases hs
  · rw [(h n p hp).2]; exact Nat.le_refl _
section
variable {T T' : PT} {n : Int} {p q : PN} {path : ByteArray}
theorem Flat.put (h : Flat T) (hn : mget T n = some p) (h1 : q.isDir = p.isDir) (h2 : q.ds = p.ds) (h3 : 0 < q.names + q.held) (h4 : q.names ≤ p.names) : Flat (mput T n q) := by
  have hget : ∀ m r, mget (mput T n q) m = some r → (m = n ∧ r = q) ∨ (m ≠ n ∧ mget T m = some r) := fun m r hr => by
    rw [mget_mput] at hr
    by_cases e : m = n
    · rw [if_pos e] at hr; cases hr; exact .inl ⟨e, rfl⟩
    · rw [if_neg e] at hr; exact .inr ⟨e, hr⟩
  refine ⟨fun m r hr hm => ?_, fun m r hr => ?_, fun m r hr => ?_, fun m r hr => ?_⟩
  · rcases hget m r hr with ⟨rfl, rfl⟩ | ⟨_, hr⟩
    · rw [h1]; exact h.file m p hn hm
    · exact h.file m r hr hm
  · rcases hget m r hr with ⟨rfl, rfl⟩ | ⟨_, hr⟩
    · exact h3
    · exact h.live m r hr
  · rcases hget m r hr with ⟨rfl, rfl⟩ | ⟨_, hr⟩
    · rw [h2]; exact h.up m p hn
    · exact h.up m r hr
  · rcases hget m r hr with ⟨rfl, rfl⟩ | ⟨_, hr⟩
    · exact Nat.le_trans h4 (h.one m p hn)
    · exact h.one m r hr
theorem Flat.del (h : Flat T) (n : Int) : Flat (mdel T n) := by
  have hget : ∀ m r, mget (mdel T n) m = some r → mget T m = some r := fun m r hr => by
    rw [mget_mdel] at hr
    split at hr
    · cases hr
    · exact hr
  exact ⟨fun m r hr => h.file m r (hget m r hr), fun m r hr => h.live m r (hget m r hr), fun m r hr => h.up m r (hget m r hr), fun m r hr => h.one m r (hget m r hr)⟩
/-- One number less: the node goes with its last name and hold. -/
theorem Flat.gone (h : Flat T) (hn : mget T n = some p) (h1 : q.isDir = p.isDir) (h2 : q.ds = p.ds) (h4 : q.names ≤ p.names) : Flat (goneT (mput T n q) n q) := by
  unfold goneT
  by_cases hz : q.names = 0 ∧ q.held = 0
  · rw [if_pos hz]
    have hget : ∀ m r, mget (mdel (mput T n q) n) m = some r → mget T m = some r := fun m r hr => by
      rw [mget_mdel] at hr
      split at hr
      · cases hr
      · rename_i hm
        rw [mget_mput, if_neg hm] at hr
        exact hr
    exact ⟨fun m r hr => h.file m r (hget m r hr), fun m r hr => h.live m r (hget m r hr), fun m r hr => h.up m r (hget m r hr), fun m r hr => h.one m r (hget m r hr)⟩
  · rw [if_neg hz]
    exact h.put hn h1 h2 (by omega) h4
theorem Flat.hold (h : Flat T) (n : Int) : Flat (holdT T n) := by
  unfold holdT
  cases hn : mget T n with
  | none => exact h
  | some p =>
    show Flat (if p.isDir then T else mput T n { p with held := p.held + 1 })
    split
    · exact h
    · exact h.put hn rfl rfl (by show 0 < p.names + (p.held + 1); omega) (Nat.le_refl _)
theorem Flat.drop (h : Flat T) (n : Int) : Flat (dropT T n) := by
  unfold dropT
  cases hn : mget T n with
  | none => exact h
  | some p =>
    show Flat (if p.isDir then T else if p.held = 0 then T else goneT (mput T n { p with held := p.held - 1 }) n { p with held := p.held - 1 })
    split
    · exact h
    · split
      · exact h
      · exact h.gone hn rfl rfl (Nat.le_refl _)
theorem Flat.write (h : Flat T) (n at' : Int) (s : ByteArray) : Flat (writeT T n at' s) := by
  unfold writeT
  split
  · unfold setDataT
    cases hn : mget T n with
    | none => exact h
    | some p => exact h.put hn rfl rfl (h.live n p hn) (Nat.le_refl _)
  · exact h
theorem place_name {d : Int} {s : ByteArray} (h : placeT T path = (0, d, s)) : noSl s ∧ ∃ p, mget T d = some p ∧ p.isDir = true := by
  unfold placeT at h
  cases hn : namesOf path with
  | none => rw [hn] at h; cases h
  | some l =>
    rw [hn] at h
    have h : (if l = [] then ((1 : Int), (0 : Int), ByteArray.empty) else if (walkT T 0 l.dropLast).1 ≠ 0 then ((walkT T 0 l.dropLast).1, 0, ByteArray.empty) else if isDirT T (walkT T 0 l.dropLast).2 then (0, (walkT T 0 l.dropLast).2, l.getLastD ByteArray.empty) else (6, 0, ByteArray.empty)) = (0, d, s) := h
    by_cases hl : l = []
    · rw [if_pos hl] at h; cases h
    · rw [if_neg hl] at h
      by_cases hw : (walkT T 0 l.dropLast).1 ≠ 0
      · rw [if_pos hw] at h
        exact absurd (Prod.mk.inj h).1 hw
      · rw [if_neg hw] at h
        cases hd : isDirT T (walkT T 0 l.dropLast).2 with
        | false => rw [hd] at h; cases h
        | true =>
          rw [hd] at h
          have h : ((0 : Int), (walkT T 0 l.dropLast).2, l.getLastD ByteArray.empty) = (0, d, s) := h
          obtain ⟨_, h2⟩ := Prod.mk.inj h
          obtain ⟨h3, h4⟩ := Prod.mk.inj h2
          refine ⟨?_, ?_⟩
          · rw [← h4]
            refine names_noSl hn _ ?_
            rw [List.getLastD_eq_getLast?, List.getLast?_eq_some_getLast hl]
            exact List.getLast_mem hl
          · rw [h3] at hd
            unfold isDirT at hd
            cases hp : mget T d with
            | none => rw [hp] at hd; cases hd
            | some p => rw [hp] at hd; exact ⟨p, rfl, hd⟩
theorem Flat.make (h : Flat T) (hok : TOk T) (path : ByteArray) : Flat (makeT T path false) := by
  unfold makeT
  by_cases hE : makeE T path = 0
  · rw [if_pos hE]
    have h0 : (placeT T path).1 = 0 := by
      unfold makeE at hE
      by_cases h1 : (placeT T path).1 ≠ 0
      · rw [if_pos h1] at hE; exact absurd hE h1
      · omega
    have hlen : T.length < 60 := by
      unfold makeE at hE
      rw [if_neg (by omega)] at hE
      split at hE
      · cases hE
      · split at hE
        · cases hE
        · omega
    obtain ⟨d, s, hpl⟩ : ∃ d s, placeT T path = (0, d, s) := ⟨(placeT T path).2.1, (placeT T path).2.2, by rw [← h0]⟩
    obtain ⟨hns, p, hp, hpd⟩ := place_name hpl
    obtain ⟨hK1, _, hfree, _⟩ := freeT_spec hok hlen
    obtain ⟨K, hK⟩ : ∃ K : Int, (freeT T : Int) = K := ⟨_, rfl⟩
    have hK0 : K ≠ 0 := by omega
    rw [hpl]
    rw [hK] at hfree ⊢
    have hdK : d ≠ K := fun e => by rw [e, hfree] at hp; cases hp
    have hd1 : mget (mput T K (newN false)) d = some p := by rw [mget_mput, if_neg hdK]; exact hp
    have hds : dsT T d = p.ds := by unfold dsT; rw [hp]; rfl
    have e1 : nameT (mput T K (newN false)) d (mput (dsT T d) s K) = mput (mput T K (newN false)) d { p with ds := mput p.ds s K } := by unfold nameT; rw [hd1, hds]; rfl
    show Flat (nameT (mput T K (newN false)) d (mput (dsT T d) s K))
    rw [e1]
    have hget : ∀ m r, mget (mput (mput T K (newN false)) d { p with ds := mput p.ds s K }) m = some r → (m = d ∧ r = { p with ds := mput p.ds s K }) ∨ (m = K ∧ r = newN false) ∨ mget T m = some r := fun m r hr => by
      rw [mget_mput] at hr
      by_cases e : m = d
      · rw [if_pos e] at hr; cases hr; exact .inl ⟨e, rfl⟩
      · rw [if_neg e, mget_mput] at hr
        by_cases e2 : m = K
        · rw [if_pos e2] at hr; cases hr; exact .inr (.inl ⟨e2, rfl⟩)
        · rw [if_neg e2] at hr; exact .inr (.inr hr)
    refine ⟨fun m r hr hm => ?_, fun m r hr => ?_, fun m r hr s' m' hs' => ?_, fun m r hr => ?_⟩
    · rcases hget m r hr with ⟨rfl, rfl⟩ | ⟨rfl, rfl⟩ | hr
      · exact h.file m p hp hm
      · rfl
      · exact h.file m r hr hm
    · rcases hget m r hr with ⟨rfl, rfl⟩ | ⟨rfl, rfl⟩ | hr
      · exact h.live m p hp
      · show 0 < 1 + 0; omega
      · exact h.live m r hr
    · rcases hget m r hr with ⟨rfl, rfl⟩ | ⟨rfl, rfl⟩ | hr
      · have hs' : mget (mput p.ds s K) s' = some m' := hs'
        rw [mget_mput] at hs'
        by_cases e : s' = s
        · rw [if_pos e] at hs'
          cases hs'
          exact ⟨hK0, by rw [e]; exact hns⟩
        · rw [if_neg e] at hs'
          exact h.up m p hp s' m' hs'
      · cases hs'
      · exact h.up m r hr s' m' hs'
    · rcases hget m r hr with ⟨rfl, rfl⟩ | ⟨rfl, rfl⟩ | hr
      · exact h.one m p hp
      · exact Nat.le_refl _
      · exact h.one m r hr
  · rw [if_neg hE]; exact h
theorem Flat.found (h : Flat T) (hok : TOk T) (path : ByteArray) (makes : Bool) : Flat (fileN T path makes).2.2 := by
  unfold fileN
  split
  · exact h.make hok path
  · exact h
/-- A name in the directory of all is taken away. -/
theorem unlink_one (hok : TOk T) (h : Flat T) {p0 : PN} (h0 : mget T 0 = some p0) (hd : p0.isDir = true) {s : ByteArray} {m : Int} (hs : mget p0.ds s = some m) :
    unlinkE T (slash ++ s) = 0 ∧ (∃ p1, mget (unlinkT T (slash ++ s)) 0 = some p1 ∧ p1.isDir = true ∧ p1.ds = mdel p0.ds s) ∧ Flat (unlinkT T (slash ++ s)) ∧ Same T (unlinkT T (slash ++ s)) := by
  obtain ⟨hm0, hns⟩ := h.up 0 p0 h0 s m hs
  have hon : okName s = true := hok.nms 0 p0 h0 (s, m) (mem_of_mget hs)
  have hpl : placeT T (slash ++ s) = (0, 0, s) := placeT_dir (names_one hon hns) (by simp) rfl (by unfold isDirT; rw [h0]; exact hd)
  obtain ⟨q, hq⟩ := hok.link 0 p0 h0 s m hs
  have hqd := h.file m q hq hm0
  have hds0 : dsT T 0 = p0.ds := by unfold dsT; rw [h0]; rfl
  have hdsm : dsT T m = [] := by unfold dsT; rw [hq]; exact hok.file m q hq hqd
  have hE : unlinkE T (slash ++ s) = 0 := by
    unfold unlinkE
    rw [hpl, if_neg (by simp)]
    simp only [hds0, hs, Option.elim, hdsm]
    rfl
  have hT : unlinkT T (slash ++ s) = goneT (mput (mput T 0 { p0 with ds := mdel p0.ds s }) m { q with names := q.names - 1 }) m { q with names := q.names - 1 } := by
    unfold unlinkT
    rw [if_pos hE, hpl]
    simp only [hds0, hs, Option.elim, hq]
    rw [updN_is h0]
  have hget1 : ∀ n r, mget (mput T 0 { p0 with ds := mdel p0.ds s }) n = some r → (n = 0 ∧ r = { p0 with ds := mdel p0.ds s }) ∨ (n ≠ 0 ∧ mget T n = some r) := fun n r hr => by
    rw [mget_mput] at hr
    by_cases e : n = 0
    · rw [if_pos e] at hr; cases hr; exact .inl ⟨e, rfl⟩
    · rw [if_neg e] at hr; exact .inr ⟨e, hr⟩
  have hF1 : Flat (mput T 0 { p0 with ds := mdel p0.ds s }) := by
    refine ⟨fun n r hr hn => ?_, fun n r hr => ?_, fun n r hr s' m' hs' => ?_, fun n r hr => ?_⟩
    · rcases hget1 n r hr with ⟨h1, _⟩ | ⟨_, h2⟩
      · exact absurd h1 hn
      · exact h.file n r h2 hn
    · rcases hget1 n r hr with ⟨_, rfl⟩ | ⟨_, h2⟩
      · exact h.live 0 p0 h0
      · exact h.live n r h2
    · rcases hget1 n r hr with ⟨_, rfl⟩ | ⟨_, h2⟩
      · have hs' : mget (mdel p0.ds s) s' = some m' := hs'
        rw [mget_mdel] at hs'
        split at hs'
        · cases hs'
        · exact h.up 0 p0 h0 s' m' hs'
      · exact h.up n r h2 s' m' hs'
    · rcases hget1 n r hr with ⟨_, rfl⟩ | ⟨_, h2⟩
      · exact h.one 0 p0 h0
      · exact h.one n r h2
  have hq1 : mget (mput T 0 { p0 with ds := mdel p0.ds s }) m = some q := by rw [mget_mput, if_neg hm0]; exact hq
  have hget2 : ∀ n r, mget (unlinkT T (slash ++ s)) n = some r → (n = m ∧ r = { q with names := q.names - 1 }) ∨ (n ≠ m ∧ mget (mput T 0 { p0 with ds := mdel p0.ds s }) n = some r) := fun n r hr => by
    rw [hT] at hr
    have hr' : mget (mput (mput T 0 { p0 with ds := mdel p0.ds s }) m { q with names := q.names - 1 }) n = some r := by
      unfold goneT at hr
      split at hr
      · rw [mget_mdel] at hr
        split at hr
        · cases hr
        · exact hr
      · exact hr
    rw [mget_mput] at hr'
    by_cases e : n = m
    · rw [if_pos e] at hr'; cases hr'; exact .inl ⟨e, rfl⟩
    · rw [if_neg e] at hr'; exact .inr ⟨e, hr'⟩
  have hback : ∀ n r, (n ≠ m ∨ 0 < q.held) → mget (mput (mput T 0 { p0 with ds := mdel p0.ds s }) m { q with names := q.names - 1 }) n = some r → mget (unlinkT T (slash ++ s)) n = some r := fun n r hn hr => by
    rw [hT]
    unfold goneT
    split
    · rename_i hz
      have hz2 : q.held = 0 := hz.2
      rw [mget_mdel, if_neg (by rcases hn with hn | hn; exact hn; omega)]
      exact hr
    · exact hr
  refine ⟨hE, ⟨{ p0 with ds := mdel p0.ds s }, hback 0 _ (.inl (fun e => hm0 e.symm)) ?_, hd, rfl⟩, ?_, ⟨fun n r hr hrd hrh => ?_, fun n r hr => ?_⟩⟩
  · rw [mget_mput, if_neg (fun e => hm0 e.symm), mget_mput, if_pos rfl]
  · rw [hT]; exact hF1.gone hq1 rfl rfl (by show q.names - 1 ≤ q.names; omega)
  · have hn0 : n ≠ 0 := fun e => by rw [e, h0] at hr; cases hr; rw [hd] at hrd; cases hrd
    by_cases e : n = m
    · rw [e, hq] at hr
      cases hr
      exact ⟨{ q with names := q.names - 1 }, by rw [e]; exact hback m _ (.inr hrh) (by rw [mget_mput, if_pos rfl]), hrd, rfl⟩
    · exact ⟨r, hback n _ (.inl e) (by rw [mget_mput, if_neg e, mget_mput, if_neg hn0]; exact hr), hrd, rfl⟩
  · rcases hget2 n r hr with ⟨rfl, rfl⟩ | ⟨_, h2⟩
    · exact .inl ⟨q, hq, rfl⟩
    · rcases hget1 n r h2 with ⟨rfl, rfl⟩ | ⟨_, h3⟩
      · exact .inl ⟨p0, h0, rfl⟩
      · exact .inl ⟨r, h3, rfl⟩
theorem linksT_none : ∀ {T : PT}, (∀ t ∈ T, t.2.ds = []) → ∀ n, linksT n T = 0
  | [], _, n => rfl
  | t :: T, h, n => by
    show linksIn n t.2.ds + linksT n T = 0
    rw [h t List.mem_cons_self, linksT_none (fun u hu => h u (List.mem_cons_of_mem _ hu)) n]
    rfl
/-- Without names and holds there is the directory of all alone. -/
theorem last_one (hok : TOk T) (h : Flat T) {p0 : PN} (h0 : mget T 0 = some p0) (hds : p0.ds = []) (hheld : ∀ n p, mget T n = some p → p.held = 0) : T.length = 1 := by
  have hall : ∀ t ∈ T, t.2.ds = [] := fun t ht => by
    have h1 : mget T t.1 = some t.2 := mget_mem hok.nd ht
    by_cases e : t.1 = 0
    · rw [e, h0] at h1
      cases h1; exact hds
    · exact hok.file t.1 t.2 h1 (h.file t.1 t.2 h1 e)
  have hroot : ∀ t ∈ T, t.1 = 0 := fun t ht => by
    have h1 : mget T t.1 = some t.2 := mget_mem hok.nd ht
    rcases Decidable.em (t.1 = 0) with e | e
    · exact e
    · exfalso
      have h2 := h.live t.1 t.2 h1
      have h3 := hok.cnt t.1 t.2 h1
      rw [if_neg e, linksT_none hall] at h3
      have h4 := hheld t.1 t.2 h1
      omega
  have hnd := hok.nd
  cases T with
  | nil => cases h0
  | cons t T =>
    cases T with
    | nil => rfl
    | cons u T =>
      exfalso
      have h1 := hroot t List.mem_cons_self
      have h2 := hroot u (List.mem_cons_of_mem _ List.mem_cons_self)
      unfold MNodup at hnd
      rw [List.map_cons, List.map_cons, h1, h2] at hnd
      exact (List.nodup_cons.1 hnd).1 List.mem_cons_self
theorem links_sum (T : PT) : ∀ ds : List (ByteArray × Int), (∀ e ∈ ds, ∃ t ∈ T, t.1 = e.2) → ds.length ≤ (T.map fun t => linksIn t.1 ds).sum
  | [], _ => Nat.zero_le _
  | e :: ds, h => by
    have ih := links_sum T ds (fun x hx => h x (List.mem_cons_of_mem _ hx))
    obtain ⟨t, ht, hte⟩ := h e List.mem_cons_self
    have hone : ∀ n, linksIn n (e :: ds) = (if e.2 = n then 1 else 0) + linksIn n ds := fun n => by
      unfold linksIn
      rw [List.filter_cons]
      by_cases h1 : e.2 = n
      · rw [if_pos (decide_eq_true h1), if_pos h1, List.length_cons]; omega
      · rw [if_neg (by simpa using h1), if_neg h1]; omega
    have hs : ∀ U : PT, (U.map fun t => linksIn t.1 (e :: ds)).sum = (U.map fun t => if e.2 = t.1 then 1 else 0).sum + (U.map fun t => linksIn t.1 ds).sum := fun U => by
      induction U with
      | nil => rfl
      | cons u U ih =>
        simp only [List.map_cons, List.sum_cons]
        rw [ih, hone]; omega
    have hp : ∀ U : PT, t ∈ U → 1 ≤ (U.map fun t => if e.2 = t.1 then 1 else 0).sum := fun U => by
      induction U with
      | nil => intro h; cases h
      | cons u U ih =>
        intro hu
        simp only [List.map_cons, List.sum_cons]
        rcases List.mem_cons.1 hu with rfl | hu
        · rw [if_pos hte.symm]; omega
        · have := ih hu; omega
    have h3 := hp T ht
    rw [hs T, List.length_cons]
    omega
theorem ds_few (hok : TOk T) (h : Flat T) (hn : mget T n = some p) : p.ds.length ≤ 60 := by
  have h1 := links_sum T p.ds (fun e he => by
    have h2 : mget p.ds e.1 = some e.2 := mget_mem (hok.dnd n p hn) he
    obtain ⟨q, hq⟩ := hok.link n p hn e.1 e.2 h2
    exact ⟨(e.2, q), mem_of_mget hq, rfl⟩)
  have h2 : ∀ U : PT, (∀ t ∈ U, linksIn t.1 p.ds ≤ 1) → (U.map fun t => linksIn t.1 p.ds).sum ≤ U.length := fun U => by
    induction U with
    | nil => intro _; exact Nat.le_refl _
    | cons u U ih =>
      intro hU
      simp only [List.map_cons, List.sum_cons, List.length_cons]
      have := hU u List.mem_cons_self
      have := ih (fun t ht => hU t (List.mem_cons_of_mem _ ht))
      omega
  have h3 := h2 T (fun t ht => by
    have h4 : mget T t.1 = some t.2 := mget_mem hok.nd ht
    have h5 := hok.cnt t.1 t.2 h4
    have h6 := h.one t.1 t.2 h4
    have h7 : linksIn t.1 p.ds ≤ linksT t.1 T := linksT_ge (t := (n, p)) (mem_of_mget hn)
    omega)
  have := hok.size
  omega
end
end Go.Proofs.YtiohpmcedfbcgacGreatDoor
/- Package desc: Dup2. Conditions: each theorem's own premises. -/
namespace Go.Proofs.YtiohpmcedfbcgacGreatDoor
open Go.RowKit
set_option linter.unusedVariables false
def dup2E (S : PS) (L : PTab) (n to_ : Int) : Int := (entL S L n).elim 7 fun _ => if to_ < 0 ∨ 8 ≤ to_ then 2 else 0
def bumpE (S : PS) (L : PTab) (n : Int) : PS := (entL S L n).elim S fun x => putS S x.1 { x.2 with refs := x.2.refs + 1 }
def dup2S (S : PS) (L : PTab) (n to_ : Int) : PS := if dup2E S L n to_ = 0 ∧ n ≠ to_ then closeS (bumpE S L n) L to_ else S
def dup2L (S : PS) (L : PTab) (n to_ : Int) : PTab := if dup2E S L n to_ = 0 ∧ n ≠ to_ then tset (closeL (bumpE S L n) L to_) to_.toNat ((L n.toNat).1, false) else L
section
variable {W : Base} {w w' w1 w2 : World} {fb tb om b tab : Nat} {S S' : PS} {B : Int → Nat} {P : Nat → Nat} {Ft F : Nat → Prop} {C : Nat → Nat × Int} {e e' : PE} {k n : Int} {L L' : PTab} {ts : List (Nat × PTab)} {i : Nat}
theorem DLawB.putE (h : DLawB W w fb tb S ts) (hF : FilesIn w fb tb om S B P Ft C) (h2 : ∀ k, CFoot C k → ¬ W.old k) (h3 : ∀ (j : Nat) (x : Nat × PTab), ts[j]? = some x → ¬ CFoot C x.1) (he : mget S.es k = some e) (nd : EntAt w' (B k) P e') (t : Turn (fun j => j = B k) w w') : DLawB W w' fb tb (putS S k e') ts := by
  have hB := hF.foot he
  exact ⟨⟨CFoot C, (hF.put he nd t).is, h2, h3⟩, fun j x hx => ⟨(h.tabs j x hx).1.turned t (fun e => h3 j x hx (e ▸ hB)), (h.tabs j x hx).2⟩, h.apart, h.turn.trans' t (fun j hj e => e ▸ h2 _ hB), h.low⟩
/-- One number of one table changes. -/
theorem DLawB.tabset (h : DLawB W w fb tb S ts) (hi : ts[i]? = some (tab, L)) (ht : TabIs w' tab L') (t : Turn (fun j => j = tab) w w') : DLawB W w' fb tb S (ts.set i (tab, L')) := by
  obtain ⟨F, h1, h2, h3⟩ := h.files
  exact h.step hi h2 h3 ⟨F, h1.turned t (fun k hk e => h3 i _ hi (e ▸ hk)), ht, t.mono (fun _ _ h => .inr h), fun _ h => .inl h, h3 i _ hi⟩
theorem bumpE_is (hx : entL S L n = some (k, e)) : bumpE S L n = putS S k { e with refs := e.refs + 1 } := by unfold bumpE; rw [hx]; rfl
theorem DOk.bump (h : DOk S) (hb : ∀ k e, mget S.es k = some e → e.refs < 999000) (he : mget S.es k = some e) : DOk (putS S k { e with refs := e.refs + 1 }) := by
  have hE := (h.ent k e he).1
  have := hb k e he
  exact h.put he rfl rfl rfl rfl ⟨by show 1 ≤ e.refs + 1; omega, by show e.refs + 1 ≤ 1000000; omega, hE.2.2⟩
theorem TabOk.bump (h : TabOk S L) (k : Int) (e : PE) : TabOk (putS S k e) L := fun i hi => by
  rcases h i hi with h1 | ⟨f, hf⟩
  · exact .inl h1
  · refine .inr ?_
    show ∃ e', mget (mput S.es k e) _ = some e'
    rw [mget_mput]
    by_cases e1 : (L i).1 - 1 = k
    · exact ⟨e, if_pos e1⟩
    · exact ⟨f, by rw [if_neg e1]; exact hf⟩
theorem closeL_other (S : PS) (L : PTab) (m : Int) {j : Nat} (h : j ≠ m.toNat) : closeL S L m j = L j := by
  unfold closeL
  cases entL S L m with
  | none => rfl
  | some x => exact tset_other L _ h
set_option maxHeartbeats 2000000 in
set_option maxRecDepth 100000 in
theorem law_dup2 (h : DLawB W w fb tb S ts) (hS : DOk S) (hJ : Joint S ts) (hl : ts.length ≤ 1000) (hi : ts[i]? = some (tab, L)) (n m : Int) :
    Calls Tryz.prog 122 #[.pointer (some ⟨fb, 0, none⟩), .pointer (some ⟨tab, 0, none⟩), .int .i64 n, .int .i64 m] w fun e w' => e = .returned (TErr (dup2E S L n m)) ∧ DLawB W w' fb tb (dup2S S L n m) (ts.set i (tab, dup2L S L n m)) := by
  have hok := hJ.there hi
  have ht := (h.tabs i _ hi).1
  obtain ⟨F, ⟨om, B, P, Ft, C, hin, rfl⟩, h2, h3⟩ := h.files
  have HSame : Hid (∀ w', Turn (fun _ => False) w w' → DLawB W w' fb tb S (ts.set i (tab, L))) := hid (fun w' t => by rw [set_same hi]; exact h.still t)
  cases hx : entL S L n with
  | none =>
    have e1 : dup2E S L n m = 7 := by unfold dup2E; rw [hx]; rfl
    have e2 : dup2S S L n m = S := if_neg (fun h => by rw [e1] at h; exact absurd h.1 (by decide))
    have e4 : dup2L S L n m = L := if_neg (fun h => by rw [e1] at h; exact absurd h.1 (by decide))
    rw [e1, e2, e4]
    have HG := hid (get_none hin ht hok hx)
    clear h hS hJ hin ht hok h2 h3 hx e1 e2 e4 hi
    go_enter Tryz.func122, Tryz.ntmps122
    go_wp2_with (go_at_call 222; refine HG.out.mono ?_; rintro e w' ⟨rfl, t⟩)
    go_ret
    exact ⟨rfl, HSame.out _ t⟩
  | some x =>
    obtain ⟨k, e⟩ := x
    obtain ⟨hn0, hn8, hnk, hnz, he⟩ := entL_slot hx
    have HG := hid (get_some hin ht hok hx)
    by_cases hm : m < 0 ∨ 8 ≤ m
    · have e1 : dup2E S L n m = 2 := by unfold dup2E; rw [hx]; exact if_pos hm
      have e2 : dup2S S L n m = S := if_neg (fun h => by rw [e1] at h; exact absurd h.1 (by decide))
      have e4 : dup2L S L n m = L := if_neg (fun h => by rw [e1] at h; exact absurd h.1 (by decide))
      rw [e1, e2, e4]
      clear h hS hJ hin ht hok h2 h3 hx e1 e2 e4 hi hn0 hn8 hnk hnz he
      rcases hm with hm | hm
      all_goals go_enter Tryz.func122, Tryz.ntmps122
      all_goals go_wp2_with (go_at_call 222; refine HG.out.mono ?_; rintro e w' ⟨rfl, t⟩)
      all_goals go_ret
      all_goals exact ⟨rfl, HSame.out _ t⟩
    · obtain ⟨hm0, hm8⟩ : 0 ≤ m ∧ m < 8 := by omega
      have e1 : dup2E S L n m = 0 := by unfold dup2E; rw [hx]; exact if_neg hm
      by_cases hnm : n = m
      · have e2 : dup2S S L n m = S := if_neg (fun h => h.2 hnm)
        have e4 : dup2L S L n m = L := if_neg (fun h => h.2 hnm)
        rw [e1, e2, e4]
        subst hnm
        clear h hS hJ hin ht hok h2 h3 hx e1 e2 e4 hi hnk hnz he hm
        go_enter Tryz.func122, Tryz.ntmps122
        go_wp2_with (go_at_call 222; refine HG.out.mono ?_; rintro e w' ⟨rfl, t⟩)
        go_ret
        exact ⟨rfl, HSame.out _ t⟩
      · have e2 : dup2S S L n m = closeS (bumpE S L n) L m := if_pos ⟨e1, hnm⟩
        have e4 : dup2L S L n m = tset (closeL (bumpE S L n) L m) m.toNat ((L n.toNat).1, false) := if_pos ⟨e1, hnm⟩
        rw [e1, e2, e4, bumpE_is hx]
        have hb := hJ.bound hS hl
        have hrf := hb k e he
        have hrw : IntKind.i64.wrap ((e.refs : Int) + 1) = (e.refs : Int) + 1 := IntWalk.i64_in _ (by omega)
        have HS2 := hid (hS.bump hb he)
        have HO2 := hid (hok.bump k { e with refs := e.refs + 1 })
        have HD := hid h
        have HI := hid hi
        have HE := hid he
        have HIn := hid hin
        have H2 := hid h2
        have H3 := hid h3
        have hpn := hJ.pos i _ hi n.toNat (by omega)
        have HPn := hid hpn
        have hnmb : (n == m) = false := by simpa using hnm
        have hnmt : n.toNat ≠ m.toNat := by omega
        have HCl := hid (closeL_other (putS S k { e with refs := e.refs + 1 }) L m hnmt)
        clear h hS hJ hin ht hok h2 h3 hx e1 e2 e4 hi he hm hb hnm hnk hnz hpn
        go_enter Tryz.func122, Tryz.ntmps122
        go_upto_region 10 with (first | (go_at_call 222; refine HG.out.mono ?_; rintro e w' ⟨rfl, t⟩; have HTt := hid t; clear t; have HIn1 := hid (HIn.out.turned HTt.out (fun _ _ => id)); have c5 := (HIn1.out.en _ _ HE.out).c5; have z5 := (HIn1.out.en _ _ HE.out).fz 5) | (go_at_call 124; refine (law_close ((HD.out.still HTt.out).putE HIn1.out H2.out H3.out HE.out ((HIn1.out.en _ _ HE.out).setRefs (z := (e.refs : Int) + 1) (c := e.refs + 1) (by omega)) (turn_own _ _ 5 _)) HS2.out HI.out HO2.out m).mono ?_; rintro e w2 ⟨rfl, hd⟩; have HD2 := hid hd; clear hd))
        clear c5 z5
        obtain ⟨L2', hL2⟩ : ∃ L2', closeL (putS S k { e with refs := e.refs + 1 }) L m = L2' := ⟨_, rfl⟩
        rw [hL2] at HD2 HCl
        have hi2 : (ts.set i (tab, L2'))[i]? = some (tab, L2') := by rw [List.getElem?_set_self (by have h5 := HI.out; rcases Nat.lt_or_ge i ts.length with h1 | h1; exact h1; rw [List.getElem?_eq_none h1] at h5; cases h5)]
        have ht2 := (HD2.out.tabs i _ hi2).1
        have a0 := ht2.ent n.toNat (by omega)
        have a1 := ht2.ent m.toNat (by omega)
        have a2 := ht2.mark m.toNat (by omega)
        have z1 := ht2.fz (m.toNat * 2)
        have z2 := ht2.fz (m.toNat * 2 + 1)
        simp only at a0 a1 a2
        rw [HCl.out] at a0
        have HT2 := hid ht2
        have HI2 := hid hi2
        have HL2 := hid hL2
        clear ht2 hi2 hL2
        go_region
        all_goals go_wp2_with fail
        all_goals go_ret
        all_goals (
          rw [HL2.out]
          have h5 := HD2.out.tabset HI2.out ((HT2.out.set (i := m.toNat) (by omega) (L n.toNat).1 false HPn.out).turned (S := fun _ => False) (Turn.refl _ _).drew id) ((turn_tab_own tab _ _ _ _ _).drew)
          rw [List.set_set] at h5
          exact ⟨rfl, h5⟩)
theorem joint_dup2 (h : Joint S ts) (hS : DOk S) (hl : ts.length ≤ 1000) {tab : Nat} (hi : ts[i]? = some (tab, L)) (hok : TOk S.T) (n m : Int) : DOk (dup2S S L n m) ∧ Joint (dup2S S L n m) (ts.set i (tab, dup2L S L n m)) := by
  unfold dup2S dup2L
  by_cases hc : dup2E S L n m = 0 ∧ n ≠ m
  · rw [if_pos hc, if_pos hc]
    cases hx : entL S L n with
    | none => have h1 := hc.1; unfold dup2E at h1; rw [hx] at h1; cases h1
    | some x =>
      obtain ⟨k, e⟩ := x
      obtain ⟨hn0, hn8, hnk, hnz, he⟩ := entL_slot hx
      obtain ⟨hm0, hm8⟩ : 0 ≤ m ∧ m < 8 := by
        have h1 := hc.1
        unfold dup2E at h1
        rw [hx] at h1
        have h1 : (if m < 0 ∨ 8 ≤ m then (2 : Int) else 0) = 0 := h1
        by_cases hm : m < 0 ∨ 8 ≤ m
        · rw [if_pos hm] at h1; cases h1
        · omega
      rw [bumpE_is hx]
      have hb := h.bound hS hl
      have hS2 := hS.bump hb he
      have hS3 := hS2.close L m
      refine ⟨hS3, ?_⟩
      have hk0 := (hS.keys k e he).1
      refine ⟨fun q hq => ?_, set_pos h hi (fun j hj => ?_)⟩
      · have h1 := cntT_set hi (L' := tset (closeL (putS S k { e with refs := e.refs + 1 }) L m) m.toNat ((L n.toNat).1, false)) q
        have h2 := h.cnt q hq
        have hu : hitX ((L n.toNat).1, false) q = if q = k then 1 else 0 := by
          unfold hitX
          by_cases hqk : q = k
          · rw [if_pos hqk, if_pos (by show (L n.toNat).1 = q + 1; omega)]
          · rw [if_neg hqk, if_neg (by show ¬ (L n.toNat).1 = q + 1; omega)]
        have hrk := refsOf_some he
        unfold closeS closeL at *
        cases hx2 : entL (putS S k { e with refs := e.refs + 1 }) L m with
        | none =>
          rw [hx2] at h1
          have h3 := cntL_set (L := L) (x := ((L n.toNat).1, false)) (k := q) (j := m.toNat) (by omega)
          have hz : (L m.toNat).1 = 0 := by
            rcases (h.there hi).bump k { e with refs := e.refs + 1 } m.toNat (by omega) with h4 | ⟨f, hf⟩
            · exact h4
            · rcases Decidable.em ((L m.toNat).1 = 0) with h4 | h4
              · exact h4
              · exfalso
                have h5 : slotL L m = some ((L m.toNat).1 - 1) := if_pos ⟨hm0, hm8, h4⟩
                unfold entL at hx2
                rw [h5] at hx2
                have hx2 : (mget (putS S k { e with refs := e.refs + 1 }).es ((L m.toNat).1 - 1)).map (fun e => ((L m.toNat).1 - 1, e)) = none := hx2
                rw [hf] at hx2
                cases hx2
          have h0 : hitX (L m.toNat) q = 0 := if_neg (by omega)
          have h1 : cntT q (ts.set i (tab, tset L m.toNat ((L n.toNat).1, false))) + cntL L q = cntT q ts + cntL (tset L m.toNat ((L n.toNat).1, false)) q := h1
          show cntT q (ts.set i (tab, tset L m.toNat ((L n.toNat).1, false))) = refsOf (putS S k { e with refs := e.refs + 1 }) q
          rw [refsOf_put]
          by_cases hqk : q = k
          · rw [if_pos hqk]
            rw [if_pos hqk] at hu
            rw [hqk] at h1 h2 h3 h0 hu ⊢
            show _ = e.refs + 1
            omega
          · rw [if_neg hqk]
            rw [if_neg hqk] at hu
            omega
        | some y =>
          obtain ⟨k2, e2⟩ := y
          obtain ⟨_, _, hmk, hmz, he2⟩ := entL_slot hx2
          rw [hx2] at h1
          have h3 := cntL_set (L := tset L m.toNat (0, false)) (x := ((L n.toNat).1, false)) (k := q) (j := m.toNat) (by omega)
          have h4 := cntL_set (L := L) (x := ((0 : Int), false)) (k := q) (j := m.toNat) (by omega)
          rw [tset_self, hit_zero hq] at h3
          rw [hit_zero hq] at h4
          have h1 : cntT q (ts.set i (tab, tset (tset L m.toNat (0, false)) m.toNat ((L n.toNat).1, false))) + cntL L q = cntT q ts + cntL (tset (tset L m.toNat (0, false)) m.toNat ((L n.toNat).1, false)) q := h1
          show cntT q (ts.set i (tab, tset (tset L m.toNat (0, false)) m.toNat ((L n.toNat).1, false))) = refsOf (if 1 < e2.refs then putS (putS S k { e with refs := e.refs + 1 }) k2 { e2 with refs := e2.refs - 1 } else goneS (delS (putS S k { e with refs := e.refs + 1 }) k2) e2) q
          have hr : refsOf (if 1 < e2.refs then putS (putS S k { e with refs := e.refs + 1 }) k2 { e2 with refs := e2.refs - 1 } else goneS (delS (putS S k { e with refs := e.refs + 1 }) k2) e2) q = if q = k2 then e2.refs - 1 else if q = k then e.refs + 1 else refsOf S q := by
            by_cases hb2 : 1 < e2.refs
            · rw [if_pos hb2, refsOf_put, refsOf_put]
            · rw [if_neg hb2, refsOf_es (gone_es _ _), refsOf_del, refsOf_put]
              by_cases hqk : q = k2
              · rw [if_pos hqk, if_pos hqk]; omega
              · rw [if_neg hqk, if_neg hqk]
          rw [hr]
          have hv : hitX (L m.toNat) q = if q = k2 then 1 else 0 := by
            unfold hitX
            by_cases hqk : q = k2
            · rw [if_pos hqk, if_pos (by omega)]
            · rw [if_neg hqk, if_neg (by omega)]
          have he2' : e2.refs = if k2 = k then e.refs + 1 else refsOf S k2 := by
            have h5 := refsOf_some he2
            rw [refsOf_put] at h5
            exact h5.symm
          by_cases hq2 : q = k2
          · rw [if_pos hq2]
            rw [if_pos hq2] at hv
            rw [← hq2] at he2'
            by_cases hqk : q = k
            · rw [if_pos hqk] at he2' hu
              rw [hqk] at h1 h2 h3 h4 hu hv ⊢
              omega
            · rw [if_neg hqk] at he2' hu
              omega
          · rw [if_neg hq2]
            rw [if_neg hq2] at hv
            by_cases hqk : q = k
            · rw [if_pos hqk]
              rw [if_pos hqk] at hu
              rw [hqk] at h1 h2 h3 h4 hu hv ⊢
              omega
            · rw [if_neg hqk]
              rw [if_neg hqk] at hu
              omega
      · have hp := fun j hj => h.pos i _ hi j hj
        refine pos_set (x := ((L n.toNat).1, false)) (fun j hj => ?_) (hp n.toNat (by omega)) m.toNat j hj
        unfold closeL
        cases entL (putS S k { e with refs := e.refs + 1 }) L m with
        | none => exact hp j hj
        | some y => exact pos_set hp (x := (0, false)) ⟨Int.le_refl _, by show (0 : Int) ≤ 40; decide⟩ m.toNat j hj
  · rw [if_neg hc, if_neg hc, set_same hi]
    exact ⟨hS, h⟩
end
end Go.Proofs.YtiohpmcedfbcgacGreatDoor
/- Package desc: Clear, Exec, Dup2. Conditions: each theorem's own premises. -/
namespace Go.Proofs.YtiohpmcedfbcgacGreatDoor
open Go.RowKit
set_option linter.unusedVariables false
/-! ### what FilesTo composes to -/
section
variable {w w' w1 w2 : World} {fb tb om b tab : Nat} {S S' S1 S2 : PS} {F : Nat → Prop} {e e' : PE} {k n : Int} {L L' L1 L2' : PTab} {ts : List (Nat × PTab)} {i : Nat} {W : Base}
def clearFrom (L0 : PTab) (all : Bool) : Nat → Nat → PS → PTab → PS × PTab
  | 0, _, S, L => (S, L)
  | f + 1, i, S, L => if 0 < (L0 i).1 ∧ (all = true ∨ (L0 i).2 = true) then clearFrom L0 all f (i + 1) (closeS S L i) (closeL S L i) else clearFrom L0 all f (i + 1) S L
def clearS (S : PS) (L : PTab) (all : Bool) : PS := (clearFrom L all 8 0 S L).1
def clearL (S : PS) (L : PTab) (all : Bool) : PTab := (clearFrom L all 8 0 S L).2
theorem DLawB.tok (h : DLawB W w fb tb S ts) : TOk S.T := by
  obtain ⟨F, ⟨om, B, P, Ft, C, h1, rfl⟩, h2, h3⟩ := h.files
  exact h1.tr.ok
theorem clear_go {L0 : PTab} {all : Bool} (f i : Nat) (h : 0 < (L0 i).1 ∧ (all = true ∨ (L0 i).2 = true)) : clearFrom L0 all (f + 1) i S L = clearFrom L0 all f (i + 1) (closeS S L i) (closeL S L i) := if_pos h
theorem clear_no {L0 : PTab} {all : Bool} (f i : Nat) (h : ¬ (0 < (L0 i).1 ∧ (all = true ∨ (L0 i).2 = true))) : clearFrom L0 all (f + 1) i S L = clearFrom L0 all f (i + 1) S L := if_neg h
theorem set_set {x y : Nat × PTab} (ts : List (Nat × PTab)) (i : Nat) : (ts.set i x).set i y = ts.set i y := List.set_set ..
theorem get_set {x y : Nat × PTab} (hi : ts[i]? = some x) : (ts.set i y)[i]? = some y := by
  rw [List.getElem?_set_self (by rcases Nat.lt_or_ge i ts.length with h1 | h1; exact h1; rw [List.getElem?_eq_none h1] at hi; cases hi)]
/-- The state within a Clear. -/
structure ClearIn (W : Base) (w : World) (fb tb tab : Nat) (ts : List (Nat × PTab)) (i : Nat) (S : PS) (L : PTab) : Prop where
  law : DLawB W w fb tb S (ts.set i (tab, L))
  ok : DOk S
  joint : Joint S (ts.set i (tab, L))
theorem ClearIn.still (h : ClearIn W w fb tb tab ts i S L) (t : Turn (fun _ => False) w w') : ClearIn W w' fb tb tab ts i S L := ⟨h.law.still t, h.ok, h.joint⟩
theorem ClearIn.close (h : ClearIn W w fb tb tab ts i S L) (hi : ts[i]? = some (tab, L')) (n : Int) :
    Calls Tryz.prog 124 #[.pointer (some ⟨fb, 0, none⟩), .pointer (some ⟨tab, 0, none⟩), .int .i64 n] w fun e w' => e = .returned (TErr (closeE S L n)) ∧ ClearIn W w' fb tb tab ts i (closeS S L n) (closeL S L n) := by
  have hi' := get_set (y := (tab, L)) hi
  refine (law_close h.law h.ok hi' (h.joint.there hi') n).mono ?_
  rintro e w' ⟨rfl, h1⟩
  have h2 := joint_close h.joint h.ok hi' n
  rw [set_set] at h1 h2
  exact ⟨rfl, h1, h.ok.close L n, h2⟩
set_option maxHeartbeats 2000000 in
set_option maxRecDepth 100000 in
theorem law_clear (h : DLawB W w fb tb S ts) (hS : DOk S) (hJ : Joint S ts) (hi : ts[i]? = some (tab, L)) :
    Calls Tryz.prog 47 #[.pointer (some ⟨fb, 0, none⟩), .pointer (some ⟨tab, 0, none⟩)] w fun e w' => e = .returned (.tuple #[]) ∧ DLawB W w' fb tb (clearS S L true) (ts.set i (tab, clearL S L true)) ∧ DOk (clearS S L true) ∧ Joint (clearS S L true) (ts.set i (tab, clearL S L true)) := by
  obtain ⟨R, hR⟩ : ∃ R, clearFrom L true 8 0 S L = R := ⟨_, rfl⟩
  have e1 : clearS S L true = R.1 := by unfold clearS; rw [hR]
  have e2 : clearL S L true = R.2 := by unfold clearL; rw [hR]
  rw [e1, e2]
  have HR := hid hR
  have HD := hid h
  have HS := hid hS
  have HJ := hid hJ
  have HI := hid hi
  have ht := (h.tabs i _ hi).1
  have e0 := ht.ent 0 (by omega)
  have e1 := ht.ent 1 (by omega)
  have e2 := ht.ent 2 (by omega)
  have e3 := ht.ent 3 (by omega)
  have e4 := ht.ent 4 (by omega)
  have e5 := ht.ent 5 (by omega)
  have e6 := ht.ent 6 (by omega)
  have e7 := ht.ent 7 (by omega)
  have m0 := ht.mark 0 (by omega)
  have m1 := ht.mark 1 (by omega)
  have m2 := ht.mark 2 (by omega)
  have m3 := ht.mark 3 (by omega)
  have m4 := ht.mark 4 (by omega)
  have m5 := ht.mark 5 (by omega)
  have m6 := ht.mark 6 (by omega)
  have m7 := ht.mark 7 (by omega)
  simp only [Nat.zero_mul, Nat.reduceMul, Nat.reduceAdd, Nat.zero_add] at e0 e1 e2 e3 e4 e5 e6 e7 m0 m1 m2 m3 m4 m5 m6 m7
  clear h hS hJ hi ht hR
  go_enter Tryz.func47, Tryz.ntmps47
  go_wp2_with fail
  clear e0 e1 e2 e3 e4 e5 e6 e7 m0 m1 m2 m3 m4 m5 m6 m7
  have H0 : Hid (ClearIn W w fb tb tab ts i S L) := hid ⟨by rw [set_same HI.out]; exact HD.out, HS.out, by rw [set_same HI.out]; exact HJ.out⟩
  clear HD HS HJ
  go_loopg [10] 8 (fun gl iv wr => ∃ (k : Nat) (Si : PS) (Li : PTab), k + gl = 8 ∧ iv = .int .i64 k ∧ Hid (clearFrom L true gl k Si Li = R) ∧ Hid (ClearIn W wr fb tb tab ts i Si Li))
  case atStart => exact ⟨0, S, L, by omega, rfl, HR, H0⟩
  case round =>
    obtain ⟨k, Si, Li, hk, rfl, hF, hC⟩ := hrel
    clear HR H0
    by_cases hk8 : k < 8
    · have hk' : (k : Int) < 8 := by omega
      obtain ⟨g, rfl⟩ : ∃ g, gk = g + 1 := ⟨7 - k, by omega⟩
      have ix := idx_any L k hk8 wr
      have HA : Hid (Turn (fun _ => False) wr (wr.alloc (.cells #[.int .i64 (L k).1, .bool (L k).2] 76))) := hid ((Turn.refl _ _).alloc _)
      have HC2 := hid (hC.out.still HA.out)
      clear hC
      by_cases hz : 0 < (L k).1
      · have HF := hid ((clear_go g k ⟨hz, .inl rfl⟩).symm.trans hF.out)
        clear hF
        go_wp2_with (go_at_call 124; refine (HC2.out.close HI.out k).mono ?_; rintro e w2 ⟨rfl, h2⟩; have HC3 := hid h2; clear h2)
        go_roundg g
        case measure => omega
        case rel => exact ⟨k + 1, _, _, by omega, by go_num, HF, HC3⟩
      · have HF := hid ((clear_no (all := true) g k (fun h => hz h.1)).symm.trans hF.out)
        clear hF
        go_wp2_with fail
        go_roundg g
        case measure => omega
        case rel => exact ⟨k + 1, _, _, by omega, by go_num, HF, HC2⟩
    · have hk' : ¬ (k : Int) < 8 := by omega
      obtain rfl : k = 8 := by omega
      obtain rfl : gk = 0 := by omega
      have HF : Hid ((Si, Li) = R) := hF
      clear hF
      go_wp2_with fail
      go_returns
      rw [← HF.out]
      exact ⟨rfl, hC.out.law, hC.out.ok, hC.out.joint⟩
end
end Go.Proofs.YtiohpmcedfbcgacGreatDoor
