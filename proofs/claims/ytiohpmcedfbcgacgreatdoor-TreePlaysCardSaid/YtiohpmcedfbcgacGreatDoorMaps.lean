/- Maps in memory, as association lists: what look-up, store, delete, len and a fresh map do. No program in sight. Conditions: each theorem's own premises. -/
import Derived.Test.YtiohpmcedfbcgacGreatDoorBase
import Derived.MapKept
import Derived.Maps.OwnSet
import Derived.Maps.RangeWalk
namespace Go.Proofs.YtiohpmcedfbcgacGreatDoor
open Go.RowKit Go.MapKept
set_option linter.unusedVariables false
set_option linter.unusedSectionVars false

section plain
variable {κ β : Type} [DecidableEq κ]
def mget (m : List (κ × β)) (k : κ) : Option β := (m.find? (fun p => decide (p.1 = k))).map (·.2)
def mupd (m : List (κ × β)) (k : κ) (v : β) : List (κ × β) := m.map fun p => if p.1 = k then (p.1, v) else p
def mput (m : List (κ × β)) (k : κ) (v : β) : List (κ × β) := if (mget m k).isSome then mupd m k v else m ++ [(k, v)]
def mdel (m : List (κ × β)) (k : κ) : List (κ × β) := m.filter fun p => decide (p.1 ≠ k)
def MNodup (m : List (κ × β)) : Prop := (m.map Prod.fst).Nodup

theorem mget_none {m : List (κ × β)} {k : κ} (h : ∀ p ∈ m, p.1 ≠ k) : mget m k = none := by
  unfold mget
  rw [List.find?_eq_none.2 (by simpa using h)]; rfl
theorem mget_none_iff {m : List (κ × β)} {k : κ} : mget m k = none ↔ ∀ p ∈ m, p.1 ≠ k := by
  constructor
  · intro h p hp e
    unfold mget at h
    rw [Option.map_eq_none_iff, List.find?_eq_none] at h
    exact h p hp (by simpa using e)
  · exact mget_none
theorem mget_mem {m : List (κ × β)} (hn : MNodup m) {k : κ} {v : β} (h : (k, v) ∈ m) : mget m k = some v := by
  induction m with
  | nil => cases h
  | cons p m ih =>
    simp only [MNodup, List.map_cons, List.nodup_cons] at hn
    unfold mget
    rw [List.find?_cons]
    by_cases e : p.1 = k
    · simp only [e, decide_true, Option.map_some, Option.some.injEq]
      rcases List.mem_cons.1 h with h1 | h1
      · rw [← h1]
      · exact absurd (List.mem_map.2 ⟨(k, v), h1, rfl⟩) (by rw [← e]; exact hn.1)
    · simp only [e, decide_false]
      rcases List.mem_cons.1 h with h1 | h1
      · exact absurd (by rw [← h1]) e
      · exact ih hn.2 h1
theorem mem_of_mget {m : List (κ × β)} {k : κ} {v : β} (h : mget m k = some v) : (k, v) ∈ m := by
  unfold mget at h
  rw [Option.map_eq_some_iff] at h
  obtain ⟨p, hp, rfl⟩ := h
  have h1 := List.mem_of_find?_eq_some hp
  have h2 := List.find?_some hp
  simp only [decide_eq_true_eq] at h2
  rw [← h2]; exact h1
theorem mupd_keys (m : List (κ × β)) (k : κ) (v : β) : (mupd m k v).map Prod.fst = m.map Prod.fst := by
  unfold mupd
  rw [List.map_map]
  apply List.map_congr_left
  intro p _
  simp only [Function.comp]
  split <;> rfl
theorem mget_mupd (m : List (κ × β)) (k j : κ) (v : β) : mget (mupd m k v) j = if j = k then (mget m k).map (fun _ => v) else mget m j := by
  unfold mget mupd
  induction m with
  | nil => simp
  | cons p m ih =>
    rw [List.map_cons, List.find?_cons, List.find?_cons, List.find?_cons]
    by_cases e : p.1 = k
    · by_cases ej : j = k
      · subst ej; simp [e]
      · have : ¬ p.1 = j := fun e2 => ej (e2.symm.trans e)
        rw [if_neg ej] at ih ⊢
        rw [if_pos e]
        simp only [this, decide_false]
        exact ih
    · rw [if_neg e]
      by_cases ej : j = k
      · subst ej
        rw [if_pos rfl] at ih ⊢
        simp only [e, decide_false]
        exact ih
      · rw [if_neg ej] at ih ⊢
        by_cases e3 : p.1 = j
        · simp [e3]
        · simp only [e3, decide_false]; exact ih
theorem mget_mput (m : List (κ × β)) (k j : κ) (v : β) : mget (mput m k v) j = if j = k then some v else mget m j := by
  unfold mput
  split
  · rename_i h
    rw [mget_mupd]
    obtain ⟨u, hu⟩ := Option.isSome_iff_exists.1 h
    rw [hu]; rfl
  · rename_i h
    have hno : mget m k = none := by simpa using h
    unfold mget at hno ⊢
    rw [List.find?_append]
    by_cases ej : j = k
    · subst ej
      rw [Option.map_eq_none_iff] at hno
      rw [hno]; simp
    · rw [if_neg ej]
      have : List.find? (fun p => decide (p.1 = j)) [(k, v)] = none := by simp [Ne.symm ej]
      rw [this]; simp
theorem mput_nodup {m : List (κ × β)} (hn : MNodup m) (k : κ) (v : β) : MNodup (mput m k v) := by
  unfold mput
  split
  · unfold MNodup; rw [mupd_keys]; exact hn
  · rename_i h
    have hno : mget m k = none := by simpa using h
    unfold MNodup at hn ⊢
    rw [List.map_append, List.nodup_append]
    refine ⟨hn, by simp, ?_⟩
    intro a ha c hc
    simp only [List.map_cons, List.map_nil, List.mem_singleton] at hc
    subst hc
    obtain ⟨p, hp, rfl⟩ := List.mem_map.1 ha
    exact mget_none_iff.1 hno p hp
theorem mput_length (m : List (κ × β)) (k : κ) (v : β) : (mput m k v).length = if (mget m k).isSome then m.length else m.length + 1 := by
  unfold mput mupd; split <;> simp
theorem mget_mdel (m : List (κ × β)) (k j : κ) : mget (mdel m k) j = if j = k then none else mget m j := by
  unfold mget mdel
  rw [List.find?_filter]
  by_cases ej : j = k
  · subst ej
    rw [if_pos rfl, Option.map_eq_none_iff, List.find?_eq_none]
    intro p _; simp
  · rw [if_neg ej]
    congr 1
    congr 1
    funext p
    by_cases e : p.1 = j
    · simp [e, ej]
    · simp [e]
theorem mdel_nodup {m : List (κ × β)} (hn : MNodup m) (k : κ) : MNodup (mdel m k) := by
  unfold MNodup at hn ⊢
  exact ((List.filter_sublist (p := fun p : κ × β => decide (p.1 ≠ k)) (l := m)).map Prod.fst).nodup hn
theorem mdel_none {m : List (κ × β)} {k : κ} (h : mget m k = none) : mdel m k = m := by
  unfold mdel
  rw [List.filter_eq_self]
  intro p hp
  simpa using mget_none_iff.1 h p hp
theorem mdel_length {m : List (κ × β)} (hn : MNodup m) {k : κ} {v : β} (h : mget m k = some v) : (mdel m k).length + 1 = m.length := by
  induction m with
  | nil => simp [mget] at h
  | cons p m ih =>
    simp only [MNodup, List.map_cons, List.nodup_cons] at hn
    unfold mdel
    rw [List.filter_cons]
    by_cases e : p.1 = k
    · have hno : mdel m k = m := mdel_none (mget_none (fun q hq e2 => hn.1 (List.mem_map.2 ⟨q, hq, e2.trans e.symm⟩)))
      unfold mdel at hno
      simp only [e, ne_eq, not_true_eq_false, decide_false, Bool.false_eq_true, if_false, hno, List.length_cons]
    · have hg : mget m k = some v := by
        unfold mget at h ⊢
        rw [List.find?_cons] at h
        simpa [e] using h
      have := ih hn.2 hg
      unfold mdel at this
      simp only [ne_eq] at this
      simp only [e, ne_eq, not_false_eq_true, decide_true, if_true, List.length_cons]
      omega
theorem mdel_eraseIdx {m : List (κ × β)} (hn : MNodup m) {k : κ} {v : β} {j : Nat} (h : m[j]? = some (k, v)) : mdel m k = m.eraseIdx j := by
  induction m generalizing j with
  | nil => simp at h
  | cons p m ih =>
    simp only [MNodup, List.map_cons, List.nodup_cons] at hn
    cases j with
    | zero =>
      simp only [List.getElem?_cons_zero, Option.some.injEq] at h
      subst h
      rw [List.eraseIdx_cons_zero]
      have : mdel m k = m := mdel_none (mget_none (fun q hq e2 => hn.1 (List.mem_map.2 ⟨q, hq, e2⟩)))
      unfold mdel at this ⊢
      rw [List.filter_cons, if_neg (by simp)]
      exact this
    | succ j =>
      simp only [List.getElem?_cons_succ] at h
      have hpk : p.1 ≠ k := fun e2 => hn.1 (List.mem_map.2 ⟨(k, v), List.mem_of_getElem? h, e2.symm⟩)
      rw [List.eraseIdx_cons_succ]
      have := ih hn.2 h
      unfold mdel at this ⊢
      rw [List.filter_cons, if_pos (by simpa using hpk), this]
theorem map_eraseIdx' {α γ : Type} (f : α → γ) : ∀ (l : List α) (j : Nat), (l.eraseIdx j).map f = (l.map f).eraseIdx j
  | [], j => by cases j <;> rfl
  | a :: l, 0 => by simp
  | a :: l, j + 1 => by simp [map_eraseIdx' f l j]
theorem nodup_idx {m : List (κ × β)} (hn : MNodup m) : ∀ {i j : Nat} {p q : κ × β}, m[i]? = some p → m[j]? = some q → p.1 = q.1 → i = j := by
  induction m with
  | nil => intro i j p q h; simp at h
  | cons a m ih =>
    simp only [MNodup, List.map_cons, List.nodup_cons] at hn
    intro i j p q hi hj e
    cases i with
    | zero =>
      cases j with
      | zero => rfl
      | succ j =>
        simp only [List.getElem?_cons_zero, Option.some.injEq] at hi
        simp only [List.getElem?_cons_succ] at hj
        subst hi
        exact absurd (List.mem_map.2 ⟨q, List.mem_of_getElem? hj, e.symm⟩) hn.1
    | succ i =>
      cases j with
      | zero =>
        simp only [List.getElem?_cons_zero, Option.some.injEq] at hj
        simp only [List.getElem?_cons_succ] at hi
        subst hj
        exact absurd (List.mem_map.2 ⟨p, List.mem_of_getElem? hi, e⟩) hn.1
      | succ j =>
        simp only [List.getElem?_cons_succ] at hi hj
        rw [ih hn.2 hi hj e]
end plain

/-- How keys of a type lie in memory. -/
structure KeyEnc {κ : Type} (d : TypeDesc) (enc : κ → Value) : Prop where
  key : ∀ k, IsKey d (enc k)
  inj : ∀ a b, enc a = enc b → a = b

def encI (n : Int) : Value := .int .i64 n
def encS (s : ByteArray) : Value := .string s
theorem keyI : KeyEnc (.int .i64) encI := ⟨fun _ => by simp [IsKey, encI], fun a b h => by simp only [encI, Value.int.injEq, true_and] at h; exact h⟩
theorem keyS : KeyEnc .string encS := ⟨fun _ => by simp [IsKey, encS], fun a b h => by simp only [encS, Value.string.injEq] at h; exact h⟩

section
variable {κ β : Type} [DecidableEq κ] {d : TypeDesc} {enc : κ → Value} {val : β → Value} {w : World} {b : Nat} {m : List (κ × β)} {P : Program}

/-- Block b is a map that reads as the list m. -/
structure MapIs (w : World) (b : Nat) (d : TypeDesc) (enc : κ → Value) (val : β → Value) (m : List (κ × β)) : Prop where
  obj : ∃ es clock, w.heap[b]? = some (.map es clock) ∧ Stamped es clock ∧ es.toList.map (fun e => (e.key, e.val)) = m.map (fun p => (enc p.1, val p.2))
  nodup : MNodup m

theorem MapIs.lt (h : MapIs w b d enc val m) : b < w.heap.size := by
  obtain ⟨es, clock, hb, _⟩ := h.obj
  exact (Array.getElem?_eq_some_iff.1 hb).1
theorem MapIs.turned {S : Nat → Prop} {w' : World} (h : MapIs w b d enc val m) (t : Turn S w w') (hn : ¬ S b) : MapIs w' b d enc val m := by
  obtain ⟨es, clock, hb, r⟩ := h.obj
  exact ⟨⟨es, clock, (t.block b h.lt hn).trans hb, r⟩, h.nodup⟩
theorem MapIs.of_heap {w' : World} (h : MapIs w b d enc val m) (e : w'.heap[b]? = w.heap[b]?) : MapIs w' b d enc val m := by
  obtain ⟨es, clock, hb, r⟩ := h.obj
  exact ⟨⟨es, clock, e.trans hb, r⟩, h.nodup⟩
theorem MapIs.made (w : World) : MapIs (w.alloc (.map #[] 0)) w.heap.size d enc val ([] : List (κ × β)) :=
  ⟨⟨#[], 0, (heap_alloc w _).1, stamped_empty 0, rfl⟩, List.nodup_nil⟩

theorem isKey_all (K : KeyEnc d enc) {es : Array MapEntry} (hm : es.toList.map (fun e => (e.key, e.val)) = m.map (fun p => (enc p.1, val p.2))) : ∀ x ∈ es.toList, IsKey d x.key := by
  intro x hx
  have : (x.key, x.val) ∈ m.map (fun p => (enc p.1, val p.2)) := by rw [← hm]; exact List.mem_map.2 ⟨x, hx, rfl⟩
  obtain ⟨p, _, hp⟩ := List.mem_map.1 this
  simp only [Prod.mk.injEq] at hp
  rw [← hp.1]; exact K.key _

/-- What the search for a key comes to. -/
theorem find_cases (K : KeyEnc d enc) {es : Array MapEntry} (hm : es.toList.map (fun e => (e.key, e.val)) = m.map (fun p => (enc p.1, val p.2))) (hn : MNodup m) (k : κ) :
    (Instr.findNow d (enc k) es.toList 0 = some none ∧ mget m k = none) ∨
    ∃ j e v, Instr.findNow d (enc k) es.toList 0 = some (some (j, e.val)) ∧ es[j]? = some e ∧ e.key = enc k ∧ m[j]? = some (k, v) ∧ e.val = val v ∧ mget m k = some v := by
  rcases findNow_spec (K.key k) es.toList 0 (isKey_all K hm) with ⟨h1, h2⟩ | ⟨j, e, h1, h2, h3⟩
  · left
    refine ⟨h1, mget_none fun p hp e => ?_⟩
    have : (enc p.1, val p.2) ∈ es.toList.map (fun e => (e.key, e.val)) := by rw [hm]; exact List.mem_map.2 ⟨p, hp, rfl⟩
    obtain ⟨x, hx, hxe⟩ := List.mem_map.1 this
    simp only [Prod.mk.injEq] at hxe
    exact h2 x hx (by rw [hxe.1, e])
  · right
    rw [Nat.zero_add] at h1
    have hj := congrArg (fun l => l[j]?) hm
    simp only [List.getElem?_map, h2, Option.map_some] at hj
    cases hmj : m[j]? with
    | none => simp [hmj] at hj
    | some p =>
      simp only [hmj, Option.map_some, Option.some.injEq, Prod.mk.injEq] at hj
      have hk : p.1 = k := K.inj _ _ (hj.1.symm.trans h3)
      have hmj' : m[j]? = some (k, p.2) := by rw [hmj, ← hk]
      exact ⟨j, e, p.2, h1, by simpa using h2, h3, hmj', hj.2, mget_mem hn (List.mem_of_getElem? hmj')⟩

/-- A look-up. -/
theorem MapIs.run_lookup (h : MapIs w b d enc val m) (K : KeyEnc d enc) {T kt et : TypeId} (hT : P.underlying T = some (.map kt et)) (hd : P.underlying kt = some d) {z : Value} (hz : (zeroValue et).run P w = .ok z w) (k : κ) (c : Bool) :
    (Instr.lookup T (.map (some b)) (enc k) c).run P w = .ok (if c then .tuple #[(mget m k).elim z val, .bool (mget m k).isSome] else (mget m k).elim z val) w := by
  obtain ⟨es, clock, hb, hs, hm⟩ := h.obj
  rcases find_cases K hm h.nodup k with ⟨h1, h2⟩ | ⟨j, e, v, h1, _, _, _, h5, h6⟩
  · rw [h2]
    simp [Instr.lookup, run_underlying hT, MapKept.run_getObj_map hb, MapKept.run_checkKey hd (K.key k), MapKept.run_findKey hd h1, hz, Result.andThen]
  · rw [h6]
    simp [Instr.lookup, run_underlying hT, MapKept.run_getObj_map hb, MapKept.run_checkKey hd (K.key k), MapKept.run_findKey hd h1, h5, Result.andThen]

/-- A look-up in nil. -/
theorem run_lookup_nil (K : KeyEnc d enc) {T kt et : TypeId} (hT : P.underlying T = some (.map kt et)) (hd : P.underlying kt = some d) {z : Value} (hz : (zeroValue et).run P w = .ok z w) (k : κ) (c : Bool) :
    (Instr.lookup T (.map none) (enc k) c).run P w = .ok (if c then .tuple #[z, .bool false] else z) w := by
  have h1 : Instr.findNow d (enc k) [] 0 = some none := rfl
  simp [Instr.lookup, run_underlying hT, MapKept.run_checkKey hd (K.key k), MapKept.run_findKey hd h1, hz, Result.andThen]

theorem turn_setHeap (w : World) (b : Nat) (o : Obj) : Turn (fun k => k = b) w { w with heap := w.heap.setIfInBounds b o } :=
  ⟨rfl, rfl, rfl, by simp, fun k hk hn => by simp [Ne.symm hn]⟩

/-- A store. -/
theorem MapIs.run_update (h : MapIs w b d enc val m) (K : KeyEnc d enc) {T kt et : TypeId} (hT : P.underlying T = some (.map kt et)) (hd : P.underlying kt = some d) (k : κ) (v : β) :
    ∃ w', (Instr.mapUpdate T (.map (some b)) (enc k) (val v)).run P w = .ok () w' ∧ MapIs w' b d enc val (mput m k v) ∧ Turn (fun k => k = b) w w' := by
  obtain ⟨es, clock, hb, hs, hm⟩ := h.obj
  rcases find_cases K hm h.nodup k with ⟨h1, h2⟩ | ⟨j, e, v0, h1, he, h3, h4, h5, h6⟩
  · refine ⟨_, by simp [Instr.mapUpdate, run_underlying hT, MapKept.run_getObj_map hb, MapKept.run_checkKey hd (K.key k), MapKept.run_findKey hd h1, MapKept.run_setObj_map _ hb, Result.andThen]; rfl, ⟨⟨_, _, (heap_set hb).1, ?_, ?_⟩, mput_nodup h.nodup k v⟩, turn_setHeap _ _ _⟩
    · refine stamped_push hs ?_
      intro x hx e
      have : (x.key, x.val) ∈ m.map (fun p => (enc p.1, val p.2)) := by rw [← hm]; exact List.mem_map.2 ⟨x, hx, rfl⟩
      obtain ⟨p, hp, hpe⟩ := List.mem_map.1 this
      simp only [Prod.mk.injEq] at hpe
      exact mget_none_iff.1 h2 p hp (K.inj _ _ (hpe.1.trans e))
    · unfold mput
      rw [h2]
      simp [hm]
  · have hkey : ∀ e', es[j]? = some e' → ({ e' with key := enc k, val := val v } : MapEntry).key = e'.key := fun e' he' => by rw [he] at he'; cases he'; exact h3.symm
    refine ⟨{ w with heap := w.heap.setIfInBounds b (.map (es.modify j fun e => { e with key := enc k, val := val v }) clock) }, by simp [Instr.mapUpdate, run_underlying hT, MapKept.run_getObj_map hb, MapKept.run_checkKey hd (K.key k), MapKept.run_findKey hd h1, he, h3, MapKept.run_keyThatStays (K.key k), MapKept.run_setObj_map _ hb, Result.andThen], ⟨⟨_, _, (heap_set hb).1, stamped_modify hs _ _ (fun _ _ => rfl) (fun e' _ he' => hkey e' he'), ?_⟩, mput_nodup h.nodup k v⟩, turn_setHeap _ _ _⟩
    unfold mput
    rw [h6]
    simp only [Option.isSome_some, if_true]
    unfold mupd
    apply List.ext_getElem?
    intro i
    have hi := congrArg (fun l => l[i]?) hm
    simp only [List.getElem?_map, Array.toList_modify, List.getElem?_modify] at hi ⊢
    by_cases hij : j = i
    · subst hij
      have he' : es.toList[j]? = some e := by simpa using he
      simp only [he', h4, Option.map_some, if_true]
      rfl
    · simp only [if_neg hij]
      rw [show (fun a : MapEntry => a) <$> es.toList[i]? = es.toList[i]? from by cases es.toList[i]? <;> rfl, hi]
      cases hmi : m[i]? with
      | none => rfl
      | some p =>
        simp only [Option.map_some]
        have : p.1 ≠ k := by
          intro e2
          exact hij (nodup_idx h.nodup h4 hmi e2.symm)
        rw [if_neg this]

/-- A delete. -/
theorem MapIs.run_delete (h : MapIs w b d enc val m) (K : KeyEnc d enc) {T kt et ty : TypeId} (hT : P.underlying T = some (.map kt et)) (hd : P.underlying kt = some d) (k : κ) :
    ∃ w', (Builtin.delete_ #[T, kt] ty #[.map (some b), enc k]).run P w = .ok (.tuple #[]) w' ∧ MapIs w' b d enc val (mdel m k) ∧ Turn (fun k => k = b) w w' := by
  obtain ⟨es, clock, hb, hs, hm⟩ := h.obj
  rcases find_cases K hm h.nodup k with ⟨h1, h2⟩ | ⟨j, e, v0, h1, he, h3, h4, h5, h6⟩
  · refine ⟨_, by simp [Builtin.delete_, run_underlying hT, MapKept.run_getObj_map hb, MapKept.run_checkKey hd (K.key k), MapKept.run_findKey hd h1, MapKept.run_setObj_map _ hb, Result.andThen]; rfl, ⟨⟨_, _, ?_, hs, ?_⟩, mdel_nodup h.nodup k⟩, ?_⟩
    · exact (heap_set hb).1
    · rw [mdel_none h2]; exact hm
    · exact turn_setHeap _ _ _
  · refine ⟨_, by simp [Builtin.delete_, run_underlying hT, MapKept.run_getObj_map hb, MapKept.run_checkKey hd (K.key k), MapKept.run_findKey hd h1, MapKept.run_setObj_map _ hb, Result.andThen]; rfl, ⟨⟨_, _, (heap_set hb).1, stamped_erase hs _, ?_⟩, mdel_nodup h.nodup k⟩, turn_setHeap _ _ _⟩
    have hj : j < es.size := (Array.getElem?_eq_some_iff.1 he).1
    have e1 : (es.eraseIdxIfInBounds j).toList = es.toList.eraseIdx j := by
      unfold Array.eraseIdxIfInBounds
      rw [dif_pos hj]; simp
    rw [e1, mdel_eraseIdx h.nodup h4, map_eraseIdx', map_eraseIdx', hm]

theorem MapIs.run_len (h : MapIs w b d enc val m) {T kt et : TypeId} (hT : P.underlying T = some (.map kt et)) (ty : TypeId) :
    (Builtin.len_ #[T] ty #[.map (some b)]).run P w = .ok (.int .i64 m.length) w := by
  obtain ⟨es, clock, hb, hs, hm⟩ := h.obj
  have hl : es.size = m.length := by
    have := congrArg List.length hm
    simpa using this
  simp [Builtin.len_, run_underlying hT, MapKept.run_getObj_map hb, Result.andThen, hl, goInt]

section laws
variable {ops : Array Oper} {rest : List Oper} {o : Oper} {a : Act} {Q : Exit → Act → World → Prop}

theorem wpList_look_hit (hg : o.guard = none) (mo x : Operand) (T kt et : TypeId) (hop : o.op = .lookup T mo x false) (hT : P.underlying T = some (.map kt et)) (hd : P.underlying kt = some d) (K : KeyEnc d enc)
    (z : Value) (hz : ∀ w, (zeroValue et).run P w = .ok z w) (b : Nat) (hm : a.eval mo = .map (some b)) (h : MapIs w b d enc val m) (k : κ) (hx : a.eval x = enc k) (v : β) (hv : mget m k = some v)
    (hK : wpList P ops Q rest (a.put o.dst (val v)) w) : wpList P ops Q (o :: rest) a w := by
  refine wpList_plain hg fun K' hK' => ?_
  have hrun := h.run_lookup K hT hd (hz w) k false
  rw [hv] at hrun
  unfold Oper.wp
  simp [execOp, hop, hm, hx, hrun, Result.andThen]
  exact hK' _ _ hK
theorem wpList_look_miss (hg : o.guard = none) (mo x : Operand) (T kt et : TypeId) (hop : o.op = .lookup T mo x false) (hT : P.underlying T = some (.map kt et)) (hd : P.underlying kt = some d) (K : KeyEnc d enc)
    (z : Value) (hz : ∀ w, (zeroValue et).run P w = .ok z w) (b : Nat) (hm : a.eval mo = .map (some b)) (h : MapIs w b d enc val m) (k : κ) (hx : a.eval x = enc k) (hv : mget m k = none)
    (hK : wpList P ops Q rest (a.put o.dst z) w) : wpList P ops Q (o :: rest) a w := by
  refine wpList_plain hg fun K' hK' => ?_
  have hrun := h.run_lookup K hT hd (hz w) k false
  rw [hv] at hrun
  unfold Oper.wp
  simp [execOp, hop, hm, hx, hrun, Result.andThen]
  exact hK' _ _ hK
theorem wpList_lookok_hit (hg : o.guard = none) (mo x : Operand) (T kt et : TypeId) (hop : o.op = .lookup T mo x true) (hT : P.underlying T = some (.map kt et)) (hd : P.underlying kt = some d) (K : KeyEnc d enc)
    (z : Value) (hz : ∀ w, (zeroValue et).run P w = .ok z w) (b : Nat) (hm : a.eval mo = .map (some b)) (h : MapIs w b d enc val m) (k : κ) (hx : a.eval x = enc k) (v : β) (hv : mget m k = some v)
    (hK : wpList P ops Q rest (a.put o.dst (.tuple #[val v, .bool true])) w) : wpList P ops Q (o :: rest) a w := by
  refine wpList_plain hg fun K' hK' => ?_
  have hrun := h.run_lookup K hT hd (hz w) k true
  rw [hv] at hrun
  unfold Oper.wp
  simp [execOp, hop, hm, hx, hrun, Result.andThen]
  exact hK' _ _ hK
theorem wpList_lookok_miss (hg : o.guard = none) (mo x : Operand) (T kt et : TypeId) (hop : o.op = .lookup T mo x true) (hT : P.underlying T = some (.map kt et)) (hd : P.underlying kt = some d) (K : KeyEnc d enc)
    (z : Value) (hz : ∀ w, (zeroValue et).run P w = .ok z w) (b : Nat) (hm : a.eval mo = .map (some b)) (h : MapIs w b d enc val m) (k : κ) (hx : a.eval x = enc k) (hv : mget m k = none)
    (hK : wpList P ops Q rest (a.put o.dst (.tuple #[z, .bool false])) w) : wpList P ops Q (o :: rest) a w := by
  refine wpList_plain hg fun K' hK' => ?_
  have hrun := h.run_lookup K hT hd (hz w) k true
  rw [hv] at hrun
  unfold Oper.wp
  simp [execOp, hop, hm, hx, hrun, Result.andThen]
  exact hK' _ _ hK
theorem wpList_mapput (hg : o.guard = none) (mo x vo : Operand) (T kt et : TypeId) (hop : o.op = .mapUpdate T mo x vo) (hT : P.underlying T = some (.map kt et)) (hd : P.underlying kt = some d) (K : KeyEnc d enc)
    (b : Nat) (hm : a.eval mo = .map (some b)) (h : MapIs w b d enc val m) (k : κ) (hx : a.eval x = enc k) (v : β) (hv : a.eval vo = val v)
    (hK : ∀ w', MapIs w' b d enc val (mput m k v) → Turn (fun j => j = b) w w' → wpList P ops Q rest (a.put o.dst undef) w') : wpList P ops Q (o :: rest) a w := by
  refine wpList_plain hg fun K' hK' => ?_
  obtain ⟨w', hrun, r1, r2⟩ := h.run_update K hT hd k v
  unfold Oper.wp
  simp [execOp, hop, hm, hx, hv, hrun, Result.andThen]
  exact hK' _ _ (hK w' r1 r2)
theorem wpList_mapdel (hg : o.guard = none) (mo x : Operand) (T kt et : TypeId) (hop : o.op = Op.call { callee := Callee.builtin Builtin.delete, args := #[mo, x], argTypes := #[T, kt] }) (hT : P.underlying T = some (.map kt et)) (hd : P.underlying kt = some d) (K : KeyEnc d enc)
    (b : Nat) (hm : a.eval mo = .map (some b)) (h : MapIs w b d enc val m) (k : κ) (hx : a.eval x = enc k)
    (hK : ∀ w', MapIs w' b d enc val (mdel m k) → Turn (fun j => j = b) w w' → wpList P ops Q rest (a.put o.dst (.tuple #[])) w') : wpList P ops Q (o :: rest) a w := by
  refine wpList_plain hg fun K' hK' => ?_
  obtain ⟨w', hrun, r1, r2⟩ := h.run_delete (ty := o.type) K hT hd k
  unfold Oper.wp
  simp [execOp, hop, resolve, invoke, builtin, hm, hx, hrun, Result.andThen]
  exact hK' _ _ (hK w' r1 r2)
theorem wpList_maplen (hg : o.guard = none) (mo : Operand) (T kt et : TypeId) (hop : o.op = Op.call { callee := Callee.builtin Builtin.len, args := #[mo], argTypes := #[T] }) (hT : P.underlying T = some (.map kt et))
    (b : Nat) (hm : a.eval mo = .map (some b)) (h : MapIs w b d enc val m)
    (hK : wpList P ops Q rest (a.put o.dst (.int .i64 m.length)) w) : wpList P ops Q (o :: rest) a w := by
  refine wpList_plain hg fun K' hK' => ?_
  unfold Oper.wp
  simp [execOp, hop, resolve, invoke, builtin, hm, h.run_len hT o.type, Result.andThen]
  exact hK' _ _ hK
end laws
end
end Go.Proofs.YtiohpmcedfbcgacGreatDoor
