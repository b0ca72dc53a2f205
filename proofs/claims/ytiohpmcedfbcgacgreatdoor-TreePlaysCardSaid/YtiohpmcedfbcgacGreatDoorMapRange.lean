/- Several texts of ours in one, in build order (MapRange, MapStore, MapDel). Conditions: each theorem's own premises. -/
import Derived.Test.YtiohpmcedfbcgacGreatDoorMaps
import Derived.Maps.RangeRun
import Derived.Maps.RangeWalk
/- A range over a map in memory (Maps.lean's 'MapIs'): each entry comes once, in an order that is drawn. No program in sight. Conditions: each theorem's own premises. -/
namespace Go.Proofs.YtiohpmcedfbcgacGreatDoor
open Go.RowKit Go.MapKept
open Go.ChangeMaps (setBlock)
set_option linter.unusedVariables false
set_option linter.unusedSectionVars false

section
variable {κ β : Type} [DecidableEq κ] {d : TypeDesc} {enc : κ → Value} {val : β → Value} {w : World} {mb r cnt : Nat} {m : List (κ × β)} {P : Program} {seenK : κ → Prop}

/-- A range over the map mb, in block r: which keys have come, and how many are to come. -/
def RangeOf (w : World) (mb r : Nat) (enc : κ → Value) (val : β → Value) (m : List (κ × β)) (seenK : κ → Prop) (cnt : Nat) : Prop :=
  ∃ es clock since seen c0, w.heap[mb]? = some (.map es clock) ∧ Stamped es clock ∧ es.toList.map (fun e => (e.key, e.val)) = m.map (fun p => (enc p.1, val p.2)) ∧ MNodup m ∧
    w.heap[r]? = some (.mapIter (some mb) since seen c0) ∧ (∀ x ∈ es.toList, x.born < since) ∧ (Go.leftOf es seen).size = cnt ∧
    (∀ (j : Nat) (x : MapEntry) (p : κ × β), es.toList[j]? = some x → m[j]? = some p → (seen.contains x.born = true ↔ seenK p.1)) ∧ since ≤ c0 ∧ since ≤ clock

theorem RangeOf.lt (h : RangeOf w mb r enc val m seenK cnt) : mb < w.heap.size ∧ r < w.heap.size ∧ r ≠ mb := by
  obtain ⟨es, clock, since, seen, c0, hb, _, _, _, hr, _⟩ := h
  refine ⟨(Array.getElem?_eq_some_iff.1 hb).1, (Array.getElem?_eq_some_iff.1 hr).1, fun e => ?_⟩
  rw [e, hb] at hr
  cases hr
theorem RangeOf.turned {S : Nat → Prop} {w' : World} (h : RangeOf w mb r enc val m seenK cnt) (t : Turn S w w') (h1 : ¬ S mb) (h2 : ¬ S r) : RangeOf w' mb r enc val m seenK cnt := by
  obtain ⟨l1, l2, _⟩ := h.lt
  obtain ⟨es, clock, since, seen, c0, hb, a1, a2, a3, hr, rest⟩ := h
  exact ⟨es, clock, since, seen, c0, (t.block mb l1 h1).trans hb, a1, a2, a3, (t.block r l2 h2).trans hr, rest⟩

theorem MapIs.run_range (h : MapIs w mb d enc val m) {T kt et : TypeId} (hT : P.underlying T = some (.map kt et)) :
    ∃ w', (Instr.range T (.map (some mb))).run P w = .ok (.pointer (some ⟨w.heap.size, 0, none⟩)) w' ∧ RangeOf w' mb w.heap.size enc val m (fun _ => False) m.length ∧ Turn (fun _ => False) w w' ∧ w'.heap.size = w.heap.size + 1 := by
  have hlt := h.lt
  obtain ⟨es, clock, hb, hs, hm⟩ := h.obj
  have hl : es.size = m.length := by
    have := congrArg List.length hm
    simpa using this
  refine ⟨_, run_range_map w T kt et mb es clock hT hb, ⟨es, clock, clock, #[], clock, ?_, hs, hm, h.nodup, (MapKept.heap_alloc w _).1, hs.1, ?_, fun j x p _ _ => by simp, Nat.le_refl _, Nat.le_refl _⟩, (Turn.refl _ _).alloc _, by simp⟩
  · exact ((MapKept.heap_alloc w _).2 mb hlt).trans hb
  · rw [← hl]; simp [Go.leftOf]

theorem RangeOf.next (h : RangeOf w mb r enc val m seenK cnt) (ty : TypeId) :
    ((∀ p ∈ m, seenK p.1) ∧ (Instr.next (.pointer (some ⟨r, 0, none⟩)) false ty).run P w = .ok (.tuple #[.bool false]) w) ∨
    ∃ p w' cnt', p ∈ m ∧ ¬ seenK p.1 ∧ (Instr.next (.pointer (some ⟨r, 0, none⟩)) false ty).run P w = .ok (.tuple #[.bool true, enc p.1, val p.2]) w' ∧
      RangeOf w' mb r enc val m (fun k => seenK k ∨ k = p.1) cnt' ∧ cnt' < cnt ∧ Turn (fun j => j = r) w w' ∧ w'.heap.size = w.heap.size ∧ (Instr.entry (.pointer (some ⟨r, 0, none⟩))).run P w' = .ok (.tuple #[enc p.1, val p.2]) w' := by
  have hne := h.lt.2.2
  obtain ⟨es, clock, since, seen, c0, hb, hst, hm, hn, hr, hold, rfl, hsn, hsc, hsk⟩ := h
  have hlen : es.toList.length = m.length := by
    have := congrArg List.length hm
    simpa using this
  have pair : ∀ (j : Nat) (x : MapEntry) (p : κ × β), es.toList[j]? = some x → m[j]? = some p → x.key = enc p.1 ∧ x.val = val p.2 := fun j x p hx hp => by
    have h1 := congrArg (fun l => l[j]?) hm
    simp only [List.getElem?_map, hx, hp, Option.map_some, Option.some.injEq, Prod.mk.injEq] at h1
    exact h1
  rcases run_next_at (P := P) w ty r mb since c0 seen es clock hr hb hold hsc with ⟨h0, hrun⟩ | ⟨e, he, w1, hal, hrun⟩
  · refine Or.inl ⟨fun p hp => ?_, hrun⟩
    obtain ⟨j, hj⟩ := List.getElem?_of_mem hp
    obtain ⟨x, hx⟩ : ∃ x, es.toList[j]? = some x := ⟨_, List.getElem?_eq_getElem (by rw [hlen]; exact (List.getElem?_eq_some_iff.1 hj).1)⟩
    exact (hsn j x p hx hj).1 (all_seen es seen h0 x (List.mem_of_getElem? hx))
  · obtain ⟨hem, hes⟩ := Go.mem_left he
    obtain ⟨j, hj⟩ := List.getElem?_of_mem hem
    obtain ⟨p, hp⟩ : ∃ p, m[j]? = some p := ⟨_, List.getElem?_eq_getElem (by rw [← hlen]; exact (List.getElem?_eq_some_iff.1 hj).1)⟩
    obtain ⟨k1, k2⟩ := pair j e p hj hp
    have hr1 : w1.heap[r]? = some (.mapIter (some mb) since seen c0) := by rcases hal with rfl | rfl <;> exact hr
    have hb1 : w1.heap[mb]? = some (.map es clock) := by rcases hal with rfl | rfl <;> exact hb
    have hset := heap_set (o' := .mapIter (some mb) since (seen.push e.born) clock) hr1
    have hb' : (setBlock w1 r (.mapIter (some mb) since (seen.push e.born) clock)).heap[mb]? = some (.map es clock) := (hset.2 mb (fun e1 => hne e1.symm)).trans hb1
    have hent := run_entry_at (P := P) _ r mb since seen es clock e hset.1 hb' hem hst.2.1
    rw [k1, k2] at hrun hent
    refine Or.inr ⟨p, _, _, List.mem_of_getElem? hp, fun hs => ?_, hrun, ⟨es, clock, since, seen.push e.born, clock, hb', hst, hm, hn, hset.1, hold, rfl, fun i x q hx hq => ?_, hsk, hsk⟩, left_shrinks es seen e he, ?_, ?_, hent⟩
    · have := (hsn j e p hj hp).2 hs
      rw [hes] at this; cases this
    · rw [contains_push, Bool.or_eq_true, hsn i x q hx hq, beq_iff_eq]
      constructor
      · rintro (h1 | h1)
        · exact .inl h1
        · right
          have hij : i = j := by
            have h2 : (es.toList.map (·.born))[i]? = some x.born := by rw [List.getElem?_map, hx]; rfl
            have h3 : (es.toList.map (·.born))[j]? = some x.born := by rw [List.getElem?_map, hj, h1]; rfl
            have hi := (List.getElem?_eq_some_iff.1 h2).1
            exact (List.getElem?_inj hi hst.2.1).1 (h2.trans h3.symm)
          subst hij
          rw [hp] at hq
          cases hq; rfl
      · rintro (h1 | h1)
        · exact .inl h1
        · right
          have hij := nodup_idx hn hq hp h1
          subst hij
          rw [hj] at hx
          cases hx; rfl
    · rcases hal with rfl | rfl <;> exact ⟨rfl, rfl, rfl, by simp [setBlock], fun i _ hi => hset.2 i (fun e1 => hi (by rw [e1]))⟩
    · rcases hal with rfl | rfl <;> simp [setBlock]

section laws
variable {ops : Array Oper} {rest : List Oper} {o : Oper} {a : Act} {Q : Exit → Act → World → Prop}
theorem wpList_maprange (hg : o.guard = none) (mo : Operand) (T kt et : TypeId) (hop : o.op = Op.range T mo) (hT : P.underlying T = some (.map kt et)) (hm : a.eval mo = .map (some mb)) (h : MapIs w mb d enc val m)
    (hK : ∀ w', RangeOf w' mb w.heap.size enc val m (fun _ => False) m.length → Turn (fun _ => False) w w' → w'.heap.size = w.heap.size + 1 → wpList P ops Q rest (a.put o.dst (.pointer (some ⟨w.heap.size, 0, none⟩))) w') : wpList P ops Q (o :: rest) a w := by
  refine wpList_plain hg fun K' hK' => ?_
  obtain ⟨w', hrun, r1, r2, r3⟩ := h.run_range (P := P) hT
  unfold Oper.wp
  simp [execOp, hop, hm, hrun, Result.andThen]
  exact hK' _ _ (hK w' r1 r2 r3)
theorem wpList_mapnext (hg : o.guard = none) (it : Operand) (hop : o.op = Op.next it false) (hit : a.eval it = .pointer (some ⟨r, 0, none⟩)) (h : RangeOf w mb r enc val m seenK cnt)
    (hDone : (∀ p ∈ m, seenK p.1) → wpList P ops Q rest (a.put o.dst (.tuple #[.bool false])) w)
    (hMore : ∀ (p : κ × β) (w' : World) (cnt' : Nat), p ∈ m → ¬ seenK p.1 → RangeOf w' mb r enc val m (fun k => seenK k ∨ k = p.1) cnt' → cnt' < cnt → Turn (fun j => j = r) w w' → w'.heap.size = w.heap.size →
      (Instr.entry (.pointer (some ⟨r, 0, none⟩))).run P w' = .ok (.tuple #[enc p.1, val p.2]) w' → wpList P ops Q rest (a.put o.dst (.tuple #[.bool true, enc p.1, val p.2])) w') : wpList P ops Q (o :: rest) a w := by
  refine wpList_plain hg fun K' hK' => ?_
  unfold Oper.wp
  rcases h.next (P := P) o.type with ⟨h0, hrun⟩ | ⟨p, w', cnt', h1, h2, hrun, h3, h4, h5, h6, h7⟩
  · simp [execOp, hop, hit, hrun, Result.andThen]
    exact hK' _ _ (hDone h0)
  · simp [execOp, hop, hit, hrun, Result.andThen]
    exact hK' _ _ (hMore p w' cnt' h1 h2 h3 h4 h5 h6 h7)
end laws
end
end Go.Proofs.YtiohpmcedfbcgacGreatDoor
/- A store at a key that is there, into a map that is ranged over: the range goes on as it was. No program in sight. Conditions: each theorem's own premises. -/
namespace Go.Proofs.YtiohpmcedfbcgacGreatDoor
open Go.RowKit Go.MapKept
open Go.ChangeMaps (setBlock)
set_option linter.unusedVariables false
set_option linter.unusedSectionVars false

theorem born_modify (es : Array MapEntry) (i : Nat) (f : MapEntry → MapEntry) (hb : ∀ e, (f e).born = e.born) : (es.modify i f).toList.map (·.born) = es.toList.map (·.born) := by
  apply List.ext_getElem?
  intro j
  simp only [List.getElem?_map, Array.getElem?_toList, Array.getElem?_modify]
  by_cases hij : i = j
  · subst hij
    cases he : es[i]? with
    | none => simp
    | some e => simp [hb e]
  · simp [hij]
theorem leftOf_born (es : Array MapEntry) (seen : Array Nat) : (Go.leftOf es seen).size = ((es.toList.map (·.born)).filter fun b => !seen.contains b).length := by
  unfold Go.leftOf
  rw [← Array.length_toList, Array.toList_filter, List.filter_map, List.length_map]
  rfl

section
variable {κ β : Type} [DecidableEq κ] {d : TypeDesc} {enc : κ → Value} {val : β → Value} {w : World} {mb r cnt : Nat} {m : List (κ × β)} {P : Program} {seenK : κ → Prop}
theorem RangeOf.run_update (h : RangeOf w mb r enc val m seenK cnt) (K : KeyEnc d enc) {T kt et : TypeId} (hT : P.underlying T = some (.map kt et)) (hd : P.underlying kt = some d) (k : κ) (v0 : β) (hk : mget m k = some v0) (v : β) :
    ∃ w', (Instr.mapUpdate T (.map (some mb)) (enc k) (val v)).run P w = .ok () w' ∧ RangeOf w' mb r enc val (mput m k v) seenK cnt ∧ MapIs w' mb d enc val (mput m k v) ∧ Turn (fun j => j = mb) w w' := by
  have hne := h.lt.2.2
  obtain ⟨es, clock, since, seen, c0, hb, hst, hm, hn, hr, hold, hcnt, hsn, hsc, hsk⟩ := h
  have hMap : MapIs w mb d enc val m := ⟨⟨es, clock, hb, hst, hm⟩, hn⟩
  rcases find_cases K hm hn k with ⟨_, h2⟩ | ⟨j, e, v1, h1, he, h3, h4, h5, h6⟩
  · rw [hk] at h2; cases h2
  · obtain ⟨w1, hrun, hM1, ht1⟩ := hMap.run_update (P := P) K hT hd k v
    have hrun2 : (Instr.mapUpdate T (.map (some mb)) (enc k) (val v)).run P w = .ok () { w with heap := w.heap.setIfInBounds mb (.map (es.modify j fun e => { e with key := enc k, val := val v }) clock) } := by
      simp [Instr.mapUpdate, run_underlying hT, MapKept.run_getObj_map hb, MapKept.run_checkKey hd (K.key k), MapKept.run_findKey hd h1, he, h3, MapKept.run_keyThatStays (K.key k), MapKept.run_setObj_map _ hb, Result.andThen]
    have hw : w1 = { w with heap := w.heap.setIfInBounds mb (.map (es.modify j fun e => { e with key := enc k, val := val v }) clock) } := by
      have := hrun.symm.trans hrun2
      injection this
    have hbn := born_modify es j (fun e => { e with key := enc k, val := val v }) (fun _ => rfl)
    have hb1 : w1.heap[mb]? = some (.map (es.modify j fun e => { e with key := enc k, val := val v }) clock) := by rw [hw]; exact (heap_set hb).1
    refine ⟨w1, hrun, ?_, hM1, ht1⟩
    obtain ⟨⟨es1, cl1, hbb, hst1, hm1⟩, hn1⟩ := hM1
    rw [hb1] at hbb
    simp only [Option.some.injEq, Obj.map.injEq] at hbb
    obtain ⟨rfl, rfl⟩ := hbb
    refine ⟨_, _, since, seen, c0, hb1, hst1, hm1, hn1, ?_, fun x hx => ?_, ?_, fun i x p hx hp => ?_, hsc, hsk⟩
    · rw [hw]
      exact ((heap_set hb).2 r hne).trans hr
    · have : x.born ∈ (es.modify j fun e => { e with key := enc k, val := val v }).toList.map (·.born) := List.mem_map.2 ⟨x, hx, rfl⟩
      rw [hbn] at this
      obtain ⟨y, hy, hyx⟩ := List.mem_map.1 this
      rw [← hyx]; exact hold y hy
    · rw [leftOf_born, hbn, ← leftOf_born]; exact hcnt
    · have h7 : (es.toList.map (·.born))[i]? = some x.born := by rw [← hbn, List.getElem?_map, hx]; rfl
      rw [List.getElem?_map] at h7
      cases hy : es.toList[i]? with
      | none => rw [hy] at h7; cases h7
      | some y =>
        rw [hy] at h7
        simp only [Option.map_some, Option.some.injEq] at h7
        have h8 : (m.map Prod.fst)[i]? = some p.1 := by
          have e1 : (mput m k v).map Prod.fst = m.map Prod.fst := by
            unfold mput
            rw [hk]
            simp only [Option.isSome_some, if_true]
            exact mupd_keys m k v
          rw [← e1, List.getElem?_map, hp]; rfl
        rw [List.getElem?_map] at h8
        cases hq : m[i]? with
        | none => rw [hq] at h8; cases h8
        | some q =>
          rw [hq] at h8
          simp only [Option.map_some, Option.some.injEq] at h8
          rw [← h7, ← h8]
          exact hsn i y q hy hq
end
end Go.Proofs.YtiohpmcedfbcgacGreatDoor
/- A delete of a key that has come, from a map that is ranged over: the range goes on as it was. No program in sight. Conditions: each theorem's own premises. -/
namespace Go.Proofs.YtiohpmcedfbcgacGreatDoor
open Go.RowKit Go.MapKept
set_option linter.unusedVariables false
set_option linter.unusedSectionVars false

theorem filter_erase {α : Type} (p : α → Bool) : ∀ (l : List α) (j : Nat) (b : α), l[j]? = some b → p b = false → (l.eraseIdx j).filter p = l.filter p
  | [], j, b, h, _ => by simp at h
  | a :: l, 0, b, h, hp => by
    simp only [List.getElem?_cons_zero, Option.some.injEq] at h
    subst h
    rw [List.eraseIdx_cons_zero, List.filter_cons, hp]
    rfl
  | a :: l, j + 1, b, h, hp => by
    rw [List.getElem?_cons_succ] at h
    rw [List.eraseIdx_cons_succ, List.filter_cons, List.filter_cons, filter_erase p l j b h hp]
section
variable {κ β : Type} [DecidableEq κ] {d : TypeDesc} {enc : κ → Value} {val : β → Value} {w : World} {mb r cnt : Nat} {m : List (κ × β)} {P : Program} {seenK : κ → Prop}
theorem RangeOf.run_delete (h : RangeOf w mb r enc val m seenK cnt) (K : KeyEnc d enc) {T kt et ty : TypeId} (hT : P.underlying T = some (.map kt et)) (hd : P.underlying kt = some d) (k : κ) (v0 : β) (hk : mget m k = some v0) (hsk0 : seenK k) :
    ∃ w', (Builtin.delete_ #[T, kt] ty #[.map (some mb), enc k]).run P w = .ok (.tuple #[]) w' ∧ RangeOf w' mb r enc val (mdel m k) seenK cnt ∧ MapIs w' mb d enc val (mdel m k) ∧ Turn (fun j => j = mb) w w' := by
  have hne := h.lt.2.2
  obtain ⟨es, clock, since, seen, c0, hb, hst, hm, hn, hr, hold, hcnt, hsn, hsc, hsk⟩ := h
  have hMap : MapIs w mb d enc val m := ⟨⟨es, clock, hb, hst, hm⟩, hn⟩
  rcases find_cases K hm hn k with ⟨_, h2⟩ | ⟨j, e, v1, h1, he, h3, h4, h5, h6⟩
  · rw [hk] at h2; cases h2
  · obtain ⟨w1, hrun, hM1, ht1⟩ := hMap.run_delete (P := P) (ty := ty) K hT hd k
    have hrun2 : (Builtin.delete_ #[T, kt] ty #[.map (some mb), enc k]).run P w = .ok (.tuple #[]) { w with heap := w.heap.setIfInBounds mb (.map (es.eraseIdxIfInBounds j) clock) } := by
      simp [Builtin.delete_, run_underlying hT, MapKept.run_getObj_map hb, MapKept.run_checkKey hd (K.key k), MapKept.run_findKey hd h1, MapKept.run_setObj_map _ hb, Result.andThen]
    have hw : w1 = { w with heap := w.heap.setIfInBounds mb (.map (es.eraseIdxIfInBounds j) clock) } := by
      have := hrun.symm.trans hrun2
      injection this
    have hj : j < es.size := (Array.getElem?_eq_some_iff.1 he).1
    have e1 : (es.eraseIdxIfInBounds j).toList = es.toList.eraseIdx j := by
      unfold Array.eraseIdxIfInBounds
      rw [dif_pos hj]; simp
    have hel : es.toList[j]? = some e := by rw [Array.getElem?_toList]; exact he
    have hseen : seen.contains e.born = true := (hsn j e _ hel h4).2 hsk0
    have hb1 : w1.heap[mb]? = some (.map (es.eraseIdxIfInBounds j) clock) := by rw [hw]; exact (heap_set hb).1
    refine ⟨w1, hrun, ?_, hM1, ht1⟩
    obtain ⟨⟨es1, cl1, hbb, hst1, hm1⟩, hn1⟩ := hM1
    rw [hb1] at hbb
    simp only [Option.some.injEq, Obj.map.injEq] at hbb
    obtain ⟨rfl, rfl⟩ := hbb
    refine ⟨_, _, since, seen, c0, hb1, hst1, hm1, hn1, ?_, fun x hx => ?_, ?_, fun i x p hx hp => ?_, hsc, hsk⟩
    · rw [hw]
      exact ((heap_set hb).2 r hne).trans hr
    · rw [e1] at hx
      exact hold x (List.mem_of_mem_eraseIdx hx)
    · rw [leftOf_born, e1, map_eraseIdx']
      rw [filter_erase _ _ j e.born (by rw [List.getElem?_map, hel]; rfl) (by rw [hseen]; rfl), ← leftOf_born]
      exact hcnt
    · rw [e1, List.getElem?_eraseIdx] at hx
      rw [mdel_eraseIdx hn h4, List.getElem?_eraseIdx] at hp
      by_cases hij : i < j
      · rw [if_pos hij] at hx hp
        exact hsn i x p hx hp
      · rw [if_neg hij] at hx hp
        exact hsn (i + 1) x p hx hp
end
end Go.Proofs.YtiohpmcedfbcgacGreatDoor
