/- A store at a key that is there, into a map that is ranged over: the range goes on as it was. No program in sight. Conditions: each theorem's own premises. -/
import Derived.Test.YtiohpmcedfbcgabDoorMapRange
namespace Go.Proofs.YtiohpmcedfbcgabDoor
open Go.RowKit Go.MapKept
open Go.ChangeMaps (setBlock)
set_option linter.unusedVariables false
set_option linter.unusedSectionVars false

theorem born_modify (es : Array MapEntry) (i : Nat) (f : MapEntry → MapEntry) (hb : ∀ e, (f e).born = e.born) : (es.modify i f).toList.map (·.born) = es.toList.map (·.born) := by
  apply List.ext_getElem?
  intro j
  simp only [List.getElem?_map, Array.getElem?_toList, Array.getElem?_modify]
  by_cases hij : i = j
  · subst hij
    cases he : es[i]? with
    | none => simp
    | some e => simp [hb e]
  · simp [hij]
theorem leftOf_born (es : Array MapEntry) (seen : Array Nat) : (Go.leftOf es seen).size = ((es.toList.map (·.born)).filter fun b => !seen.contains b).length := by
  unfold Go.leftOf
  rw [← Array.length_toList, Array.toList_filter, List.filter_map, List.length_map]
  rfl

section
variable {κ β : Type} [DecidableEq κ] {d : TypeDesc} {enc : κ → Value} {val : β → Value} {w : World} {mb r cnt : Nat} {m : List (κ × β)} {P : Program} {seenK : κ → Prop}
theorem RangeOf.run_update (h : RangeOf w mb r enc val m seenK cnt) (K : KeyEnc d enc) {T kt et : TypeId} (hT : P.underlying T = some (.map kt et)) (hd : P.underlying kt = some d) (k : κ) (v0 : β) (hk : mget m k = some v0) (v : β) :
    ∃ w', (Instr.mapUpdate T (.map (some mb)) (enc k) (val v)).run P w = .ok () w' ∧ RangeOf w' mb r enc val (mput m k v) seenK cnt ∧ MapIs w' mb d enc val (mput m k v) ∧ Turn (fun j => j = mb) w w' := by
  have hne := h.lt.2.2
  obtain ⟨es, clock, since, seen, c0, hb, hst, hm, hn, hr, hold, hcnt, hsn, hsc, hsk⟩ := h
  have hMap : MapIs w mb d enc val m := ⟨⟨es, clock, hb, hst, hm⟩, hn⟩
  rcases find_cases K hm hn k with ⟨_, h2⟩ | ⟨j, e, v1, h1, he, h3, h4, h5, h6⟩
  · rw [hk] at h2; cases h2
  · obtain ⟨w1, hrun, hM1, ht1⟩ := hMap.run_update (P := P) K hT hd k v
    have hrun2 : (Instr.mapUpdate T (.map (some mb)) (enc k) (val v)).run P w = .ok () { w with heap := w.heap.setIfInBounds mb (.map (es.modify j fun e => { e with key := enc k, val := val v }) clock) } := by
      simp [Instr.mapUpdate, run_underlying hT, MapKept.run_getObj_map hb, MapKept.run_checkKey hd (K.key k), MapKept.run_findKey hd h1, he, h3, MapKept.run_keyThatStays (K.key k), MapKept.run_setObj_map _ hb, Result.andThen]
    have hw : w1 = { w with heap := w.heap.setIfInBounds mb (.map (es.modify j fun e => { e with key := enc k, val := val v }) clock) } := by
      have := hrun.symm.trans hrun2
      injection this
    have hbn := born_modify es j (fun e => { e with key := enc k, val := val v }) (fun _ => rfl)
    have hb1 : w1.heap[mb]? = some (.map (es.modify j fun e => { e with key := enc k, val := val v }) clock) := by rw [hw]; exact (heap_set hb).1
    refine ⟨w1, hrun, ?_, hM1, ht1⟩
    obtain ⟨⟨es1, cl1, hbb, hst1, hm1⟩, hn1⟩ := hM1
    rw [hb1] at hbb
    simp only [Option.some.injEq, Obj.map.injEq] at hbb
    obtain ⟨rfl, rfl⟩ := hbb
    refine ⟨_, _, since, seen, c0, hb1, hst1, hm1, hn1, ?_, fun x hx => ?_, ?_, fun i x p hx hp => ?_, hsc, hsk⟩
    · rw [hw]
      exact ((heap_set hb).2 r hne).trans hr
    · have : x.born ∈ (es.modify j fun e => { e with key := enc k, val := val v }).toList.map (·.born) := List.mem_map.2 ⟨x, hx, rfl⟩
      rw [hbn] at this
      obtain ⟨y, hy, hyx⟩ := List.mem_map.1 this
      rw [← hyx]; exact hold y hy
    · rw [leftOf_born, hbn, ← leftOf_born]; exact hcnt
    · have h7 : (es.toList.map (·.born))[i]? = some x.born := by rw [← hbn, List.getElem?_map, hx]; rfl
      rw [List.getElem?_map] at h7
      cases hy : es.toList[i]? with
      | none => rw [hy] at h7; cases h7
      | some y =>
        rw [hy] at h7
        simp only [Option.map_some, Option.some.injEq] at h7
        have h8 : (m.map Prod.fst)[i]? = some p.1 := by
          have e1 : (mput m k v).map Prod.fst = m.map Prod.fst := by
            unfold mput
            rw [hk]
            simp only [Option.isSome_some, if_true]
            exact mupd_keys m k v
          rw [← e1, List.getElem?_map, hp]; rfl
        rw [List.getElem?_map] at h8
        cases hq : m[i]? with
        | none => rw [hq] at h8; cases h8
        | some q =>
          rw [hq] at h8
          simp only [Option.map_some, Option.some.injEq] at h8
          rw [← h7, ← h8]
          exact hsn i y q hy hq
end
end Go.Proofs.YtiohpmcedfbcgabDoor
