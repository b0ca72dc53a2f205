/- Arguments opened: a slice of slices of structs, and a slice of ints, by their cells. Conditions: each theorem's own premises. -/
import Derived.Test.YtiohpmcedfbcgabDoorOpen
namespace Go.Proofs.YtiohpmcedfbcgabDoor
open Go.ChangeShapes Go.WideShapes Go.ChangeAt Go.RowKit Go.Deep
set_option linter.unusedVariables false

section
variable {H : Type} {enc : TypeId × Value → H} {P : Program} {W : World}

theorem spot_none {a : Addr} {v : Value} {k : Nat} (hk : k = 0) (h : W.cell? (a.add k) = some v) : ∃ b off, a = ⟨b, off, none⟩ ∧ b < W.heap.size := by
  subst hk
  obtain ⟨b, off, spot⟩ := a
  have hsp : spot = none := by
    cases spot with
    | none => rfl
    | some s =>
      exfalso
      unfold Addr.add at h
      unfold World.cell? at h
      split at h <;> simp_all
  subst hsp
  rw [Addr.add_mid] at h
  exact ⟨b, off, rfl, World.block_lt_of_cell? _ _ h⟩

theorem structs_of_trod {t e : TypeId} {fs : Array Field} {v : Value} {fuel : Nat} {x : DataW H × List MemPlace} (ht : P.underlying t = some (.slice e)) (he : P.underlying e = some (.struct fs))
    (hone : oneCellFields P fs = true) (hC : P.cellsOf e = fs.size) (h0 : 0 < fs.size) (h : DataW.trod enc P W 0 (fun _ => true) true fuel t [v] = some x) :
    ∃ (a : Option Addr) (n cap : Nat), v = .slice a n cap ∧ n ≤ cap ∧ cap ≤ maxLen ∧ (n = 0 ∨ ∃ b off, a = some ⟨b, off, none⟩ ∧ b < W.heap.size ∧ StructsAt enc P W fs b off n) := by
  rcases open_slice_fields ht he hone hC h with ⟨hcs, _⟩ | ⟨a', n, cap, m, D, Pl, hcs, _, hlen, hcap, hm, _, hD⟩
  · simp only [List.cons.injEq, and_true] at hcs
    exact ⟨none, 0, 0, hcs, Nat.le_refl _, Nat.zero_le _, .inl rfl⟩
  · simp only [List.cons.injEq, and_true] at hcs
    refine ⟨some a', n, cap, hcs, hlen, hcap, ?_⟩
    by_cases hn : n = 0
    · exact .inl hn
    · right
      simp only [if_true] at hm
      have get : ∀ (i j : Nat) (f : Field), i < n → fs[j]? = some f → ∃ (v : Value) (y : DataW H × List MemPlace) (k : Nat), W.cell? (a'.add (i * fs.size + j)) = some v ∧ DataW.trod enc P W 0 (fun _ => true) true k f.type [v] = some y := by
        intro i j f hi hj
        obtain ⟨ys, k, _, _, _, hfj⟩ := hD i (by omega)
        obtain ⟨v, y, hc, _, ht⟩ := hfj j f hj
        exact ⟨v, y, k, hc, ht⟩
      obtain ⟨v, y, k, hc, _⟩ := get 0 0 fs[0] (by omega) (by simp [h0])
      obtain ⟨b, off, rfl, hb⟩ := spot_none (by simp) hc
      refine ⟨b, off, rfl, hb, ?_⟩
      intro i j f hi hj
      obtain ⟨v, y, k, hc, ht⟩ := get i j f hi hj
      rw [Addr.add_mid] at hc
      exact ⟨v, y, k, hc, ht⟩

theorem open_rows {t e q : TypeId} {fs : Array Field} {r : Reach} {b0 : Nat} {v : Value} {d : DataW H} {p : List MemPlace} (ht : P.underlying t = some (.slice e)) (he : P.underlying e = some (.slice q)) (hq : P.underlying q = some (.struct fs))
    (hone : oneCellFields P fs = true) (hC : P.cellsOf q = fs.size) (h0 : 0 < fs.size) (ce : P.cellsOf e = 1) (hv : Value.okWide P W r b0 t v) (h : DataW.Trod enc P W 0 (fun _ => true) true t v d p) :
    ∃ (a : Option Addr) (n cap : Nat), v = .slice a n cap ∧ n ≤ maxLen ∧ (n = 0 ∨ ∃ b off, a = some ⟨b, off, none⟩ ∧ b < W.heap.size ∧ ∀ i, i < n →
      ∃ (ra : Option Addr) (rn rcap : Nat), W.cell? ⟨b, off + i, none⟩ = some (.slice ra rn rcap) ∧ rn ≤ rcap ∧ rcap ≤ maxLen ∧ (rn = 0 ∨ ∃ g o, ra = some ⟨g, o, none⟩ ∧ g < W.heap.size ∧ StructsAt enc P W fs g o rn)) := by
  obtain ⟨a, n, cap, rfl⟩ := okWide_slice ht hv
  obtain ⟨fuel, hf⟩ := h
  rcases open_slice1 ht ce hf with ⟨hcs, _⟩ | ⟨a', len, cap', m, k, V, D, Pl, hcs, _, hlen, hcap, hm, _, hD⟩
  · simp only [Value.cells, List.cons.injEq, Value.slice.injEq, and_true] at hcs
    obtain ⟨rfl, rfl, rfl⟩ := hcs
    exact ⟨none, 0, 0, rfl, Nat.zero_le _, .inl rfl⟩
  · simp only [Value.cells, List.cons.injEq, Value.slice.injEq, and_true] at hcs
    obtain ⟨rfl, rfl, rfl⟩ := hcs
    refine ⟨some a', n, cap, rfl, Nat.le_trans hlen hcap, ?_⟩
    by_cases hn : n = 0
    · exact .inl hn
    · right
      simp only [if_true] at hm
      obtain ⟨b, off, rfl, hb⟩ := spot_none rfl (hD 0 (by omega)).1
      refine ⟨b, off, rfl, hb, fun i hi => ?_⟩
      obtain ⟨hc, htr⟩ := hD i (by omega)
      obtain ⟨ra, rn, rcap, hv', h1, h2, h3⟩ := structs_of_trod he hq hone hC h0 htr
      rw [Addr.add_mid, hv'] at hc
      exact ⟨ra, rn, rcap, hc, h1, h2, h3⟩

theorem open_nums {t e : TypeId} {r : Reach} {b0 : Nat} {v : Value} {d : DataW H} {p : List MemPlace} (ht : P.underlying t = some (.slice e)) (he : P.underlying e = some (.int .i64)) (ce : P.cellsOf e = 1)
    (hv : Value.okWide P W r b0 t v) (h : DataW.Trod enc P W 0 (fun _ => true) true t v d p) :
    ∃ (a : Option Addr) (n cap : Nat), v = .slice a n cap ∧ n ≤ maxLen ∧ (n = 0 ∨ ∃ b off, a = some ⟨b, off, none⟩ ∧ b < W.heap.size ∧ ∃ xs : List Int, xs.length = n ∧ ∀ j x, xs[j]? = some x → W.cell? ⟨b, off + j, none⟩ = some (.int .i64 x)) := by
  obtain ⟨a, n, cap, rfl⟩ := okWide_slice ht hv
  obtain ⟨fuel, hf⟩ := h
  rcases open_slice1 ht ce hf with ⟨hcs, _⟩ | ⟨a', len, cap', m, k, V, D, Pl, hcs, _, hlen, hcap, hm, _, hD⟩
  · simp only [Value.cells, List.cons.injEq, Value.slice.injEq, and_true] at hcs
    obtain ⟨rfl, rfl, rfl⟩ := hcs
    exact ⟨none, 0, 0, rfl, Nat.zero_le _, .inl rfl⟩
  · simp only [Value.cells, List.cons.injEq, Value.slice.injEq, and_true] at hcs
    obtain ⟨rfl, rfl, rfl⟩ := hcs
    refine ⟨some a', n, cap, rfl, Nat.le_trans hlen hcap, ?_⟩
    by_cases hn : n = 0
    · exact .inl hn
    · right
      simp only [if_true] at hm
      obtain ⟨b, off, rfl, hb⟩ := spot_none rfl (hD 0 (by omega)).1
      obtain ⟨g, hg⟩ := choose_lt (α := Int) (p := fun i z => W.cell? ⟨b, off + i, none⟩ = some (.int .i64 z)) (n := n) (fun i hi => by
        obtain ⟨hc, htr⟩ := hD i (by omega)
        obtain ⟨z, hz, _, _⟩ := DataW.trod_int he htr
        simp only [List.cons.injEq, and_true] at hz
        rw [Addr.add_mid, hz] at hc
        exact ⟨z, hc⟩)
      refine ⟨b, off, rfl, hb, (List.range n).map g, by simp, fun j x hx => ?_⟩
      have hj : j < n := by
        have := (List.getElem?_eq_some_iff.1 hx).1
        simpa using this
      simp only [List.getElem?_map, List.getElem?_range hj, Option.map_some, Option.some.injEq] at hx
      subst hx
      exact hg j hj
end
end Go.Proofs.YtiohpmcedfbcgabDoor
