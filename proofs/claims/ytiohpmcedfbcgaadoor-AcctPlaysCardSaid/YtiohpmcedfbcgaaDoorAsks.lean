/- Slices of asks: rows, appends; the two Charge in one piece. Conditions: each theorem's own premises. -/
import Derived.Test.YtiohpmcedfbcgaaDoorAcctRef
import Derived.Test.YtiohpmcedfbcgaaDoorPlace
import Derived.Test.YtiohpmcedfbcgaaDoorGrow
import Derived.Deep.Upon
namespace Go.Proofs.YtiohpmcedfbcgaaDoor
open Go.RowKit
set_option linter.unusedVariables false

def prCells (l : List (Int × Int)) : List Value := l.flatMap fun t => [.int .i64 t.1, .int .i64 t.2]
theorem prCells_len (l : List (Int × Int)) : (prCells l).length = l.length * 2 := by
  induction l with
  | nil => rfl
  | cons a l ih => simp only [prCells, List.flatMap_cons, List.length_append, List.length_cons, List.length_nil] at ih ⊢; omega
theorem prCells_append (l m : List (Int × Int)) : prCells (l ++ m) = prCells l ++ prCells m := by simp [prCells]
theorem prCells_one (l : List (Int × Int)) : ∀ u ∈ prCells l, u.oneCell' = true := by
  intro u hu
  unfold prCells at hu
  simp only [List.mem_flatMap, List.mem_cons, List.not_mem_nil, or_false] at hu
  obtain ⟨c, _, rfl | rfl⟩ := hu <;> rfl
theorem prCells_at (l : List (Int × Int)) (j : Nat) (t : Int × Int) (h : l[j]? = some t) : (prCells l)[j * 2]? = some (.int .i64 t.1) ∧ (prCells l)[j * 2 + 1]? = some (.int .i64 t.2) := by
  induction l generalizing j with
  | nil => simp at h
  | cons a l ih =>
    cases j with
    | zero => simp at h; subst h; exact ⟨rfl, rfl⟩
    | succ j =>
      simp at h
      obtain ⟨h1, h2⟩ := ih j h
      have e : prCells (a :: l) = [.int .i64 a.1, .int .i64 a.2] ++ prCells l := rfl
      rw [e, List.getElem?_append_right (by simp; omega), List.getElem?_append_right (by simp; omega)]
      simp only [List.length_cons, List.length_nil]
      rw [show (j + 1) * 2 - 2 = j * 2 by omega, show (j + 1) * 2 + 1 - 2 = j * 2 + 1 by omega]
      exact ⟨h1, h2⟩
theorem AsksAt.cell {w : World} {b off : Nat} {l : List (Int × Int)} (h : AsksAt w b off l) (j : Nat) (u : Value) (hu : (prCells l)[j]? = some u) : w.cell? ((⟨b, off, none⟩ : Addr).add j) = some u := by
  rw [Addr.add_mid]
  have hj : j < l.length * 2 := by have := (List.getElem?_eq_some_iff.1 hu).1; rwa [prCells_len] at this
  have hi : j / 2 < l.length := by omega
  have hc : l[j / 2]? = some l[j / 2] := List.getElem?_eq_getElem hi
  obtain ⟨a0, a1⟩ := prCells_at l _ _ hc
  obtain ⟨c0, c1⟩ := h _ _ hc
  have hm : j % 2 = 0 ∨ j % 2 = 1 := by omega
  rcases hm with hm | hm
  · have e : j = j / 2 * 2 := by omega
    rw [← e] at a0 c0
    rw [c0, ← a0, hu]
  · have e : j = j / 2 * 2 + 1 := by omega
    rw [← e] at a1
    rw [show off + j = off + j / 2 * 2 + 1 by omega, c1, ← a1, hu]
theorem AsksAt.take {w : World} {b off : Nat} {l : List (Int × Int)} (h : AsksAt w b off l) (n : Nat) : AsksAt w b off (l.take n) := fun i c hc => by
  rw [List.getElem?_take] at hc
  split at hc
  · exact h i c hc
  · cases hc

/-- v is a slice of the pairs l (elements of type T), in a block of memory of its own. -/
def PairsAt (T : TypeId) (w : World) (v : Value) (l : List (Int × Int)) : Prop := w.ownsRow 0 T 2 v l.length (prCells l)
theorem PairsAt.shape {T : TypeId} {w : World} {v : Value} {l : List (Int × Int)} (h : PairsAt T w v l) : (v = .slice none 0 0 ∧ l = []) ∨ ∃ g cap, v = .slice (some ⟨g, 0, none⟩) l.length cap ∧ l.length ≤ cap ∧ cap ≤ maxLen ∧ g < w.heap.size ∧ AsksAt w g 0 l := by
  have h' := h
  obtain ⟨_, h0 | ⟨g, cap, cur, rfl, _, hg, h1, h2, _⟩⟩ := h
  · exact .inl ⟨h0.1, List.length_eq_zero_iff.1 h0.2⟩
  · refine .inr ⟨g, cap, rfl, h1, h2, (Array.getElem?_eq_some_iff.1 hg).1, fun j t ht => ?_⟩
    obtain ⟨a0, a1⟩ := prCells_at l j t ht
    have hj := (List.getElem?_eq_some_iff.1 ht).1
    rw [World.ownsRow.cellAt h' (0 + j * 2) (by omega), World.ownsRow.cellAt h' (0 + j * 2 + 1) (by omega), Nat.zero_add]
    exact ⟨a0, a1⟩
theorem PairsAt.turned {T : TypeId} {S : Nat → Prop} {w w' : World} {v : Value} {l : List (Int × Int)} (h : PairsAt T w v l) (t : Turn S w w') (hn : ∀ g, v.ownBlock = some g → ¬ S g) : PairsAt T w' v l := by
  refine ⟨h.1, ?_⟩
  rcases h.2 with h0 | ⟨g, cap, cur, rfl, hb, hg, r⟩
  · exact .inl h0
  · exact .inr ⟨g, cap, cur, rfl, hb, (t.block g (Array.getElem?_eq_some_iff.1 hg).1 (hn g rfl)).trans hg, r⟩
theorem PairsAt.empty (T : TypeId) (w : World) : PairsAt T w (.slice none 0 0) [] := World.ownsRow_nil _ _ _ _
theorem PairsAt.of_row {T : TypeId} {w : World} {g cap n : Nat} {l m : List (Int × Int)} (h : w.ownsRow 0 T 2 (.slice (some ⟨g, 0, none⟩) n cap) n (prCells l ++ prCells m)) (hn : n = l.length + m.length) : PairsAt T w (.slice (some ⟨g, 0, none⟩) (l.length + m.length) cap) (l ++ m) := by
  subst hn
  unfold PairsAt
  rw [List.length_append, prCells_append]
  exact h

/-- The type of a slice of pairs, and of its elements. -/
structure PairT (TS T : TypeId) : Prop where
  und : Tryd.prog.underlying TS = some (.slice T)
  info : (Tryd.prog.info? T).map (fun i => (i.zero, i.size, i.bytes)) = some (some (.agg #[.int .i64 0, .int .i64 0]), 2, 16)
theorem pairA : PairT 47 51 := ⟨Tryd.underlying47, by kernel_rfl⟩
theorem pairR : PairT 67 71 := ⟨Tryd.underlying67, by kernel_rfl⟩

theorem wpList_append_pairs {TS T : TypeId} (hT : PairT TS T) {ops : Array Oper} {rest : List Oper} {o : Oper} {a : Act} {w : World} {Q : Exit → Act → World → Prop}
    (hg : o.guard = none) (s x : Operand) (hop : o.op = Op.call { callee := Callee.builtin Builtin.append, args := #[s, x], argTypes := #[TS, TS] })
    (v : Value) (l : List (Int × Int)) (hs : a.eval s = v) (hi : PairsAt T w v l) (b off c : Nat) (y : Int × Int) (hx : a.eval x = .slice (some ⟨b, off, none⟩) 1 c) (hc : AsksAt w b off [y]) (hl : l.length ≤ 1000000)
    (hK : ∀ g cap w', PairsAt T w' (.slice (some ⟨g, 0, none⟩) (l.length + 1) cap) (l ++ [y]) → Turn (fun j => v.ownBlock = some j) w w' → (v.ownBlock = some g ∨ w.heap.size ≤ g) → wpList Tryd.prog ops Q rest (a.put o.dst (.slice (some ⟨g, 0, none⟩) (l.length + 1) cap)) w') :
    wpList Tryd.prog ops Q (o :: rest) a w := by
  obtain ⟨i0, hi0, hz0, hz1, hz2⟩ := info_split hT.info
  refine wpList_append_at hg s x TS hop T i0 (.agg #[.int .i64 0, .int .i64 0]) 2 16 hT.und hi0 hz0 hz1 hz2 rfl (by decide) v l.length _ hs hi ⟨b, off, none⟩ 1 c (prCells [y]) hx (prCells_len [y]) hc.cell (prCells_one [y]) (.inl (by decide)) (by unfold maxLen; omega) (by omega) ?_
  intro g cap w' h1 h2 h3
  exact hK g cap w' (PairsAt.of_row (m := [y]) h1 rfl) h2 h3

/-- What an append to nothing has made of pairs: nothing, or a slice in a new block. -/
def GrownRow (T : TypeId) (B : Nat) (w : World) (v : Value) (l : List (Int × Int)) : Prop :=
  (l = [] ∧ ∃ base, v = .slice (some base) 0 0) ∨ ∃ g cap, v = .slice (some ⟨g, 0, none⟩) l.length cap ∧ PairsAt T w v l ∧ B ≤ g ∧ g < w.heap.size ∧ l.length ≤ cap
theorem GrownRow.turned {T : TypeId} {B : Nat} {S : Nat → Prop} {w w' : World} {v : Value} {l : List (Int × Int)} (h : GrownRow T B w v l) (t : Turn S w w') (hn : ∀ g, B ≤ g → ¬ S g) : GrownRow T B w' v l := by
  rcases h with h | ⟨g, cap, rfl, h1, h2, h3, h4⟩
  · exact .inl h
  · exact .inr ⟨g, cap, rfl, h1.turned t (fun g' hg' => by cases hg'; exact hn _ h2), h2, Nat.lt_of_lt_of_le h3 t.size, h4⟩

theorem GrownRow.low {T : TypeId} {B B' : Nat} {w : World} {v : Value} {l : List (Int × Int)} (h : GrownRow T B w v l) (hB : B' ≤ B) : GrownRow T B' w v l := by
  rcases h with h | ⟨g, cap, h0, h1, h2, h3, h4⟩
  · exact .inl h
  · exact .inr ⟨g, cap, h0, h1, Nat.le_trans hB h2, h3, h4⟩
theorem AsksAt.one {w : World} {b : Nat} {x y : Int} (h0 : w.cell? ⟨b, 0, none⟩ = some (.int .i64 x)) (h1 : w.cell? ⟨b, 1, none⟩ = some (.int .i64 y)) : AsksAt w b 0 [(x, y)] := fun i t ht => by
  cases i with
  | zero => simp at ht; subst ht; exact ⟨by simpa using h0, by simpa using h1⟩
  | succ i => simp at ht
/-- Pairs that lie somewhere, as a slice. -/
def LiesRow (w : World) (a : Option Addr) (l : List (Int × Int)) : Prop := l = [] ∨ ∃ b off, a = some ⟨b, off, none⟩ ∧ b < w.heap.size ∧ AsksAt w b off l
theorem LiesRow.turned {S : Nat → Prop} {w w' : World} {a : Option Addr} {l : List (Int × Int)} (h : LiesRow w a l) (t : Turn S w w') (hn : ∀ k, k < w.heap.size → ¬ S k) : LiesRow w' a l := by
  rcases h with h | ⟨b, off, h1, h2, h3⟩
  · exact .inl h
  · exact .inr ⟨b, off, h1, Nat.lt_of_lt_of_le h2 t.size, h3.turned t h2 (hn b h2)⟩

theorem step_append_first {TS T : TypeId} (hT : PairT TS T) {ops : Array Oper} {o : Oper} {a : Act} {w : World} {K : Act → World → Prop} {Q : Exit → Act → World → Prop} {E : Prop}
    (hg : o.guard = none) (s x : Operand) (hop : o.op = Op.call { callee := Callee.builtin Builtin.append, args := #[s, x], argTypes := #[TS, TS] })
    (base : Addr) (hs : a.eval s = .slice (some base) 0 0) (xa : Option Addr) (n c : Nat) (l : List (Int × Int)) (hn : l.length = n) (hx : a.eval x = .slice xa n c) (hc : LiesRow w xa l) (hl : l.length ≤ 1000000)
    (hK : ∀ v w', GrownRow T w.heap.size w' v l → Turn (fun _ => False) w w' → K (a.put o.dst v) w') :
    if Region.wanted o (yielded ops a.tmps) = true then Oper.wp Tryd.prog o a w K Q else E := by
  subst hn
  have hw : Region.wanted o (yielded ops a.tmps) = true := by simp [Region.wanted, hg]
  rw [if_pos hw]
  obtain ⟨i0, hi0, hz0, hz1, hz2⟩ := info_split hT.info
  by_cases h0 : l = []
  · subst h0
    have hsrc : Src Tryd.prog i0.size TS (.slice xa 0 c) 0 [] w := by
      cases xa with
      | none => exact Src.ofNil w hT.und c
      | some b => exact Src.ofSlice w hT.und b 0 c [] (by simp) (fun j u hj => by simp at hj) (fun u hu => by cases hu)
    have hrun := run_append_nothing (P := Tryd.prog) w TS TS o.type T i0 hT.und hi0 (some base) 0 0 (Nat.le_refl _) _ hsrc
    have hres := hK _ w (.inl ⟨rfl, base, rfl⟩) (Turn.refl _ _)
    simp only [List.length_nil] at hx
    unfold Oper.wp
    simp [execOp, hop, resolve, invoke, builtin, hs, hx, hrun, Result.andThen]
    exact hres
  · obtain ⟨b, off, rfl, hb, hat⟩ := hc.resolve_left h0
    have hpos : 0 < l.length := List.length_pos_iff.2 h0
    obtain ⟨v', w', hrun, a1, a2⟩ := run_append_arg_grows (P := Tryd.prog) w TS o.type T i0 (.agg #[.int .i64 0, .int .i64 0]) 2 16 hT.und hi0 hz0 hz1 hz2 rfl (by decide) base 0 0 [] (by simp) (fun j u hj => by simp at hj) ⟨b, off, none⟩ l.length c (prCells l) (prCells_len l) hat.cell (by omega) (by unfold maxLen; omega) (by omega)
    have hres : K (a.put o.dst v') w' := by
      refine hK v' w' (.inr ?_) ⟨a2.os, a2.tape, a2.output, a2.size, fun k hk _ => a2.block k hk (by simp)⟩
      obtain ⟨hl', ⟨_, h00⟩ | ⟨g', cap', cur', rfl, hb', hgg, hcc, r⟩⟩ := a1
      · omega
      · simp only [Nat.zero_add, List.nil_append] at *
        exact ⟨g', cap', rfl, ⟨hl', .inr ⟨g', cap', cur', rfl, Nat.zero_le _, hgg, hcc, r⟩⟩, hb', (Array.getElem?_eq_some_iff.1 hgg).1, hcc⟩
    unfold Oper.wp
    simp [execOp, hop, resolve, invoke, builtin, hs, hx, hrun, Result.andThen]
    exact hres
theorem step_append_more {TS T : TypeId} (hT : PairT TS T) {ops : Array Oper} {o : Oper} {a : Act} {w : World} {K : Act → World → Prop} {Q : Exit → Act → World → Prop} {E : Prop}
    (hg : o.guard = none) (s x : Operand) (hop : o.op = Op.call { callee := Callee.builtin Builtin.append, args := #[s, x], argTypes := #[TS, TS] })
    (v : Value) (l : List (Int × Int)) (hs : a.eval s = v) (B : Nat) (hi : GrownRow T B w v l) (hB : B ≤ w.heap.size) (b c : Nat) (y : Int × Int) (hx : a.eval x = .slice (some ⟨b, 0, none⟩) 1 c) (hc : AsksAt w b 0 [y]) (hl : l.length ≤ 1000000)
    (hK : ∀ g cap w', PairsAt T w' (.slice (some ⟨g, 0, none⟩) (l.length + 1) cap) (l ++ [y]) → Turn (fun j => B ≤ j) w w' → B ≤ g → K (a.put o.dst (.slice (some ⟨g, 0, none⟩) (l.length + 1) cap)) w') :
    if Region.wanted o (yielded ops a.tmps) = true then Oper.wp Tryd.prog o a w K Q else E := by
  have hw : Region.wanted o (yielded ops a.tmps) = true := by simp [Region.wanted, hg]
  rw [if_pos hw]
  obtain ⟨i0, hi0, hz0, hz1, hz2⟩ := info_split hT.info
  rcases hi with ⟨rfl, base, rfl⟩ | ⟨g, cap, rfl, h1, h2, h3, h4⟩
  · obtain ⟨v', w', hrun, a1, a2⟩ := run_append_arg_grows (P := Tryd.prog) w TS o.type T i0 (.agg #[.int .i64 0, .int .i64 0]) 2 16 hT.und hi0 hz0 hz1 hz2 rfl (by decide) base 0 0 [] (by simp) (fun j u hj => by simp at hj) ⟨b, 0, none⟩ 1 c (prCells [y]) (prCells_len [y]) hc.cell (by decide) (by unfold maxLen; omega) (by omega)
    have hres : K (a.put o.dst v') w' := by
      obtain ⟨hl', ⟨_, h00⟩ | ⟨g', cap', cur', rfl, hb', r⟩⟩ := a1
      · omega
      · exact hK g' cap' w' (PairsAt.of_row (l := []) (m := [y]) ⟨hl', .inr ⟨g', cap', cur', rfl, Nat.zero_le _, r⟩⟩ rfl) ⟨a2.os, a2.tape, a2.output, a2.size, fun k hk _ => a2.block k hk (by simp)⟩ (by omega)
    unfold Oper.wp
    simp [execOp, hop, resolve, invoke, builtin, hs, hx, hrun, Result.andThen]
    exact hres
  · refine wp_append_at hg s x TS hop T i0 (.agg #[.int .i64 0, .int .i64 0]) 2 16 hT.und hi0 hz0 hz1 hz2 rfl (by decide) _ l.length _ hs h1 ⟨b, 0, none⟩ 1 c (prCells [y]) hx (prCells_len [y]) hc.cell (prCells_one [y]) (.inl (by decide)) (by unfold maxLen; omega) (by omega) ?_
    intro g' cap' w' r1 r2 r3
    refine hK g' cap' w' (PairsAt.of_row (m := [y]) r1 rfl) (r2.mono fun k _ e => ?_) ?_
    · simp only [Value.ownBlock, Option.some.injEq] at e; omega
    · rcases r3 with e | e
      · simp only [Value.ownBlock, Option.some.injEq] at e; omega
      · omega

/-- How much there is then, and what is told: the error, and its place. -/
def chgU (m u : Nat → Int) (xs : List (Int × Int)) : Nat → Int := match chg m u xs 0 with | .inr v => v | .inl _ => u
def chgE (m u : Nat → Int) (xs : List (Int × Int)) : Int := match chg m u xs 0 with | .inr _ => 0 | .inl r => r.1
def chgP (m u : Nat → Int) (xs : List (Int × Int)) : Int := match chg m u xs 0 with | .inr _ => -1 | .inl r => (r.2 : Int)
/-- An error, and its place, as a value; what it lies in is not below B. -/
def ErrIs (B : Nat) (w : World) (v : Value) (z p : Int) : Prop :=
  (v = .nilIface ∧ z = 0 ∧ p = -1) ∨ ∃ b, v = .iface 106 (.pointer (some ⟨b, 0, none⟩)) ∧ B ≤ b ∧ w.cell? ⟨b, 0, none⟩ = some (.int .i64 z) ∧ w.cell? ⟨b, 1, none⟩ = some (.int .i64 p)
theorem ErrIs.turned {B : Nat} {S : Nat → Prop} {w w' : World} {v : Value} {z p : Int} (h : ErrIs B w v z p) (t : Turn S w w') (hn : ∀ k, B ≤ k → k < w.heap.size → ¬ S k) : ErrIs B w' v z p := by
  rcases h with h | ⟨b, h1, h2, h3, h4⟩
  · exact .inl h
  · have hb := lt_of_cell h3
    exact .inr ⟨b, h1, h2, (t.cell (a := ⟨b, 0, none⟩) hb (hn b h2 hb)).trans h3, (t.cell (a := ⟨b, 1, none⟩) hb (hn b h2 hb)).trans h4⟩
theorem ErrIs.low {B B' : Nat} {w : World} {v : Value} {z p : Int} (h : ErrIs B w v z p) (hB : B' ≤ B) : ErrIs B' w v z p := by
  rcases h with h | ⟨b, h1, h2, h3, h4⟩
  · exact .inl h
  · exact .inr ⟨b, h1, Nat.le_trans hB h2, h3, h4⟩
theorem is_all {B : Nat} {w : World} {v : Value} {z p : Int} (h : ErrIs B w v z p) (hg : Laid w) : Calls Tryd.prog 30 #[v, .agg #[.int .i64 z, .int .i64 p]] w fun e w' => e = .returned (.bool true) ∧ Turn (fun _ => False) w w' := by
  rcases h with ⟨rfl, rfl, rfl⟩ | ⟨b, rfl, _, h3, h4⟩
  · exact is_nil w
  · exact is_at z p b w hg h3 h4
theorem charge_all {w : World} {p : Nat} {u m : Nat → Int} (h : LedgerIs w p u m) (hf : Fit u m) (a : Option Addr) (xs : List (Int × Int)) (cap : Nat) (hl : xs.length ≤ 1000000)
    (hc : xs ≠ [] → ∃ b off, a = some ⟨b, off, none⟩ ∧ AsksAt w b off xs ∧ b < w.heap.size) :
    Calls Tryd.prog 21 #[.pointer (some ⟨p, 0, none⟩), .slice a xs.length cap] w fun e w' => ∃ v, e = .returned v ∧ ErrIs w.heap.size w' v (chgE m u xs) (chgP m u xs) ∧ LedgerIs w' p (chgU m u xs) m ∧ Fit (chgU m u xs) m ∧ Turn (fun j => j = p) w w' := by
  unfold chgE chgP chgU
  refine (charge_any h hf a xs cap hl hc).mono ?_
  rintro e w' (⟨v, hv, hf', rfl, hL, t⟩ | ⟨er, i, b, hv, _, rfl, c0, c1, hb, t⟩)
  · rw [hv]
    exact ⟨_, rfl, .inl ⟨rfl, rfl, rfl⟩, hL, hf', t⟩
  · rw [hv]
    exact ⟨_, rfl, .inr ⟨b, rfl, hb, c0, c1⟩, h.turned t id, hf, t.mono fun _ _ h => h.elim⟩
theorem refCharge_all {w : World} {q : Nat} {u m : Nat → Int} (h : LedgerIs w q u m) (hfine : FineIs w) (hq : ¬ q = 0) (hf : Fit u m) (a : Option Addr) (xs : List (Int × Int)) (cap : Nat) (hl : xs.length ≤ 1000000)
    (hc : xs ≠ [] → ∃ b off, a = some ⟨b, off, none⟩ ∧ AsksAt w b off xs ∧ b < w.heap.size) :
    Calls Tryd.prog 31 #[.pointer (some ⟨q, 0, none⟩), .slice a xs.length cap] w fun e w' => e = .returned (.agg #[.int .i64 (chgE m u xs), .int .i64 (chgP m u xs)]) ∧ LedgerIs w' q (chgU m u xs) m ∧ Turn (fun j => j = q) w w' := by
  unfold chgE chgP chgU
  refine (refCharge_any h hfine hq hf a xs cap hl hc).mono ?_
  rintro e w' (⟨v, hv, _, rfl, hL, t⟩ | ⟨er, i, hv, rfl, t⟩)
  · rw [hv]
    exact ⟨rfl, hL, t⟩
  · rw [hv]
    exact ⟨rfl, h.turned t id, t.mono fun _ _ h => h.elim⟩
end Go.Proofs.YtiohpmcedfbcgaaDoor
