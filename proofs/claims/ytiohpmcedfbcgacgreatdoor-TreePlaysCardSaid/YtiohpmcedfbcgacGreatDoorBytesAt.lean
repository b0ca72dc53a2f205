/- Bytes in a block of their own: made of a string, one appended, a string copied in, read back as a string. No program in sight. Conditions: each theorem's own premises. -/
import Derived.Test.YtiohpmcedfbcgacGreatDoorRowV
import Derived.Deep.AppendSrc
import Derived.Laws.IdiomStrings
namespace Go.Proofs.YtiohpmcedfbcgacGreatDoor
open Go.RowKit
set_option linter.unusedVariables false

def byteV (x : UInt8) : Value := .int .u8 x.toNat
/-- The block g has cap cells that may be written, the first of them the bytes l. -/
structure BytesAt (w : World) (g cap : Nat) (l : List UInt8) : Prop where
  lt : g < w.heap.size
  cell : ∀ j x, l[j]? = some x → w.cell? ⟨g, j, none⟩ = some (byteV x)
  there : ∀ j, j < cap → (w.cell? ⟨g, j, none⟩).isSome = true
  free : ∀ j, j < cap → w.frozen? ⟨g, j, none⟩ = false
  le : l.length ≤ cap
section
variable {P : Program} {w w' : World} {g cap : Nat} {l : List UInt8} {S : Nat → Prop}
theorem BytesAt.turned (h : BytesAt w g cap l) (t : Turn S w w') (hn : ¬ S g) : BytesAt w' g cap l :=
  ⟨Nat.lt_of_lt_of_le h.lt t.size, fun j x hj => by rw [t.cell (a := ⟨g, j, none⟩) h.lt hn]; exact h.cell j x hj, fun j hj => by rw [t.cell (a := ⟨g, j, none⟩) h.lt hn]; exact h.there j hj, fun j hj => by rw [t.frozen (a := ⟨g, j, none⟩) h.lt hn]; exact h.free j hj, h.le⟩
theorem byteV_one (x : UInt8) : (byteV x).oneCell' = true := rfl
/-- '[]byte(s)'. -/
theorem bytes_of_string (w : World) (src dst e : TypeId) (s : ByteArray) (hs : P.underlying src = some .string) (hd : P.underlying dst = some (.slice e)) (he : P.underlying e = some (.int .u8)) :
    ∃ cap w', (convert src dst (.string s)).run P w = .ok (.slice (some ⟨w.heap.size, 0, none⟩) s.size cap) w' ∧ BytesAt w' w.heap.size cap s.data.toList ∧ Turn (fun _ => False) w w' ∧ w.heap.size < w'.heap.size := by
  refine ⟨_, _, run_bytes_of_string w src dst e s hs hd he, ?_, ((Turn.refl _ w).drew).alloc _, by simp⟩
  have hge := grownCap_ge w s.size 0 e
  generalize grownCap w s.size 0 e = c at *
  have hsz : (bytesRow s c).size = c := by
    unfold bytesRow
    rw [Array.size_append, Array.size_map, Array.size_replicate]
    show s.size + (c - s.size) = c
    omega
  have hc : ∀ j, (w.drew.alloc (.cells (bytesRow s c) e ((bytesRow s c).size, (bytesRow s c).size + 1))).cell? ⟨w.heap.size, j, none⟩ = (bytesRow s c)[j]? := fun j => World.cell?_alloc_mark w.drew _ e _ j
  refine ⟨by simp, fun j x hj => ?_, fun j hj => ?_, fun j hj => ?_, hge⟩
  · rw [hc]
    obtain ⟨hj1, hj2⟩ := List.getElem?_eq_some_iff.1 hj
    have hj3 : j < s.data.size := by simpa using hj1
    rw [bytesRow_at s c j hj3, ← hj2]
    rfl
  · rw [hc, Array.getElem?_eq_getElem (by rw [hsz]; exact hj)]; rfl
  · have := World.frozen?_alloc_mark w.drew (bytesRow s c) e (bytesRow s c).size ((bytesRow s c).size + 1) j
    rw [show (⟨w.heap.size, j, none⟩ : Addr) = ⟨w.drew.heap.size, j, none⟩ from rfl, this]
    simp only [hsz]
    rw [decide_eq_false (by omega)]
    rfl
/-- 'string(b)'. -/
theorem bytes_back (h : BytesAt w g cap l) (src dst e : TypeId) (c : Nat) (hs : P.underlying src = some (.slice e)) (he : P.underlying e = some (.int .u8)) (hd : P.underlying dst = some .string) :
    (convert src dst (.slice (some ⟨g, 0, none⟩) l.length c)).run P w = .ok (.string ⟨l.toArray⟩) w :=
  run_convert_bytes_back w src dst e ⟨g, 0, none⟩ c l hs he hd (fun j hj => by rw [Addr.add_lit, Nat.zero_add]; exact h.cell j l[j] (List.getElem?_eq_getElem hj))
/-- 'append(b, x)'. -/
theorem wpList_append_byte {ops : Array Oper} {rest : List Oper} {o : Oper} {a : Act} {Q : Exit → Act → World → Prop} {e t : TypeId} {bytes : Nat} {z : Value}
    (hg : o.guard = none) (s x : Operand) (hop : o.op = Op.call { callee := Callee.builtin Builtin.append, args := #[s, x], argTypes := #[t, t] }) (hT : P.underlying t = some (.slice e)) (hI : (P.info? e).map (fun i => (i.zero, i.size, i.bytes)) = some (some z, 1, bytes)) (hz : z.cells.size = 1) (hb : bytes ≤ 16)
    (g cap : Nat) (l : List UInt8) (hs : a.eval s = .slice (some ⟨g, 0, none⟩) l.length cap) (hi : BytesAt w g cap l) (b0 c : Nat) (y : UInt8) (hx : a.eval x = .slice (some ⟨b0, 0, none⟩) 1 c) (hc : w.cell? ⟨b0, 0, none⟩ = some (byteV y)) (hl : l.length ≤ 1000000)
    (hK : ∀ g' cap' w', BytesAt w' g' cap' (l ++ [y]) → Turn (fun j => j = g) w w' → (g' = g ∨ w.heap.size ≤ g') → wpList P ops Q rest (a.put o.dst (.slice (some ⟨g', 0, none⟩) (l.length + 1) cap')) w') :
    wpList P ops Q (o :: rest) a w := by
  obtain ⟨i0, hi0, hz0, hz1, hz2⟩ := info_split hI
  refine wpList_append_arg w hg s x t hop e i0 z 1 bytes hT hi0 hz0 hz1 hz2 hz (by decide) g 0 l.length cap (l.map byteV) hs (by simp) ?olds ⟨b0, 0, none⟩ 1 c [byteV y] hx rfl ?c1 ?c2 ?spare (by unfold maxLen; omega) (by
    have h2 : (l.length + 1) * bytes ≤ 1000001 * 16 := Nat.mul_le_mul (by omega) hb
    omega) ?room ?grow
  case olds =>
    intro j u hj
    rw [List.getElem?_map, Option.map_eq_some_iff] at hj
    obtain ⟨b, hb1, rfl⟩ := hj
    rw [Nat.zero_add]
    exact hi.cell j b hb1
  case c1 =>
    intro j u hj
    rw [Addr.add_mid]
    cases j with
    | zero => simp at hj; subst hj; exact hc
    | succ j => simp at hj
  case c2 => intro u hu; simp at hu; subst hu; rfl
  case spare =>
    intro hr j hj
    simp at hj; subst hj
    exact ⟨by simpa using hi.there l.length (by omega), by simpa using hi.free l.length (by omega)⟩
  case room =>
    intro hr
    refine hK g cap _ ?_ ((Turn.refl _ w).setCells _ _ _ (fun _ => rfl)) (.inl rfl)
    have hth : ∀ j, j < [byteV y].length → (w.cell? ⟨g, 0 + l.length * 1 + j, none⟩).isSome = true := fun j hj => by
      simp at hj; subst hj; simpa using hi.there l.length (by omega)
    refine ⟨Nat.lt_of_lt_of_le hi.lt ((Turn.refl (fun _ => True) w).setCells g [byteV y] _ (fun _ => trivial)).size, fun j b hj => ?_, fun j hj => ?_, fun j hj => by rw [World.frozen?_setCells]; exact hi.free j hj, by simpa using hr⟩
    · by_cases hjl : j < l.length
      · rw [World.cell?_setCells_out g _ _ w ⟨g, j, none⟩ (fun _ _ => .inl (by show j < 0 + l.length * 1; omega))]
        rw [List.getElem?_append_left hjl] at hj
        exact hi.cell j b hj
      · rw [List.getElem?_append_right (by omega)] at hj
        have hj0 : j = l.length := by have := (List.getElem?_eq_some_iff.1 hj).1; simp at this; omega
        subst hj0
        simp at hj; subst hj
        have := World.cell?_setCells_in g [byteV y] (0 + l.length * 1) w hth 0 (by simp)
        simpa using this
    · exact World.isSome_setCells g _ _ w _ (hi.there j hj)
  case grow =>
    intro hr v' w1 hown hgr
    obtain ⟨hlen, h0 | ⟨g', cap', cur, rfl, hb', hgg, hnc, hcm, hcs, htk⟩⟩ := hown
    · omega
    · have ho : w1.ownsRow w.heap.size e 1 (.slice (some ⟨g', 0, none⟩) (l.length + 1) cap') (l.length + 1) (l.map byteV ++ [byteV y]) := ⟨hlen, .inr ⟨g', cap', cur, rfl, hb', hgg, hnc, hcm, hcs, htk⟩⟩
      refine hK g' cap' w1 ?_ ⟨hgr.os, hgr.tape, hgr.output, hgr.size, fun k hk _ => hgr.block k hk (by simp)⟩ (.inr hb')
      refine ⟨(Array.getElem?_eq_some_iff.1 hgg).1, fun j b hj => ?_, fun j hj => ?_, fun j hj => World.ownsRow.frozenAt ho j, by simpa using hnc⟩
      · have hjl := (List.getElem?_eq_some_iff.1 hj).1
        rw [World.ownsRow.cellAt ho j (by simpa using hjl)]
        rw [← List.map_singleton, ← List.map_append, List.getElem?_map, hj]; rfl
      · have hc1 : j < cur.size := by rw [hcs]; omega
        simp [World.cell?, hgg, hc1]
/-- 'copy(b[off:], s)'. -/
theorem run_copy_string (w : World) (dT sT ty e : TypeId) (hu : P.underlying dT = some (.slice e)) (hsz : (P.info? e).map (·.size) = some 1) (off dLen dCap : Nat) (s : ByteArray) (hn : s.size ≤ dLen) (h : BytesAt w g cap l) (hfit : off + s.size ≤ l.length) :
    (Builtin.copy_ #[dT, sT] ty #[.slice (some ⟨g, off, none⟩) dLen dCap, .string s]).run P w = .ok (.int .i64 (s.size : Int)) (w.setCells g off (byteCells s)) := by
  have hle := h.le
  have hst := run_storeCells_cells (P := P) g off (byteCells s) 0 w (fun j hj => by rw [byteCells_length] at hj; exact h.there _ (by omega)) (fun j hj => by rw [byteCells_length] at hj; exact h.free _ (by omega)) (fun u hu => by
    obtain ⟨_, _, rfl⟩ := List.mem_map.1 hu
    rfl)
  have hf := firstCells_string (P := P) s w
  simp only [Nat.add_zero] at hst
  have hmin : Nat.min s.size dLen = s.size := Nat.min_eq_left hn
  cases hq : P.info? e with
  | none => simp [hq] at hsz
  | some i =>
    have hi : i.size = 1 := by simpa [hq] using hsz
    simp [Builtin.copy_, run_underlying hu, Builtin.lenOf, sizeOf, typeInfo, hq, hi, hmin, hf, hst, goInt]
theorem BytesAt.copied (h : BytesAt w g cap l) (off : Nat) (s : ByteArray) (hfit : off + s.size ≤ l.length) : BytesAt (w.setCells g off (byteCells s)) g cap (l.take off ++ s.data.toList ++ l.drop (off + s.size)) := by
  have hle := h.le
  have hlen : (l.take off ++ s.data.toList ++ l.drop (off + s.size)).length = l.length := by
    have : s.data.toList.length = s.size := by simp
    simp only [List.length_append, List.length_take, List.length_drop, this]; omega
  have hth : ∀ j, j < (byteCells s).length → (w.cell? ⟨g, off + j, none⟩).isSome = true := fun j hj => by rw [byteCells_length] at hj; exact h.there _ (by omega)
  refine ⟨Nat.lt_of_lt_of_le h.lt ((Turn.refl (fun _ => True) w).setCells g (byteCells s) _ (fun _ => trivial)).size, fun j b hj => ?_, fun j hj => World.isSome_setCells g _ _ w _ (h.there j hj), fun j hj => by rw [World.frozen?_setCells]; exact h.free j hj, by rw [hlen]; exact h.le⟩
  have hsl : s.data.toList.length = s.size := by simp
  have htl : (l.take off).length = off := by rw [List.length_take]; omega
  by_cases h1 : j < off
  · rw [World.cell?_setCells_out g _ _ w ⟨g, j, none⟩ (fun _ _ => .inl h1)]
    rw [List.append_assoc, List.getElem?_append_left (by omega), List.getElem?_take_of_lt h1] at hj
    exact h.cell j b hj
  · by_cases h2 : j < off + s.size
    · have hk : j - off < (byteCells s).length := by rw [byteCells_length]; omega
      have := World.cell?_setCells_in g (byteCells s) off w hth (j - off) hk
      rw [show off + (j - off) = j by omega] at this
      rw [this]
      rw [List.getElem?_append_left (by rw [List.length_append, htl, hsl]; omega), List.getElem?_append_right (by omega), htl] at hj
      obtain ⟨q1, q2⟩ := List.getElem?_eq_some_iff.1 hj
      refine congrArg some ?_
      have e2 : (byteCells s)[j - off]? = some (byteV b) := by
        unfold byteCells
        rw [List.getElem?_map, List.getElem?_eq_getElem q1, q2]; rfl
      exact (List.getElem?_eq_some_iff.1 e2).2
    · rw [World.cell?_setCells_out g _ _ w ⟨g, j, none⟩ (fun _ _ => .inr (by rw [byteCells_length]; show off + s.size ≤ j; omega))]
      rw [List.getElem?_append_right (by rw [List.length_append, htl, hsl]; omega), List.length_append, htl, hsl, List.getElem?_drop, show off + s.size + (j - (off + s.size)) = j by omega] at hj
      exact h.cell j b hj
end
end Go.Proofs.YtiohpmcedfbcgacGreatDoor
