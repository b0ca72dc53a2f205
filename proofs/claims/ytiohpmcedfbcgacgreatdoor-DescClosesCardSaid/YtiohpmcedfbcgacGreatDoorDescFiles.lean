/- Several texts of ours in one, in build order (DescFiles, DescPut, DescSeek, DescFork, DescClose, DescMark). Conditions: each theorem's own premises. -/
import Derived.Test.YtiohpmcedfbcgacGreatDoorDescTab
import Derived.Test.YtiohpmcedfbcgacGreatDoorTreeHold
import Derived.Test.YtiohpmcedfbcgacGreatDoorPipe
/- Package desc: what is open, in memory and plain; get, Has, Open, Mark, Seek. Conditions: each theorem's own premises. -/
namespace Go.Proofs.YtiohpmcedfbcgacGreatDoor
open Go.RowKit
set_option linter.unusedVariables false

/-- What is open: its kind (1 a file, 2 and 3 a pipe's ends), its uses, its node, its pipe, its place, by how many numbers. -/
structure PE where
  kind : Int
  prot : Int
  node : Int
  pid : Nat
  at' : Int
  refs : Nat
structure PP where
  b : ByteArray
  e0 : Int
  e1 : Int
structure PS where
  T : PT
  es : List (Int × PE)
  ps : List PP
def pipeV (P : Nat → Nat) (e : PE) : Value := if e.kind = 1 then .pointer none else ptrV (P e.pid)
structure EntAt (w : World) (b : Nat) (P : Nat → Nat) (e : PE) : Prop where
  c0 : w.cell? ⟨b, 0, none⟩ = some (.int .i64 e.kind)
  c1 : w.cell? ⟨b, 1, none⟩ = some (.int .i64 e.prot)
  c2 : w.cell? ⟨b, 2, none⟩ = some (.int .i64 e.node)
  c3 : w.cell? ⟨b, 3, none⟩ = some (pipeV P e)
  c4 : w.cell? ⟨b, 4, none⟩ = some (.int .i64 e.at')
  c5 : w.cell? ⟨b, 5, none⟩ = some (.int .i64 (e.refs : Int))
  fz : ∀ i, w.frozen? ⟨b, i, none⟩ = false
def keysE (B : Int → Nat) (es : List (Int × PE)) : List (Int × Nat) := es.map fun t => (t.1, B t.1)
/-- How many entries are of a node. -/
def heldE (n : Int) (es : List (Int × PE)) : Nat := (es.filter fun t => decide (t.2.kind = 1 ∧ t.2.node = n)).length
/-- An entry as it may be. -/
def EOk (S : PS) (e : PE) : Prop :=
  (1 ≤ e.refs ∧ e.refs ≤ 1000000 ∧ 0 ≤ e.at' ∧ e.at' ≤ 200) ∧
  ((e.kind = 1 ∧ 1 ≤ e.prot ∧ e.prot ≤ 3 ∧ ∃ p, mget S.T e.node = some p ∧ p.isDir = false) ∨
   (e.kind = 2 ∧ e.prot = 1 ∧ ∃ q, S.ps[e.pid]? = some q ∧ q.e0 = 1) ∨ (e.kind = 3 ∧ e.prot = 2 ∧ ∃ q, S.ps[e.pid]? = some q ∧ q.e1 = 1))
structure DOk (S : PS) : Prop where
  nd : MNodup S.es
  keys : ∀ k e, mget S.es k = some e → 0 ≤ k ∧ k < 40
  ent : ∀ k e, mget S.es k = some e → EOk S e
  size : S.es.length ≤ 40
  one : ∀ k j e f, mget S.es k = some e → mget S.es j = some f → e.kind ≠ 1 → e.kind = f.kind → e.pid = f.pid → k = j
  pipes : ∀ (i : Nat) (q : PP), S.ps[i]? = some q → q.b.size ≤ 16 ∧ (q.e0 = 0 ∨ q.e0 = 1) ∧ (q.e1 = 0 ∨ q.e1 = 1)
  held : ∀ n p, mget S.T n = some p → p.held = heldE n S.es
/-- Blocks bear marks: (1,0) the header, (2,0) the map, (3,k) an entry, (4,i) a pipe, (5,0) the tree; (0,0): none of these. -/
structure FilesIn (w : World) (fb tb om : Nat) (S : PS) (B : Int → Nat) (P : Nat → Nat) (Ft : Nat → Prop) (C : Nat → Nat × Int) : Prop where
  h0 : w.cell? ⟨fb, 0, none⟩ = some (.pointer (some ⟨tb, 0, none⟩))
  h1 : w.cell? ⟨fb, 1, none⟩ = some (.map (some om))
  tr : TreeIs w tb S.T Ft
  mp : MapIs w om (.int .i64) encI ptrV (keysE B S.es)
  en : ∀ k e, mget S.es k = some e → EntAt w (B k) P e
  pp : ∀ (i : Nat) (q : PP), S.ps[i]? = some q → PipeIs w (P i) q.b q.e0 q.e1
  cf : C fb = (1, 0)
  cm : C om = (2, 0)
  ce : ∀ k e, mget S.es k = some e → C (B k) = (3, k)
  cp : ∀ (i : Nat) (q : PP), S.ps[i]? = some q → C (P i) = (4, (i : Int))
  ct : ∀ k, Ft k → C k = (5, 0)
  low : ∀ k, C k ≠ (0, 0) → k < w.heap.size
def CFoot (C : Nat → Nat × Int) (k : Nat) : Prop := C k ≠ (0, 0)
/-- Files in block fb over a tree in block tb, on the blocks F. -/
def FilesIs (w : World) (fb tb : Nat) (S : PS) (F : Nat → Prop) : Prop := ∃ om B P Ft C, FilesIn w fb tb om S B P Ft C ∧ F = CFoot C
theorem keysE_get (B : Int → Nat) : ∀ (es : List (Int × PE)) (n : Int), mget (keysE B es) n = (mget es n).map fun _ => B n := by
  intro T n
  unfold mget keysE
  induction T with
  | nil => rfl
  | cons t T ih =>
    rw [List.map_cons, List.find?_cons, List.find?_cons]
    by_cases e : t.1 = n
    · simp only [e, decide_true]; rfl
    · simp only [e, decide_false]; exact ih
section
variable {w w' : World} {fb tb om b tab : Nat} {S S' : PS} {B : Int → Nat} {P : Nat → Nat} {Ft F : Nat → Prop} {C : Nat → Nat × Int} {e e' : PE} {k n : Int} {L : PTab}
theorem EntAt.lt (h : EntAt w b P e) : b < w.heap.size := lt_of_cell h.c0
theorem EntAt.turned {S : Nat → Prop} (h : EntAt w b P e) (t : Turn S w w') (hb : ¬ S b) : EntAt w' b P e :=
  ⟨(t.cell (a := ⟨b, 0, none⟩) h.lt hb).trans h.c0, (t.cell (a := ⟨b, 1, none⟩) h.lt hb).trans h.c1, (t.cell (a := ⟨b, 2, none⟩) h.lt hb).trans h.c2, (t.cell (a := ⟨b, 3, none⟩) h.lt hb).trans h.c3, (t.cell (a := ⟨b, 4, none⟩) h.lt hb).trans h.c4, (t.cell (a := ⟨b, 5, none⟩) h.lt hb).trans h.c5, fun i => (t.frozen (a := ⟨b, i, none⟩) h.lt hb).trans (h.fz i)⟩
theorem FilesIn.turned {X : Nat → Prop} (h : FilesIn w fb tb om S B P Ft C) (t : Turn X w w') (hn : ∀ k, C k ≠ (0, 0) → ¬ X k) : FilesIn w' fb tb om S B P Ft C :=
  { h with
    h0 := (t.cell (a := ⟨fb, 0, none⟩) (lt_of_cell h.h0) (hn fb (by rw [h.cf]; simp))).trans h.h0
    h1 := (t.cell (a := ⟨fb, 1, none⟩) (lt_of_cell h.h1) (hn fb (by rw [h.cf]; simp))).trans h.h1
    tr := h.tr.turned t (fun k hk => hn k (by rw [h.ct k hk]; simp))
    mp := h.mp.turned t (hn om (by rw [h.cm]; simp))
    en := fun k e he => (h.en k e he).turned t (hn _ (by rw [h.ce k e he]; simp))
    pp := fun i q hq => (h.pp i q hq).turned t (hn _ (by rw [h.cp i q hq]; simp))
    low := fun k hk => Nat.lt_of_lt_of_le (h.low k hk) t.size }
theorem FilesIs.turned {X : Nat → Prop} (h : FilesIs w fb tb S F) (t : Turn X w w') (hn : ∀ k, F k → ¬ X k) : FilesIs w' fb tb S F := by
  obtain ⟨om, B, P, Ft, C, h1, rfl⟩ := h
  exact ⟨om, B, P, Ft, C, h1.turned t hn, rfl⟩
theorem FilesIs.low (h : FilesIs w fb tb S F) (k : Nat) (hk : F k) : k < w.heap.size := by
  obtain ⟨om, B, P, Ft, C, h1, rfl⟩ := h
  exact h1.low k hk
/-- The table's numbers lead to what is open. -/
def TabOk (S : PS) (L : PTab) : Prop := ∀ i, i < 8 → (L i).1 = 0 ∨ ∃ e, mget S.es ((L i).1 - 1) = some e
/-- The key of a number's entry. -/
def slotL (L : PTab) (n : Int) : Option Int := if 0 ≤ n ∧ n < 8 ∧ (L n.toNat).1 ≠ 0 then some ((L n.toNat).1 - 1) else none
def getE (L : PTab) (n : Int) : Int := (slotL L n).elim 7 fun _ => 0
def getV (B : Int → Nat) (L : PTab) (n : Int) : Value := (slotL L n).elim (.pointer none) fun k => ptrV (B k)
theorem slotL_some (h : slotL L n = some k) : 0 ≤ n ∧ n < 8 ∧ (L n.toNat).1 ≠ 0 ∧ (L n.toNat).1 - 1 = k := by
  unfold slotL at h
  split at h
  · rename_i h1
    exact ⟨h1.1, h1.2.1, h1.2.2, Option.some.inj h⟩
  · cases h
theorem TabOk.there (h : TabOk S L) (hs : slotL L n = some k) : ∃ e, mget S.es k = some e := by
  obtain ⟨h1, h2, h3, h4⟩ := slotL_some hs
  rcases h n.toNat (by omega) with h5 | ⟨e, he⟩
  · exact absurd h5 h3
  · exact ⟨e, by rw [← h4]; exact he⟩
theorem zeroEnt (w : World) : (zeroValue 207).run Tryz.prog w = .ok (.pointer none) w := by kernel_rfl
theorem FilesIn.look (h : FilesIn w fb tb om S B P Ft C) (he : mget S.es k = some e) : (Instr.lookup 201 (.map (some om)) (.int .i64 k) false).run Tryz.prog w = .ok (.pointer (some ⟨B k, 0, none⟩)) w := by
  have h1 := h.mp.run_lookup keyI Tryz.underlying201 Tryz.underlying3 (zeroEnt w) k false
  refine h1.trans ?_
  rw [keysE_get, he]
  rfl
theorem FilesIn.looknone (h : FilesIn w fb tb om S B P Ft C) (he : mget S.es k = none) : (Instr.lookup 201 (.map (some om)) (.int .i64 k) false).run Tryz.prog w = .ok (.pointer none) w := by
  have h1 := h.mp.run_lookup keyI Tryz.underlying201 Tryz.underlying3 (zeroEnt w) k false
  refine h1.trans ?_
  rw [keysE_get, he]
  rfl
set_option maxHeartbeats 1000000 in
set_option maxRecDepth 100000 in
theorem get_is (h : FilesIn w fb tb om S B P Ft C) (ht : TabIs w tab L) (hok : TabOk S L) (n : Int) :
    Calls Tryz.prog 222 #[.pointer (some ⟨fb, 0, none⟩), .pointer (some ⟨tab, 0, none⟩), .int .i64 n] w fun e w' => e = .returned (.tuple #[getV B L n, TErr (getE L n)]) ∧ Turn (fun _ => False) w w' := by
  by_cases h1 : 0 ≤ n ∧ n < 8
  · obtain ⟨h1, h2⟩ := h1
    have hn8 : n.toNat < 8 := by omega
    have c1 := ht.ent n.toNat hn8
    have hp := ht.pos n.toNat hn8
    by_cases hz : (L n.toNat).1 = 0
    · have e1 : slotL L n = none := if_neg (fun x => x.2.2 hz)
      have e2 : getV B L n = .pointer none := by unfold getV; rw [e1]; rfl
      have e3 : TErr (getE L n) = .iface 45 (.int .i64 7) := by unfold getE; rw [e1]; rfl
      rw [e2, e3]
      rw [hz] at c1
      clear h ht hok e1 e2 e3 hp hn8
      go_enter Tryz.func222, Tryz.ntmps222
      go_wp2_with fail
      go_ret2
      exact ⟨rfl, Turn.refl _ _⟩
    · have e1 : slotL L n = some ((L n.toNat).1 - 1) := if_pos ⟨h1, h2, hz⟩
      have e2 : getV B L n = ptrV (B ((L n.toNat).1 - 1)) := by unfold getV; rw [e1]; rfl
      have e3 : TErr (getE L n) = .nilIface := by unfold getE; rw [e1]; rfl
      obtain ⟨e, he⟩ := hok.there e1
      have lk := (h.turned (X := fun _ => False) (Turn.refl _ w).drew (fun _ _ => id)).look he
      have hh := h.h1
      rw [e2, e3]
      have hzb : ((L n.toNat).1 == 0) = false := by simpa using hz
      have hw : IntKind.i64.wrap ((L n.toNat).1 - 1) = (L n.toNat).1 - 1 := IntWalk.i64_in _ (by omega)
      clear h ht hok e1 e2 e3 he hn8
      go_enter Tryz.func222, Tryz.ntmps222
      go_wp2_with fail
      go_region
      all_goals go_wp2_with fail
      all_goals go_ret2
      all_goals exact ⟨rfl, (Turn.refl _ _).drew⟩
  · have e1 : slotL L n = none := if_neg (fun x => h1 ⟨x.1, x.2.1⟩)
    have e2 : getV B L n = .pointer none := by unfold getV; rw [e1]; rfl
    have e3 : TErr (getE L n) = .iface 45 (.int .i64 7) := by unfold getE; rw [e1]; rfl
    rw [e2, e3]
    clear h ht hok e1 e2 e3
    by_cases hn : n < 0
    · clear h1
      go_enter Tryz.func222, Tryz.ntmps222
      go_wp2_with fail
      go_ret2
      exact ⟨rfl, Turn.refl _ _⟩
    · have h2 : 8 ≤ n := by omega
      clear h1
      go_enter Tryz.func222, Tryz.ntmps222
      go_wp2_with fail
      go_ret2
      exact ⟨rfl, Turn.refl _ _⟩
/-! ### Has, Open -/
theorem has_is (h : FilesIn w fb tb om S B P Ft C) (ht : TabIs w tab L) (hok : TabOk S L) (n : Int) :
    Calls Tryz.prog 236 #[.pointer (some ⟨fb, 0, none⟩), .pointer (some ⟨tab, 0, none⟩), .int .i64 n] w fun e w' => e = .returned (.bool (slotL L n).isSome) ∧ Turn (fun _ => False) w w' := by
  have HG := hid (get_is h ht hok n)
  clear h ht hok
  go_enter Tryz.func236, Tryz.ntmps236
  cases hs : slotL L n with
  | none =>
    have e2 : getV B L n = .pointer none := by unfold getV; rw [hs]; rfl
    have e3 : TErr (getE L n) = .iface 45 (.int .i64 7) := by unfold getE; rw [hs]; rfl
    rw [e2, e3] at HG
    clear hs e2 e3
    go_wp2_with (go_at_call 222; refine HG.out.mono ?_; rintro e w' ⟨rfl, ht'⟩)
    go_ret
    exact ⟨rfl, ht'⟩
  | some k =>
    have e2 : getV B L n = ptrV (B k) := by unfold getV; rw [hs]; rfl
    have e3 : TErr (getE L n) = .nilIface := by unfold getE; rw [hs]; rfl
    rw [e2, e3] at HG
    clear hs e2 e3
    go_wp2_with (go_at_call 222; refine HG.out.mono ?_; rintro e w' ⟨rfl, ht'⟩)
    go_ret
    exact ⟨rfl, ht'⟩
theorem open_is (h : FilesIn w fb tb om S B P Ft C) :
    Calls Tryz.prog 42 #[.pointer (some ⟨fb, 0, none⟩)] w fun e w' => e = .returned (.int .i64 (S.es.length : Int)) ∧ w' = w := by
  have hh := h.h1
  have hl := h.mp.run_len Tryz.underlying201 3
  rw [show (keysE B S.es).length = S.es.length from List.length_map ..] at hl
  clear h
  go_enter Tryz.func42, Tryz.ntmps42
  go_wp2_with fail
  go_ret
  exact ⟨rfl, rfl⟩
end
end Go.Proofs.YtiohpmcedfbcgacGreatDoor
/- Package desc: one entry's, one pipe's, one number's change in memory; Mark, Seek, Dup. Conditions: each theorem's own premises. -/
namespace Go.Proofs.YtiohpmcedfbcgacGreatDoor
open Go.RowKit
set_option linter.unusedVariables false

/-- Behind a call: the files S', the table L'. -/
def FilesTo (fb tb tab : Nat) (F : Nat → Prop) (w w' : World) (S' : PS) (L' : PTab) : Prop :=
  ∃ F', FilesIs w' fb tb S' F' ∧ TabIs w' tab L' ∧ Turn (fun k => F k ∨ k = tab) w w' ∧ (∀ k, F' k → F k ∨ w.heap.size ≤ k) ∧ ¬ F' tab
section
variable {w w' w1 w2 : World} {fb tb om b tab : Nat} {S S' : PS} {B : Int → Nat} {P : Nat → Nat} {Ft F : Nat → Prop} {C : Nat → Nat × Int} {e e' : PE} {k n : Int} {L L' : PTab}
theorem FilesIn.is (h : FilesIn w fb tb om S B P Ft C) : FilesIs w fb tb S (CFoot C) := ⟨om, B, P, Ft, C, h, rfl⟩
theorem keysE_put (B : Int → Nat) (S : List (Int × PE)) (hn : mget S k = some e) : keysE B (mput S k e') = keysE B S := by
  unfold keysE mput
  rw [hn]
  simp only [Option.isSome_some, if_true]
  unfold mupd
  rw [List.map_map]
  refine List.map_congr_left fun t _ => ?_
  show ((if t.1 = k then (t.1, e') else t).1, B (if t.1 = k then (t.1, e') else t).1) = (t.1, B t.1)
  by_cases e : t.1 = k
  · rw [if_pos e]
  · rw [if_neg e]
theorem keysE_del (B : Int → Nat) (T : List (Int × PE)) (n : Int) : keysE B (mdel T n) = mdel (keysE B T) n := by
  unfold keysE mdel
  rw [List.filter_map]
  rfl
def putS (S : PS) (k : Int) (e : PE) : PS := { S with es := mput S.es k e }
def delS (S : PS) (k : Int) : PS := { S with es := mdel S.es k }
def treeS (S : PS) (T : PT) : PS := { S with T := T }
def pipeS (S : PS) (i : Nat) (q : PP) : PS := { S with ps := S.ps.set i q }
theorem mark_ne {a b : Nat × Int} {i j : Nat} (h1 : C i = a) (h2 : C j = b) (h : a ≠ b) : i ≠ j := fun e => h (by rw [← h1, ← h2, e])
/-- One entry changes where it lies. -/
theorem FilesIn.put (h : FilesIn w fb tb om S B P Ft C) (he : mget S.es k = some e) (nd : EntAt w' (B k) P e') (t : Turn (fun j => j = B k) w w') : FilesIn w' fb tb om (putS S k e') B P Ft C := by
  have hC := h.ce k e he
  have hget : ∀ m q, mget (mput S.es k e') m = some q → (m = k ∧ q = e') ∨ (m ≠ k ∧ mget S.es m = some q) := fun m q hq => by
    rw [mget_mput] at hq
    by_cases e : m = k
    · rw [if_pos e] at hq; cases hq; exact .inl ⟨e, rfl⟩
    · rw [if_neg e] at hq; exact .inr ⟨e, hq⟩
  refine ⟨(t.cell (a := ⟨fb, 0, none⟩) (lt_of_cell h.h0) (mark_ne h.cf hC (by simp))).trans h.h0, (t.cell (a := ⟨fb, 1, none⟩) (lt_of_cell h.h1) (mark_ne h.cf hC (by simp))).trans h.h1, h.tr.turned t (fun j hj => mark_ne (h.ct j hj) hC (by simp)), ?_, fun m q hq => ?_, fun i q hq => (h.pp i q hq).turned t (mark_ne (h.cp i q hq) hC (by simp)), h.cf, h.cm, fun m q hq => ?_, h.cp, h.ct, fun j hj => Nat.lt_of_lt_of_le (h.low j hj) t.size⟩
  · show MapIs w' om (.int .i64) encI ptrV (keysE B (mput S.es k e'))
    rw [keysE_put B S.es he]
    exact h.mp.turned t (mark_ne h.cm hC (by simp))
  · rcases hget m q hq with ⟨rfl, rfl⟩ | ⟨h1, h2⟩
    · exact nd
    · exact (h.en m q h2).turned t (mark_ne (h.ce m q h2) hC (by simp only [ne_eq, Prod.mk.injEq, true_and]; exact h1))
  · rcases hget m q hq with ⟨rfl, rfl⟩ | ⟨h1, h2⟩
    · exact hC
    · exact h.ce m q h2
theorem FilesIn.del (h : FilesIn w fb tb om S B P Ft C) (hm : MapIs w' om (.int .i64) encI ptrV (mdel (keysE B S.es) k)) (t : Turn (fun j => j = om) w w') : FilesIn w' fb tb om (delS S k) B P Ft C := by
  have hget : ∀ m q, mget (mdel S.es k) m = some q → mget S.es m = some q := fun m q hq => by
    rw [mget_mdel] at hq
    split at hq
    · cases hq
    · exact hq
  exact ⟨(t.cell (a := ⟨fb, 0, none⟩) (lt_of_cell h.h0) (mark_ne h.cf h.cm (by simp))).trans h.h0, (t.cell (a := ⟨fb, 1, none⟩) (lt_of_cell h.h1) (mark_ne h.cf h.cm (by simp))).trans h.h1, h.tr.turned t (fun j hj => mark_ne (h.ct j hj) h.cm (by simp)), by show MapIs w' om _ _ _ (keysE B (mdel S.es k)); rw [keysE_del]; exact hm, fun m q hq => (h.en m q (hget m q hq)).turned t (mark_ne (h.ce m q (hget m q hq)) h.cm (by simp)), fun i q hq => (h.pp i q hq).turned t (mark_ne (h.cp i q hq) h.cm (by simp)), h.cf, h.cm, fun m q hq => h.ce m q (hget m q hq), h.cp, h.ct, fun j hj => Nat.lt_of_lt_of_le (h.low j hj) t.size⟩
theorem FilesIn.pipe (h : FilesIn w fb tb om S B P Ft C) {i : Nat} {q q' : PP} (hq : S.ps[i]? = some q) (hp : PipeIs w' (P i) q'.b q'.e0 q'.e1) (t : Turn (fun j => j = P i) w w') : FilesIn w' fb tb om (pipeS S i q') B P Ft C := by
  have hC := h.cp i q hq
  have hget : ∀ (m : Nat) (r : PP), (S.ps.set i q')[m]? = some r → (m = i ∧ r = q') ∨ (m ≠ i ∧ S.ps[m]? = some r) := fun m r hr => by
    by_cases e : m = i
    · subst e
      rw [List.getElem?_set_self (by rcases Nat.lt_or_ge m S.ps.length with h1 | h1; exact h1; rw [List.getElem?_eq_none h1] at hq; cases hq)] at hr
      exact .inl ⟨rfl, (Option.some.inj hr).symm⟩
    · rw [List.getElem?_set_ne (fun h => e h.symm)] at hr
      exact .inr ⟨e, hr⟩
  refine ⟨(t.cell (a := ⟨fb, 0, none⟩) (lt_of_cell h.h0) (mark_ne h.cf hC (by simp))).trans h.h0, (t.cell (a := ⟨fb, 1, none⟩) (lt_of_cell h.h1) (mark_ne h.cf hC (by simp))).trans h.h1, h.tr.turned t (fun j hj => mark_ne (h.ct j hj) hC (by simp)), h.mp.turned t (mark_ne h.cm hC (by simp)), fun m r hr => (h.en m r hr).turned t (mark_ne (h.ce m r hr) hC (by simp)), fun m r hr => ?_, h.cf, h.cm, h.ce, fun m r hr => ?_, h.ct, fun j hj => Nat.lt_of_lt_of_le (h.low j hj) t.size⟩
  · rcases hget m r hr with ⟨rfl, rfl⟩ | ⟨h1, h2⟩
    · exact hp
    · exact (h.pp m r h2).turned t (mark_ne (h.cp m r h2) hC (by simp only [ne_eq, Prod.mk.injEq, true_and]; omega))
  · rcases hget m r hr with ⟨rfl, rfl⟩ | ⟨h1, h2⟩
    · exact hC
    · exact h.cp m r h2
/-- The tree changes. -/
theorem FilesIn.tree {T' : PT} (h : FilesIn w fb tb om S B P Ft C) (ht : TreeTo tb Ft w w' T') :
    ∃ Ft' C', FilesIn w' fb tb om (treeS S T') B P Ft' C' ∧ (∀ j, C' j = C j ∨ w.heap.size ≤ j) ∧ Turn (fun j => CFoot C j) w w' := by
  classical
  obtain ⟨Ft', h1, t, h3⟩ := ht
  have hlow : ∀ j, Ft j → j < w.heap.size := fun j hj => h.low j (by rw [h.ct j hj]; simp)
  refine ⟨Ft', fun j => if w.heap.size ≤ j then (if Ft' j then (5, 0) else (0, 0)) else C j, ?_, fun j => ?_, t.mono (fun j _ hj => by show C j ≠ _; rw [h.ct j hj]; simp)⟩
  · have hC : ∀ j, C j ≠ (0, 0) → (if w.heap.size ≤ j then (if Ft' j then ((5, 0) : Nat × Int) else (0, 0)) else C j) = C j := fun j hj => if_neg (by have := h.low j hj; omega)
    have hne : ∀ j x, C j = x → x ≠ (0, 0) → x ≠ (5, 0) → ¬ Ft j := fun j x h1 h2 h3 h4 => h3 (by rw [← h1, h.ct j h4])
    refine ⟨(t.cell (a := ⟨fb, 0, none⟩) (lt_of_cell h.h0) (hne _ _ h.cf (by simp) (by simp))).trans h.h0, (t.cell (a := ⟨fb, 1, none⟩) (lt_of_cell h.h1) (hne _ _ h.cf (by simp) (by simp))).trans h.h1, h1, h.mp.turned t (hne _ _ h.cm (by simp) (by simp)), fun m q hq => (h.en m q hq).turned t (hne _ _ (h.ce m q hq) (by simp) (by simp)), fun i q hq => (h.pp i q hq).turned t (hne _ _ (h.cp i q hq) (by simp) (by simp)), ?_, ?_, fun m q hq => ?_, fun i q hq => ?_, fun j hj => ?_, fun j hj => ?_⟩
    · rw [hC _ (by rw [h.cf]; simp)]; exact h.cf
    · rw [hC _ (by rw [h.cm]; simp)]; exact h.cm
    · show (if _ then _ else _) = _; rw [hC _ (by rw [h.ce m q hq]; simp)]; exact h.ce m q hq
    · show (if _ then _ else _) = _; rw [hC _ (by rw [h.cp i q hq]; simp)]; exact h.cp i q hq
    · show (if _ then _ else _) = _
      by_cases e : w.heap.size ≤ j
      · rw [if_pos e, if_pos hj]
      · rw [if_neg e]
        rcases h3 j hj with h4 | h4
        · exact h.ct j h4
        · exact absurd h4 e
    · by_cases e : w.heap.size ≤ j
      · by_cases e2 : Ft' j
        · exact h1.foot_lt j e2
        · exact absurd (by show (if _ then _ else _) = _; rw [if_pos e, if_neg e2]) hj
      · exact Nat.lt_of_lt_of_le (by omega) t.size
  · by_cases e : w.heap.size ≤ j
    · exact .inr e
    · exact .inl (if_neg e)
theorem EntAt.setAt (h : EntAt w b P e) (z : Int) : EntAt (w.setCell ⟨b, 4, none⟩ (.int .i64 z)) b P { e with at' := z } :=
  ⟨(World.cell?_setCell_other _ _ _ _ (fun e => by simp at e)).trans h.c0, (World.cell?_setCell_other _ _ _ _ (fun e => by simp at e)).trans h.c1, (World.cell?_setCell_other _ _ _ _ (fun e => by simp at e)).trans h.c2, (World.cell?_setCell_other _ _ _ _ (fun e => by simp at e)).trans h.c3, World.cell?_setCell_same _ _ _ h.c4, (World.cell?_setCell_other _ _ _ _ (fun e => by simp at e)).trans h.c5, fun i => by rw [World.frozen?_setCell]; exact h.fz i⟩
theorem EntAt.setRefs (h : EntAt w b P e) {z : Int} {c : Nat} (hz : z = c) : EntAt (w.setCell ⟨b, 5, none⟩ (.int .i64 z)) b P { e with refs := c } :=
  ⟨(World.cell?_setCell_other _ _ _ _ (fun e => by simp at e)).trans h.c0, (World.cell?_setCell_other _ _ _ _ (fun e => by simp at e)).trans h.c1, (World.cell?_setCell_other _ _ _ _ (fun e => by simp at e)).trans h.c2, (World.cell?_setCell_other _ _ _ _ (fun e => by simp at e)).trans h.c3, (World.cell?_setCell_other _ _ _ _ (fun e => by simp at e)).trans h.c4, by rw [hz]; exact World.cell?_setCell_same _ _ _ h.c5, fun i => by rw [World.frozen?_setCell]; exact h.fz i⟩
theorem TabIs.set (h : TabIs w tab L) {i : Nat} (hi : i < 8) (a : Int) (c : Bool) (ha : 0 ≤ a ∧ a ≤ 40) : TabIs ((w.setCell ⟨tab, i * 2, none⟩ (.int .i64 a)).setCell ⟨tab, i * 2 + 1, none⟩ (.bool c)) tab (tset L i (a, c)) := by
  refine ⟨fun j hj => ?_, fun j hj => ?_, fun j => by rw [World.frozen?_setCell, World.frozen?_setCell]; exact h.fz j, fun j hj => ?_⟩
  · rw [World.cell?_setCell_other _ _ _ _ (fun e => by simp at e; try omega)]
    by_cases e : j = i
    · subst e
      rw [World.cell?_setCell_same _ _ _ (h.ent j hj)]
      show _ = some (Value.int IntKind.i64 (if j = j then (a, c) else L j).1); rw [if_pos rfl]
    · rw [World.cell?_setCell_other _ _ _ _ (fun e2 => by simp at e2; try omega)]
      show _ = some (Value.int IntKind.i64 (if j = i then (a, c) else L j).1); rw [if_neg e]; exact h.ent j hj
  · by_cases e : j = i
    · subst e
      rw [World.cell?_setCell_same _ _ _ ((World.cell?_setCell_other _ _ _ _ (fun e2 => by simp at e2)).trans (h.mark j hj))]
      show _ = some (Value.bool (if j = j then (a, c) else L j).2); rw [if_pos rfl]
    · rw [World.cell?_setCell_other _ _ _ _ (fun e2 => by simp at e2; try omega), World.cell?_setCell_other _ _ _ _ (fun e2 => by simp at e2; try omega)]
      show _ = some (Value.bool (if j = i then (a, c) else L j).2); rw [if_neg e]; exact h.mark j hj
  · show 0 ≤ (if j = i then (a, c) else L j).1 ∧ (if j = i then (a, c) else L j).1 ≤ 40
    by_cases e : j = i
    · rw [if_pos e]; exact ha
    · rw [if_neg e]; exact h.pos j hj
theorem FilesTo.of {om' : Nat} {B' : Int → Nat} {P' : Nat → Nat} {Ft' : Nat → Prop} {C' : Nat → Nat × Int} (h : FilesIn w' fb tb om' S' B' P' Ft' C') (ht : TabIs w' tab L') (t : Turn (fun j => CFoot C j ∨ j = tab) w w') (hC : ∀ j, CFoot C' j → CFoot C j ∨ w.heap.size ≤ j) (hn : ¬ CFoot C' tab) : FilesTo fb tb tab (CFoot C) w w' S' L' :=
  ⟨CFoot C', h.is, ht, t, hC, hn⟩
theorem FilesTo.same (h : FilesIn w' fb tb om S' B P Ft C) (ht : TabIs w' tab L') (t : Turn (fun j => CFoot C j ∨ j = tab) w w') (hn : ¬ CFoot C tab) : FilesTo fb tb tab (CFoot C) w w' S' L' :=
  .of h ht t (fun _ h => .inl h) hn
/-- A number's key and entry. -/
def entL (S : PS) (L : PTab) (n : Int) : Option (Int × PE) := (slotL L n).bind fun k => (mget S.es k).map fun e => (k, e)
theorem entL_some (h : entL S L n = some (k, e)) : slotL L n = some k ∧ mget S.es k = some e := by
  unfold entL at h
  cases hs : slotL L n with
  | none => rw [hs] at h; cases h
  | some k' =>
    rw [hs] at h
    have h : (mget S.es k').map (fun e => (k', e)) = some (k, e) := h
    cases he : mget S.es k' with
    | none => rw [he] at h; cases h
    | some e' =>
      rw [he] at h
      have h := Option.some.inj h
      injection h with h1 h2
      subst h1; subst h2
      exact ⟨rfl, he⟩
theorem entL_none (hok : TabOk S L) (h : entL S L n = none) : slotL L n = none := by
  cases hs : slotL L n with
  | none => rfl
  | some k =>
    obtain ⟨e, he⟩ := hok.there hs
    unfold entL at h
    rw [hs] at h
    have h : (mget S.es k).map (fun e => (k, e)) = none := h
    rw [he] at h
    cases h
theorem get_none (h : FilesIn w fb tb om S B P Ft C) (ht : TabIs w tab L) (hok : TabOk S L) (he : entL S L n = none) :
    Calls Tryz.prog 222 #[.pointer (some ⟨fb, 0, none⟩), .pointer (some ⟨tab, 0, none⟩), .int .i64 n] w fun e w' => e = .returned (.tuple #[.pointer none, .iface 45 (.int .i64 7)]) ∧ Turn (fun _ => False) w w' := by
  have hg := get_is h ht hok n
  have e1 := entL_none hok he
  have e2 : getV B L n = .pointer none := by unfold getV; rw [e1]; rfl
  have e3 : TErr (getE L n) = .iface 45 (.int .i64 7) := by unfold getE; rw [e1]; rfl
  rw [e2, e3] at hg
  exact hg
theorem get_some (h : FilesIn w fb tb om S B P Ft C) (ht : TabIs w tab L) (hok : TabOk S L) (he : entL S L n = some (k, e)) :
    Calls Tryz.prog 222 #[.pointer (some ⟨fb, 0, none⟩), .pointer (some ⟨tab, 0, none⟩), .int .i64 n] w fun e w' => e = .returned (.tuple #[.pointer (some ⟨B k, 0, none⟩), .nilIface]) ∧ Turn (fun _ => False) w w' := by
  have hg := get_is h ht hok n
  have e1 := (entL_some he).1
  have e2 : getV B L n = .pointer (some ⟨B k, 0, none⟩) := by unfold getV; rw [e1]; rfl
  have e3 : TErr (getE L n) = .nilIface := by unfold getE; rw [e1]; rfl
  rw [e2, e3] at hg
  exact hg
end
end Go.Proofs.YtiohpmcedfbcgacGreatDoor
/- Package desc: Seek, Mark, Dup. Conditions: each theorem's own premises. -/
namespace Go.Proofs.YtiohpmcedfbcgacGreatDoor
open Go.RowKit
set_option linter.unusedVariables false
def seekE (S : PS) (L : PTab) (n at' : Int) : Int := (entL S L n).elim 7 fun x => if x.2.kind ≠ 1 then 6 else if at' < 0 ∨ 200 < at' then 2 else 0
def seekS (S : PS) (L : PTab) (n at' : Int) : PS := if seekE S L n at' = 0 then (entL S L n).elim S fun x => putS S x.1 { x.2 with at' := at' } else S
def dupE (S : PS) (L : PTab) (n : Int) : Int := (entL S L n).elim 7 fun x => if leastL L < 0 then 12 else 0
def dupK (S : PS) (L : PTab) (n : Int) : Int := if dupE S L n = 0 then leastL L else 0
def dupS (S : PS) (L : PTab) (n : Int) : PS := if dupE S L n = 0 then (entL S L n).elim S fun x => putS S x.1 { x.2 with refs := x.2.refs + 1 } else S
def dupL (S : PS) (L : PTab) (n : Int) : PTab := if dupE S L n = 0 then tset L (leastL L).toNat ((L n.toNat).1, false) else L
section
variable {w w' w1 w2 : World} {fb tb om b tab : Nat} {S S' : PS} {B : Int → Nat} {P : Nat → Nat} {Ft F : Nat → Prop} {C : Nat → Nat × Int} {e e' : PE} {k n : Int} {L L' : PTab}
theorem turn_ent (C : Nat → Nat × Int) (tab : Nat) {b : Nat} (h : CFoot C b) (w : World) (i : Nat) (v : Value) : Turn (fun j => CFoot C j ∨ j = tab) w (w.setCell ⟨b, i, none⟩ v) := (Turn.refl _ _).setCell _ _ (fun _ => .inl h)
theorem turn_own (b : Nat) (w : World) (i : Nat) (v : Value) : Turn (fun j => j = b) w (w.setCell ⟨b, i, none⟩ v) := (Turn.refl _ _).setCell _ _ (fun _ => rfl)
theorem no_turn {X : Nat → Prop} (t : Turn (fun _ => False) w w') : Turn X w w' := t.mono (fun _ _ h => h.elim)
theorem FilesIn.foot (h : FilesIn w fb tb om S B P Ft C) (he : mget S.es k = some e) : CFoot C (B k) := by show C _ ≠ _; rw [h.ce k e he]; simp
set_option maxHeartbeats 1000000 in
set_option maxRecDepth 100000 in
theorem seek_is (h : FilesIs w fb tb S F) (ht : TabIs w tab L) (hok : TabOk S L) (hn : ¬ F tab) (n at' : Int) :
    Calls Tryz.prog 120 #[.pointer (some ⟨fb, 0, none⟩), .pointer (some ⟨tab, 0, none⟩), .int .i64 n, .int .i64 at'] w fun e w' => e = .returned (TErr (seekE S L n at')) ∧ FilesTo fb tb tab F w w' (seekS S L n at') L := by
  obtain ⟨om, B, P, Ft, C, hin, rfl⟩ := h
  cases hx : entL S L n with
  | none =>
    have e1 : seekE S L n at' = 7 := by unfold seekE; rw [hx]; rfl
    have e2 : seekS S L n at' = S := if_neg (by rw [e1]; decide)
    rw [e1, e2]
    have HG := hid (get_none hin ht hok hx)
    have HK : Hid (∀ w', Turn (fun _ => False) w w' → FilesTo fb tb tab (CFoot C) w w' S L) := hid (fun w' t => .same (hin.turned t (fun _ _ => id)) (ht.turned t id) (no_turn t) hn)
    clear hin ht hok hn hx e1 e2
    go_enter Tryz.func120, Tryz.ntmps120
    go_wp2_with (go_at_call 222; refine HG.out.mono ?_; rintro e w' ⟨rfl, t⟩)
    go_ret
    exact ⟨rfl, HK.out _ t⟩
  | some x =>
    obtain ⟨k, e⟩ := x
    have he := (entL_some hx).2
    have HG := hid (get_some hin ht hok hx)
    have HI := hid hin
    have HT := hid ht
    have HN := hid hn
    have HE := hid he
    by_cases hk : e.kind = 1
    · by_cases hr : at' < 0 ∨ 200 < at'
      · have e1 : seekE S L n at' = 2 := by unfold seekE; rw [hx]; show (if e.kind ≠ 1 then 6 else _) = _; rw [if_neg (by simpa using hk), if_pos hr]
        have e2 : seekS S L n at' = S := if_neg (by rw [e1]; decide)
        rw [e1, e2]
        clear hin ht hok hn hx e1 e2 he
        have HK := hid hk
        have HR := hid hr
        clear hk hr
        go_enter Tryz.func120, Tryz.ntmps120
        go_wp2_with (go_at_call 222; refine HG.out.mono ?_; rintro e w' ⟨rfl, t⟩; have c0 := ((HI.out.turned t (fun _ _ => id)).en _ _ HE.out).c0; rw [HK.out] at c0; have HTt := hid t; clear t; rcases HR.out with hr | hr)
        all_goals go_wp2_with fail
        all_goals go_ret
        all_goals exact ⟨rfl, .same (HI.out.turned HTt.out (fun _ _ => id)) (HT.out.turned HTt.out id) (no_turn HTt.out) HN.out⟩
      · have e1 : seekE S L n at' = 0 := by unfold seekE; rw [hx]; show (if e.kind ≠ 1 then 6 else _) = _; rw [if_neg (by simpa using hk), if_neg hr]
        have e2 : seekS S L n at' = putS S k { e with at' := at' } := by unfold seekS; rw [e1, if_pos rfl, hx]; rfl
        rw [e1, e2]
        clear hin ht hok hn hx e1 e2 he
        have HK := hid hk
        obtain ⟨hr1, hr2⟩ : 0 ≤ at' ∧ at' ≤ 200 := by omega
        clear hk hr
        go_enter Tryz.func120, Tryz.ntmps120
        go_wp2_with (go_at_call 222; refine HG.out.mono ?_; rintro e w' ⟨rfl, t⟩; have nd := (HI.out.turned t (fun _ _ => id)).en _ _ HE.out; have c0 := nd.c0; have c4 := nd.c4; have z4 := nd.fz 4; rw [HK.out] at c0; have HTt := hid t; clear t nd)
        all_goals go_ret
        have hi := HI.out.turned HTt.out (fun _ _ => id)
        exact ⟨rfl, .same (hi.put HE.out ((hi.en _ _ HE.out).setAt at') (turn_own _ _ _ _)) ((HT.out.turned HTt.out id).turned (turn_own (B k) _ _ _) (fun e => HN.out (e ▸ hi.foot HE.out))) ((no_turn HTt.out).trans (turn_ent C tab (hi.foot HE.out) _ _ _)) HN.out⟩
    · have e1 : seekE S L n at' = 6 := by unfold seekE; rw [hx]; show (if e.kind ≠ 1 then 6 else _) = _; rw [if_pos (by simpa using hk)]
      have e2 : seekS S L n at' = S := if_neg (by rw [e1]; decide)
      rw [e1, e2]
      clear hin ht hok hn hx e1 e2 he
      have HK : Hid ((e.kind != 1) = true) := hid (by simpa using hk)
      clear hk
      go_enter Tryz.func120, Tryz.ntmps120
      go_wp2_with (go_at_call 222; refine HG.out.mono ?_; rintro e w' ⟨rfl, t⟩; have c0 := ((HI.out.turned t (fun _ _ => id)).en _ _ HE.out).c0; have hk := HK.out; have HTt := hid t; clear t)
      all_goals go_ret
      all_goals exact ⟨rfl, .same (HI.out.turned HTt.out (fun _ _ => id)) (HT.out.turned HTt.out id) (no_turn HTt.out) HN.out⟩
theorem turn_tab (C : Nat → Nat × Int) (tab : Nat) (w : World) (i j : Nat) (v u : Value) : Turn (fun j => CFoot C j ∨ j = tab) w ((w.setCell ⟨tab, i, none⟩ v).setCell ⟨tab, j, none⟩ u) := ((Turn.refl _ _).setCell _ _ (fun _ => .inr rfl)).setCell _ _ (fun _ => .inr rfl)
theorem turn_tab_own (tab : Nat) (w : World) (i j : Nat) (v u : Value) : Turn (fun j => j = tab) w ((w.setCell ⟨tab, i, none⟩ v).setCell ⟨tab, j, none⟩ u) := Turn.setCell (S := fun j => j = tab) (Turn.setCell (S := fun j => j = tab) (Turn.refl _ w) _ _ (fun _ => rfl)) _ _ (fun _ => rfl)
theorem setCell_drew (w : World) (a : Addr) (v : Value) : w.drew.setCell a v = (w.setCell a v).drew := rfl
theorem FilesIn.beside (h : FilesIn w fb tb om S B P Ft C) (hn : ¬ CFoot C tab) (t : Turn (fun j => j = tab) w w') : FilesIn w' fb tb om S B P Ft C := h.turned t (fun j hj e => hn (e ▸ hj))
set_option maxHeartbeats 1000000 in
set_option maxRecDepth 100000 in
theorem dup_is (h : FilesIs w fb tb S F) (hS : DOk S) (ht : TabIs w tab L) (hok : TabOk S L) (hn : ¬ F tab) (n : Int) (hb : ∀ k e, mget S.es k = some e → e.refs < 1000000) :
    Calls Tryz.prog 118 #[.pointer (some ⟨fb, 0, none⟩), .pointer (some ⟨tab, 0, none⟩), .int .i64 n] w fun e w' => e = .returned (.tuple #[.int .i64 (dupK S L n), TErr (dupE S L n)]) ∧ FilesTo fb tb tab F w w' (dupS S L n) (dupL S L n) := by
  obtain ⟨om, B, P, Ft, C, hin, rfl⟩ := h
  cases hx : entL S L n with
  | none =>
    have e1 : dupE S L n = 7 := by unfold dupE; rw [hx]; rfl
    have e2 : dupS S L n = S := if_neg (by rw [e1]; decide)
    have e3 : dupK S L n = 0 := if_neg (by rw [e1]; decide)
    have e4 : dupL S L n = L := if_neg (by rw [e1]; decide)
    rw [e1, e2, e3, e4]
    have HG := hid (get_none hin ht hok hx)
    have HK : Hid (∀ w', Turn (fun _ => False) w w' → FilesTo fb tb tab (CFoot C) w w' S L) := hid (fun w' t => .same (hin.turned t (fun _ _ => id)) (ht.turned t id) (no_turn t) hn)
    clear hin ht hok hn hx e1 e2 e3 e4
    go_enter Tryz.func118, Tryz.ntmps118
    go_wp2_with (go_at_call 222; refine HG.out.mono ?_; rintro e w' ⟨rfl, t⟩)
    go_ret2
    exact ⟨rfl, HK.out _ t⟩
  | some x =>
    obtain ⟨k, e⟩ := x
    have hs := (entL_some hx).1
    have he := (entL_some hx).2
    have HG := hid (get_some hin ht hok hx)
    have HI := hid hin
    have HT := hid ht
    have HN := hid hn
    have HE := hid he
    obtain ⟨hn0, hn8, hnz, hnk⟩ := slotL_some hs
    rcases leastL_spec L with hl | ⟨j, hl, hj8, hjz⟩
    · have e1 : dupE S L n = 12 := by unfold dupE; rw [hx]; show (if leastL L < 0 then 12 else 0) = _; rw [if_pos (by omega)]
      have e2 : dupS S L n = S := if_neg (by rw [e1]; decide)
      have e3 : dupK S L n = 0 := if_neg (by rw [e1]; decide)
      have e4 : dupL S L n = L := if_neg (by rw [e1]; decide)
      rw [e1, e2, e3, e4]
      have HL := hid hl
      clear hin ht hok hn hx e1 e2 e3 e4 he hs hl hnz hnk hS hb
      go_enter Tryz.func118, Tryz.ntmps118
      go_wp2_with (first | (go_at_call 222; refine HG.out.mono ?_; rintro e w' ⟨rfl, t⟩; have HTt := hid t; clear t) | (go_at_call 220; refine (least_is (HT.out.turned HTt.out id)).mono ?_; rintro e w2 ⟨rfl, t⟩; rw [HL.out]; have HT2 := hid t; clear t))
      go_ret2
      have t2 := HTt.out.trans HT2.out
      exact ⟨rfl, .same (HI.out.turned t2 (fun _ _ => id)) (HT.out.turned t2 id) (no_turn t2) HN.out⟩
    · have e1 : dupE S L n = 0 := by unfold dupE; rw [hx]; show (if leastL L < 0 then 12 else 0) = _; rw [if_neg (by omega)]
      have e2 : dupS S L n = putS S k { e with refs := e.refs + 1 } := by unfold dupS; rw [e1, if_pos rfl, hx]; rfl
      have e3 : dupK S L n = j := by unfold dupK; rw [e1, if_pos rfl, hl]
      have e4 : dupL S L n = tset L j ((L n.toNat).1, false) := by unfold dupL; rw [e1, if_pos rfl, hl]; rfl
      rw [e1, e2, e3, e4]
      have HL := hid hl
      have hrf := hb k e he
      have hrw : IntKind.i64.wrap ((e.refs : Int) + 1) = (e.refs : Int) + 1 := IntWalk.i64_in _ (by omega)
      have HP := hid (ht.pos n.toNat (by omega))
      clear hin ht hok hn hx e1 e2 e3 e4 he hs hl hnz hnk hS hb
      go_enter Tryz.func118, Tryz.ntmps118
      go_wp2_with (first | (go_at_call 222; refine HG.out.mono ?_; rintro e w' ⟨rfl, t⟩; have HTt := hid t; clear t) | (go_at_call 220; refine (least_is (HT.out.turned HTt.out id)).mono ?_; rintro e w2 ⟨rfl, t⟩; rw [HL.out]; have HT2 := hid (HTt.out.trans t); clear t; have nd := (HI.out.turned HT2.out (fun _ _ => id)).en _ _ HE.out; have c5 := nd.c5; have z5 := nd.fz 5; clear nd))
      have HT3 := hid ((HT.out.turned HT2.out id).turned (turn_own (B k) w2 5 (.int .i64 ((e.refs : Int) + 1))) (fun x => HN.out (by rw [x]; exact HI.out.foot HE.out)))
      have c1 := HT3.out.ent n.toNat (by omega)
      have c2 := HT3.out.ent j hj8
      have c3 := HT3.out.mark j hj8
      have z2 := HT3.out.fz (j * 2)
      have z3 := HT3.out.fz (j * 2 + 1)
      go_region
      all_goals go_wp2_with fail
      all_goals go_ret2
      all_goals (
        have hi := HI.out.turned HT2.out (fun _ _ => id)
        have hi2 := hi.put HE.out ((hi.en _ _ HE.out).setRefs (z := (e.refs : Int) + 1) (c := e.refs + 1) (by omega)) (turn_own (B k) _ 5 (.int .i64 ((e.refs : Int) + 1)))
        exact ⟨rfl, .same ((hi2.beside HN.out (turn_tab_own tab _ (j * 2) (j * 2 + 1) _ _)).turned (X := fun _ => False) (Turn.refl _ _).drew (fun _ _ => id)) ((HT3.out.set hj8 _ false HP.out).turned (S := fun _ => False) (Turn.refl _ _).drew id) ((((no_turn HT2.out).trans (turn_ent C tab (hi.foot HE.out) _ _ _)).trans (turn_tab C tab _ _ _ _ _)).drew) HN.out⟩)
end
end Go.Proofs.YtiohpmcedfbcgacGreatDoor
/- Package desc: Fork. Conditions: each theorem's own premises. -/
namespace Go.Proofs.YtiohpmcedfbcgacGreatDoor
open Go.RowKit
set_option linter.unusedVariables false
theorem idx_any (L : PTab) (k : Nat) (hk : k < 8) (w : World) : (Instr.index 77 (.agg #[.int .i64 (L 0).1, .bool (L 0).2, .int .i64 (L 1).1, .bool (L 1).2, .int .i64 (L 2).1, .bool (L 2).2, .int .i64 (L 3).1, .bool (L 3).2, .int .i64 (L 4).1, .bool (L 4).2, .int .i64 (L 5).1, .bool (L 5).2, .int .i64 (L 6).1, .bool (L 6).2, .int .i64 (L 7).1, .bool (L 7).2]) (.int .i64 k)).run Tryz.prog w = .ok (.agg #[.int .i64 (L k).1, .bool (L k).2]) w := by
  rcases (show k = 0 ∨ k = 1 ∨ k = 2 ∨ k = 3 ∨ k = 4 ∨ k = 5 ∨ k = 6 ∨ k = 7 by omega) with rfl | rfl | rfl | rfl | rfl | rfl | rfl | rfl
  · exact idx0 _ _ _ _ _ _ _ _ _ _ _ _ _ _ _ _ w
  · exact idx1 _ _ _ _ _ _ _ _ _ _ _ _ _ _ _ _ w
  · exact idx2 _ _ _ _ _ _ _ _ _ _ _ _ _ _ _ _ w
  · exact idx3 _ _ _ _ _ _ _ _ _ _ _ _ _ _ _ _ w
  · exact idx4 _ _ _ _ _ _ _ _ _ _ _ _ _ _ _ _ w
  · exact idx5 _ _ _ _ _ _ _ _ _ _ _ _ _ _ _ _ w
  · exact idx6 _ _ _ _ _ _ _ _ _ _ _ _ _ _ _ _ w
  · exact idx7 _ _ _ _ _ _ _ _ _ _ _ _ _ _ _ _ w
/-- One number more has an entry. -/
def bumpS (S : PS) (k : Int) : PS := (mget S.es k).elim S fun e => putS S k { e with refs := e.refs + 1 }
def forkFrom (L : PTab) : Nat → Nat → PS → PS
  | 0, _, S => S
  | f + 1, i, S => forkFrom L f (i + 1) (if 0 < (L i).1 then bumpS S ((L i).1 - 1) else S)
/-- A table is doubled: each of its entries has one number more. -/
def forkS (S : PS) (L : PTab) : PS := forkFrom L 8 0 S
def tabObj (L : PTab) : Obj := .cells #[.int .i64 (L 0).1, .bool (L 0).2, .int .i64 (L 1).1, .bool (L 1).2, .int .i64 (L 2).1, .bool (L 2).2, .int .i64 (L 3).1, .bool (L 3).2, .int .i64 (L 4).1, .bool (L 4).2, .int .i64 (L 5).1, .bool (L 5).2, .int .i64 (L 6).1, .bool (L 6).2, .int .i64 (L 7).1, .bool (L 7).2] 79
theorem tabObj_at (w : World) (L : PTab) (hp : ∀ i, i < 8 → 0 ≤ (L i).1 ∧ (L i).1 ≤ 40) : TabIs (w.alloc (tabObj L)) w.heap.size L := by
  refine ⟨fun i hi => ?_, fun i hi => ?_, fun i => World.frozen?_alloc_new _ _ _ _, hp⟩
  · rcases (show i = 0 ∨ i = 1 ∨ i = 2 ∨ i = 3 ∨ i = 4 ∨ i = 5 ∨ i = 6 ∨ i = 7 by omega) with rfl | rfl | rfl | rfl | rfl | rfl | rfl | rfl
    all_goals exact World.cell?_alloc_new _ _ _ _
  · rcases (show i = 0 ∨ i = 1 ∨ i = 2 ∨ i = 3 ∨ i = 4 ∨ i = 5 ∨ i = 6 ∨ i = 7 by omega) with rfl | rfl | rfl | rfl | rfl | rfl | rfl | rfl
    all_goals exact World.cell?_alloc_new _ _ _ _
section
variable {w w' w1 w2 : World} {fb tb om b tab : Nat} {S S' : PS} {B : Int → Nat} {P : Nat → Nat} {Ft F : Nat → Prop} {C : Nat → Nat × Int} {e e' : PE} {k n : Int} {L L' : PTab}
theorem bumpS_is (he : mget S.es k = some e) : bumpS S k = putS S k { e with refs := e.refs + 1 } := by unfold bumpS; rw [he]; rfl
theorem TabOk.put (h : TabOk S L) : TabOk (putS S k e) L := fun i hi => by
  rcases h i hi with h1 | ⟨f, hf⟩
  · exact .inl h1
  · refine .inr ?_
    show ∃ e', mget (mput S.es k e) _ = some e'
    rw [mget_mput]
    by_cases e1 : (L i).1 - 1 = k
    · exact ⟨e, if_pos e1⟩
    · exact ⟨f, by rw [if_neg e1]; exact hf⟩
set_option maxHeartbeats 2000000 in
set_option maxRecDepth 100000 in
theorem fork_is (h : FilesIs w fb tb S F) (ht : TabIs w tab L) (hok : TabOk S L) (hn : ¬ F tab) (hb : ∀ k e, mget S.es k = some e → e.refs < 999000) :
    Calls Tryz.prog 43 #[.pointer (some ⟨fb, 0, none⟩), .pointer (some ⟨tab, 0, none⟩)] w fun e w' => ∃ ub, e = .returned (.pointer (some ⟨ub, 0, none⟩)) ∧ w.heap.size ≤ ub ∧ TabIs w' ub L ∧ FilesIs w' fb tb (forkS S L) F ∧ Turn F w w' := by
  obtain ⟨om, B, P, Ft, C, hin, rfl⟩ := h
  obtain ⟨R, hR⟩ : ∃ R, forkS S L = R := ⟨_, rfl⟩
  rw [hR]
  have HR := hid hR
  have HI := hid hin
  have HT := hid ht
  have HOk := hid hok
  have HB := hid hb
  have e0 := ht.ent 0 (by omega)
  have e1 := ht.ent 1 (by omega)
  have e2 := ht.ent 2 (by omega)
  have e3 := ht.ent 3 (by omega)
  have e4 := ht.ent 4 (by omega)
  have e5 := ht.ent 5 (by omega)
  have e6 := ht.ent 6 (by omega)
  have e7 := ht.ent 7 (by omega)
  have m0 := ht.mark 0 (by omega)
  have m1 := ht.mark 1 (by omega)
  have m2 := ht.mark 2 (by omega)
  have m3 := ht.mark 3 (by omega)
  have m4 := ht.mark 4 (by omega)
  have m5 := ht.mark 5 (by omega)
  have m6 := ht.mark 6 (by omega)
  have m7 := ht.mark 7 (by omega)
  simp only [Nat.zero_mul, Nat.reduceMul, Nat.reduceAdd, Nat.zero_add] at e0 e1 e2 e3 e4 e5 e6 e7 m0 m1 m2 m3 m4 m5 m6 m7
  clear hin ht hok hn hb hR
  go_enter Tryz.func43, Tryz.ntmps43
  go_wp2_with fail
  clear e0 e1 e2 e3 e4 e5 e6 e7 m0 m1 m2 m3 m4 m5 m6 m7
  have HT0 := hid (tabObj_at w L HT.out.pos)
  have HTa : Hid (Turn (fun _ => False) w (w.alloc (tabObj L))) := hid ((Turn.refl _ _).alloc _)
  unfold tabObj at HT0 HTa
  obtain ⟨W, hW⟩ : ∃ W, w.alloc (.cells #[.int .i64 (L 0).1, .bool (L 0).2, .int .i64 (L 1).1, .bool (L 1).2, .int .i64 (L 2).1, .bool (L 2).2, .int .i64 (L 3).1, .bool (L 3).2, .int .i64 (L 4).1, .bool (L 4).2, .int .i64 (L 5).1, .bool (L 5).2, .int .i64 (L 6).1, .bool (L 6).2, .int .i64 (L 7).1, .bool (L 7).2] 79) = W := ⟨_, rfl⟩
  rw [hW] at HT0 HTa ⊢
  clear hW
  go_loopg [13] 8 (fun gl i wr => ∃ (k : Nat) (Si : PS), k + gl = 8 ∧ i = .int .i64 k ∧ Hid (forkFrom L gl k Si = R) ∧ Hid (FilesIn wr fb tb om Si B P Ft C) ∧ Hid (∀ j e, mget Si.es j = some e → e.refs < 999000 + k) ∧ Hid (TabOk Si L) ∧ Hid (TabIs wr w.heap.size L) ∧ Hid (Turn (fun j => CFoot C j) w wr))
  case atStart => exact ⟨0, S, by omega, rfl, HR, hid (HI.out.turned HTa.out (fun _ _ => id)), HB, HOk, HT0, hid (no_turn HTa.out)⟩
  case round =>
    obtain ⟨k, Si, hk, rfl, hF, hI, hB, hO, hT, ht⟩ := hrel
    clear HR HB HOk HT0 HTa
    by_cases hk8 : k < 8
    · have hk' : (k : Int) < 8 := by omega
      obtain ⟨g, rfl⟩ : ∃ g, gk = g + 1 := ⟨7 - k, by omega⟩
      have ix := idx_any L k hk8 wr
      have HF2 : Hid (forkFrom L g (k + 1) (if 0 < (L k).1 then bumpS Si ((L k).1 - 1) else Si) = R) := hF
      have HA : Hid (Turn (fun _ => False) wr (wr.alloc (.cells #[.int .i64 (L k).1, .bool (L k).2] 76))) := hid ((Turn.refl _ _).alloc _)
      clear hF
      by_cases hz : 0 < (L k).1
      · rw [if_pos hz] at HF2
        obtain ⟨e, he⟩ := (hO.out k hk8).resolve_left (by omega)
        have hps := HT.out.pos k hk8
        have hw : IntKind.i64.wrap ((L k).1 - 1) = (L k).1 - 1 := IntWalk.i64_in _ (by omega)
        have hrf := hB.out _ e he
        have hrw : IntKind.i64.wrap ((e.refs : Int) + 1) = (e.refs : Int) + 1 := IntWalk.i64_in _ (by omega)
        rw [bumpS_is he] at HF2
        have HI4 := hid (hI.out.turned HA.out (fun _ _ => id))
        have lk := (HI4.out.turned (X := fun _ => False) (Turn.refl _ _).drew (fun _ _ => id)).look he
        have c5 := (HI4.out.en _ _ he).c5
        have z5 := (HI4.out.en _ _ he).fz 5
        have h1 := HI4.out.h1
        have HE := hid he
        have hne : B ((L k).1 - 1) ≠ wr.heap.size := by have := (hI.out.en _ _ he).lt; omega
        clear he hps
        go_wp2_with fail
        go_region
        all_goals go_wp2_with fail
        all_goals go_roundg g
        all_goals first
          | (case measure => omega)
          | skip
        case rel =>
          have hB0 : CFoot C (B ((L k).1 - 1)) := HI4.out.foot HE.out
          have hlow := HI.out.low _ hB0
          refine ⟨k + 1, _, by omega, by go_num, HF2, hid ((HI4.out.put HE.out ((HI4.out.en _ _ HE.out).setRefs (z := (e.refs : Int) + 1) (c := e.refs + 1) (by omega)) (turn_own _ _ _ _)).turned (X := fun _ => False) (Turn.refl _ _).drew (fun _ _ => id)), hid (fun j f hf => ?_), hid hO.out.put, hid (((hT.out.turned HA.out id).turned (turn_own _ _ _ _) (fun x => by have x : w.heap.size = _ := x; omega)).turned (S := fun _ => False) (Turn.refl _ _).drew id), hid (((ht.out.trans (no_turn HA.out)).trans ((Turn.refl (fun j => CFoot C j) _).setCell _ _ (fun _ => hB0))).drew)⟩
          have hf : mget (mput Si.es _ _) j = some f := hf
          rw [mget_mput] at hf
          split at hf
          · cases hf
            show e.refs + 1 < _
            omega
          · have := hB.out j f hf; omega
      · rw [if_neg hz] at HF2
        go_wp2_with fail
        go_roundg g
        case measure => omega
        case rel => exact ⟨k + 1, Si, by omega, by go_num, HF2, hid (hI.out.turned HA.out (fun _ _ => id)), hid (fun j e he => by have := hB.out j e he; omega), hO, hid (hT.out.turned HA.out id), hid (ht.out.trans (no_turn HA.out))⟩
    · have hk' : ¬ (k : Int) < 8 := by omega
      obtain rfl : k = 8 := by omega
      obtain rfl : gk = 0 := by omega
      have HF : Hid (Si = R) := hF
      clear hF
      go_wp2_with fail
      go_ret
      refine ⟨_, rfl, Nat.le_refl _, hT.out, ?_, ht.out⟩
      rw [← HF.out]
      exact hI.out.is
end
end Go.Proofs.YtiohpmcedfbcgacGreatDoor
/- Package desc: Close. Conditions: each theorem's own premises. -/
namespace Go.Proofs.YtiohpmcedfbcgacGreatDoor
open Go.RowKit
set_option linter.unusedVariables false
/-- A pipe with one end less. -/
def endP (q : PP) (kind : Int) : PP := if kind = 2 then { q with e0 := q.e0 - 1 } else { q with e1 := q.e1 - 1 }
/-- What goes with an entry. -/
def goneS (S : PS) (e : PE) : PS := if e.kind = 1 then treeS S (dropT S.T e.node) else (S.ps[e.pid]?).elim S fun q => pipeS S e.pid (endP q e.kind)
def closeS (S : PS) (L : PTab) (n : Int) : PS := (entL S L n).elim S fun x => if 1 < x.2.refs then putS S x.1 { x.2 with refs := x.2.refs - 1 } else goneS (delS S x.1) x.2
def closeE (S : PS) (L : PTab) (n : Int) : Int := (entL S L n).elim 7 fun x => if 1 < x.2.refs then 0 else if x.2.kind = 1 then dropE S.T x.2.node else 0
def closeL (S : PS) (L : PTab) (n : Int) : PTab := (entL S L n).elim L fun _ => tset L n.toNat (0, false)
section
variable {w w' w1 w2 : World} {fb tb om b tab : Nat} {S S' : PS} {B : Int → Nat} {P : Nat → Nat} {Ft F : Nat → Prop} {C : Nat → Nat × Int} {e e' : PE} {k n : Int} {L L' : PTab}
theorem FilesIn.still (h : FilesIn w fb tb om S B P Ft C) (t : Turn (fun _ => False) w w') : FilesIn w' fb tb om S B P Ft C := h.turned t (fun _ _ => id)
theorem mdel_mupd (m : List (Int × PE)) (k : Int) (v : PE) : mdel (mupd m k v) k = mdel m k := by
  induction m with
  | nil => rfl
  | cons t l ih =>
    show List.filter _ ((if t.1 = k then (t.1, v) else t) :: mupd l k v) = List.filter _ (t :: l)
    rw [List.filter_cons, List.filter_cons]
    by_cases h : t.1 = k
    · rw [if_pos h]; simp only [h, ne_eq, not_true_eq_false, decide_false, Bool.false_eq_true, if_false]; exact ih
    · rw [if_neg h]; simp only [h, ne_eq, not_false_eq_true, decide_true, if_true]; exact congrArg _ ih
theorem del_put (he : mget S.es k = some e) : delS (putS S k e') k = delS S k := by
  show PS.mk _ _ _ = PS.mk _ _ _
  congr 1
  show mdel (mput S.es k e') k = mdel S.es k
  unfold mput
  rw [he]
  exact mdel_mupd _ _ _
set_option maxHeartbeats 2000000 in
set_option maxRecDepth 100000 in
theorem close_is (h : FilesIs w fb tb S F) (hS : DOk S) (ht : TabIs w tab L) (hok : TabOk S L) (hn : ¬ F tab) (n : Int) :
    Calls Tryz.prog 124 #[.pointer (some ⟨fb, 0, none⟩), .pointer (some ⟨tab, 0, none⟩), .int .i64 n] w fun e w' => e = .returned (TErr (closeE S L n)) ∧ FilesTo fb tb tab F w w' (closeS S L n) (closeL S L n) := by
  obtain ⟨om, B, P, Ft, C, hin, rfl⟩ := h
  cases hx : entL S L n with
  | none =>
    have e1 : closeE S L n = 7 := by unfold closeE; rw [hx]; rfl
    have e2 : closeS S L n = S := by unfold closeS; rw [hx]; rfl
    have e4 : closeL S L n = L := by unfold closeL; rw [hx]; rfl
    rw [e1, e2, e4]
    have HG := hid (get_none hin ht hok hx)
    have HK : Hid (∀ w', Turn (fun _ => False) w w' → FilesTo fb tb tab (CFoot C) w w' S L) := hid (fun w' t => .same (hin.turned t (fun _ _ => id)) (ht.turned t id) (no_turn t) hn)
    clear hin ht hok hn hx e1 e2 e4
    go_enter Tryz.func124, Tryz.ntmps124
    go_wp2_with (go_at_call 222; refine HG.out.mono ?_; rintro e w' ⟨rfl, t⟩)
    go_ret
    exact ⟨rfl, HK.out _ t⟩
  | some x =>
    obtain ⟨k, e⟩ := x
    have hs := (entL_some hx).1
    have he := (entL_some hx).2
    obtain ⟨hn0, hn8, hnz, hnk⟩ := slotL_some hs
    have e4 : closeL S L n = tset L n.toNat (0, false) := by unfold closeL; rw [hx]; rfl
    rw [e4]
    have hE := hS.ent k e he
    obtain ⟨⟨hr1, hr2, _, _⟩, hkind⟩ := hE
    have hj : n.toNat < 8 := by omega
    have hp := ht.pos n.toNat hj
    have hw : IntKind.i64.wrap ((L n.toNat).1 - 1) = (L n.toNat).1 - 1 := IntWalk.i64_in _ (by omega)
    have hrw : IntKind.i64.wrap ((e.refs : Int) - 1) = (e.refs : Int) - 1 := IntWalk.i64_in _ (by omega)
    have HG := hid (get_some hin ht hok hx)
    have HI := hid hin
    have HT := hid ht
    have HN := hid hn
    have HE := hid he
    have HNK := hid hnk
    have HB : CFoot C (B k) := hin.foot he
    have HBt : Hid (tab ≠ B k) := hid (fun e => hn (e ▸ HB))
    have hoz : n.toNat = n := by omega
    by_cases hr : 1 < e.refs
    · have e1 : closeE S L n = 0 := by unfold closeE; rw [hx]; exact if_pos hr
      have e2 : closeS S L n = putS S k { e with refs := e.refs - 1 } := by unfold closeS; rw [hx]; exact if_pos hr
      rw [e1, e2]
      clear hin ht hok hn hx e1 e2 e4 he hs hnz hnk hS hkind hp
      go_enter Tryz.func124, Tryz.ntmps124
      go_wp2_with (go_at_call 222; refine HG.out.mono ?_; rintro e w' ⟨rfl, t⟩; have HTt := hid t; clear t; have c0 := (HT.out.turned HTt.out id).ent n.toNat hj; have c1 := (HT.out.turned HTt.out id).mark n.toNat hj; have z0 := (HT.out.turned HTt.out id).fz (n.toNat * 2); have z1 := (HT.out.turned HTt.out id).fz (n.toNat * 2 + 1); have HD := hid (((HI.out.still HTt.out).en k _ HE.out).turned (turn_tab_own tab w' (n.toNat * 2) (n.toNat * 2 + 1) (.int .i64 0) (.bool false)) (fun x => HBt.out x.symm)); have c5 := HD.out.c5; have z5 := HD.out.fz 5)
      go_ret
      have hi := (HI.out.still HTt.out).beside HN.out (turn_tab_own tab w' (n.toNat * 2) (n.toNat * 2 + 1) (.int .i64 0) (.bool false))
      have ht2 := (HT.out.turned HTt.out id).set hj 0 false (by omega)
      exact ⟨rfl, .same (hi.put HE.out (HD.out.setRefs (c := e.refs - 1) (by omega)) (turn_own _ _ _ _)) (ht2.turned (turn_own (B k) _ _ _) (fun x => HBt.out x)) (((no_turn HTt.out).trans (turn_tab C tab _ _ _ _ _)).trans (turn_ent C tab HB _ _ _)) HN.out⟩
    · have hr' : e.refs = 1 := by omega
      have e1 : closeE S L n = if e.kind = 1 then dropE S.T e.node else 0 := by unfold closeE; rw [hx]; exact if_neg hr
      have e2 : closeS S L n = goneS (delS S k) e := by unfold closeS; rw [hx]; exact if_neg hr
      obtain ⟨Z, hZ⟩ : ∃ Z, closeE S L n = Z := ⟨_, rfl⟩
      obtain ⟨S2, hS2⟩ : ∃ S2, closeS S L n = S2 := ⟨_, rfl⟩
      rw [hZ, hS2]
      have HZ := hid (hZ.symm.trans e1)
      have HS2 := hid (hS2.symm.trans e2)
      clear hZ hS2
      have HR := hid hr'
      have HBd : Hid (∀ p, mget S.T e.node = some p → p.held < 1000000) := hid (fun p hp => by rw [hS.held _ p hp]; have h1 := hS.size; have h2 : heldE e.node S.es ≤ S.es.length := List.length_filter_le _ _; omega)
      clear hin ht hok hn hx e1 e2 e4 he hs hnz hnk hS hp hr hr' hrw hr1 hr2
      go_enter Tryz.func124, Tryz.ntmps124
      go_upto_region 9 with (go_at_call 222; refine HG.out.mono ?_; rintro e w' ⟨rfl, t⟩; have HTt := hid t; clear t; have c0 := (HT.out.turned HTt.out id).ent n.toNat hj; have c1 := (HT.out.turned HTt.out id).mark n.toNat hj; have z0 := (HT.out.turned HTt.out id).fz (n.toNat * 2); have z1 := (HT.out.turned HTt.out id).fz (n.toNat * 2 + 1); have HD := hid (((HI.out.still HTt.out).en k _ HE.out).turned (turn_tab_own tab w' (n.toNat * 2) (n.toNat * 2 + 1) (.int .i64 0) (.bool false)) (fun x => HBt.out x.symm)); have c5 := HD.out.c5; have z5 := HD.out.fz 5; rw [HR.out] at c5)
      have HI2 := hid (((HI.out.still HTt.out).beside HN.out (turn_tab_own tab w' (n.toNat * 2) (n.toNat * 2 + 1) (.int .i64 0) (.bool false))).put HE.out (HD.out.setRefs (z := 0) (c := 0) rfl) (turn_own (B k) _ 5 (.int .i64 0)))
      have HT2 := hid (((HT.out.turned HTt.out id).set hj 0 false (by omega)).turned (turn_own (B k) _ 5 (.int .i64 0)) (fun x => HBt.out x))
      have HTu := hid (((no_turn (X := fun j => CFoot C j ∨ j = tab) HTt.out).trans (turn_tab C tab w' (n.toNat * 2) (n.toNat * 2 + 1) (.int .i64 0) (.bool false))).trans (turn_ent C tab HB _ 5 (.int .i64 0)))
      have HD2 := hid (HD.out.setRefs (z := 0) (c := 0) rfl)
      clear c0 c1 z0 z1 c5 z5 HD
      have hh := HI2.out.h1
      go_upto_region 10 with (at_delete; refine wpList_mapdel rfl _ _ 201 3 207 rfl Tryz.underlying201 Tryz.underlying3 keyI om rfl HI2.out.mp ((L n.toNat).1 - 1) rfl ?_; intro w4 hm4 t4; rw [HNK.out] at hm4; have hi4 := HI2.out.del hm4 t4; rw [del_put HE.out] at hi4; have HI4 := hid hi4; have HT4 := hid (HT2.out.turned t4 (fun x => HN.out (x ▸ (show C om ≠ _ from by rw [HI.out.cm]; simp)))); have HTu4 := hid (HTu.out.trans (t4.mono (fun j _ hj => .inl (hj ▸ (show C om ≠ _ from by rw [HI.out.cm]; simp))))); have HD4 := hid (HD2.out.turned t4 (mark_ne (HI.out.ce _ _ HE.out) HI.out.cm (by simp))); clear hm4 t4 hi4 hh)
      clear HI2 HT2 HTu HD2
      rcases hkind with ⟨hk, _⟩ | ⟨hk, _, q, hq, hq1⟩ | ⟨hk, _, q, hq, hq1⟩
      · have c0 : w4.cell? ⟨B k, 0, none⟩ = some (.int .i64 1) := by rw [← hk]; exact HD4.out.c0
        have c2 : w4.cell? ⟨B k, 2, none⟩ = some (.int .i64 e.node) := HD4.out.c2
        have h0 := HI4.out.h0
        have e1 : (if e.kind = 1 then dropE S.T e.node else 0) = dropE S.T e.node := if_pos hk
        have e2 : goneS (delS S k) e = treeS (delS S k) (dropT S.T e.node) := if_pos hk
        have E1 := hid (HZ.out.trans e1)
        have E2 := hid (HS2.out.trans e2)
        clear HZ HS2
        have HC := hid (drop_is (HI4.out.still (Turn.refl _ _).drew).tr e.node HBd.out)
        clear hk e1 e2
        go_upto_region 11 with fail
        go_region_with (go_at_call 108; refine HC.out.mono ?_; rintro e w5 ⟨rfl, h5⟩; have H5 := hid h5; clear h5)
        all_goals go_wp2_with fail
        all_goals go_ret
        all_goals rw [E1.out, E2.out]
        all_goals (
          obtain ⟨Ft', C', hi5, hC5, ht5⟩ := (HI4.out.still (Turn.refl _ _).drew).tree H5.out
          have hlt : tab < w4.drew.heap.size := HT4.out.lt
          have htab : C' tab = C tab := (hC5 tab).resolve_right (by omega)
          refine ⟨rfl, .of hi5 ((HT4.out.turned (S := fun _ => False) (Turn.refl _ _).drew id).turned ht5 HN.out) (HTu4.out.drew.trans (ht5.mono (fun j _ hj => .inl hj))) (fun j hj => ?_) (fun hx => HN.out (by have hx : C' tab ≠ _ := hx; rw [htab] at hx; exact hx))⟩
          rcases hC5 j with h1 | h1
          · exact .inl (by have hj : C' j ≠ _ := hj; rw [h1] at hj; exact hj)
          · exact .inr (Nat.le_trans HTu4.out.size h1))
      · have c0 : w4.cell? ⟨B k, 0, none⟩ = some (.int .i64 2) := by rw [← hk]; exact HD4.out.c0
        have c3 : w4.cell? ⟨B k, 3, none⟩ = some (.pointer (some ⟨P e.pid, 0, none⟩)) := by
          have h1 := HD4.out.c3
          have h2 : pipeV P { e with refs := 0 } = ptrV (P e.pid) := if_neg (by show ¬ e.kind = 1; rw [hk]; decide)
          rw [h2] at h1; exact h1
        have HQ : Hid (S.ps[e.pid]? = some q) := hid hq
        have e1 : (if e.kind = 1 then dropE S.T e.node else 0) = 0 := if_neg (by rw [hk]; decide)
        have e2 : goneS (delS S k) e = pipeS (delS S k) e.pid { q with e0 := q.e0 - 1 } := by
          have h1 : goneS (delS S k) e = (S.ps[e.pid]?).elim (delS S k) fun q => pipeS (delS S k) e.pid (endP q e.kind) := if_neg (by rw [hk]; decide)
          rw [h1, hq]
          show pipeS _ _ (endP q e.kind) = _
          unfold endP
          rw [hk]
          rfl
        have E1 := hid (HZ.out.trans e1)
        have E2 := hid (HS2.out.trans e2)
        clear HZ HS2
        have HPp := hid ((HI4.out.still (Turn.refl _ _).drew).pp e.pid q hq)
        have HC := hid (close2 (b := q.b) HPp.out (by omega) (by omega))
        clear hk hq hq1 e1 e2
        go_upto_region 12 with fail
        go_region_with (go_at_call 225; refine HC.out.mono ?_; rintro e w5 ⟨rfl, hp5, t5⟩; have HP5 := hid hp5; have HT5 := hid t5; clear hp5 t5)
        all_goals go_wp2_with fail
        all_goals go_ret
        all_goals rw [E1.out, E2.out]
        all_goals exact ⟨rfl, .same ((HI4.out.still (Turn.refl _ _).drew).pipe HQ.out (q' := { q with e0 := q.e0 - 1 }) HP5.out HT5.out) ((HT4.out.turned (S := fun _ => False) (Turn.refl _ _).drew id).turned HT5.out (fun x => HN.out (x ▸ (show C _ ≠ _ from by rw [HI4.out.cp e.pid q HQ.out]; simp)))) (HTu4.out.drew.trans (HT5.out.mono (fun j _ hj => .inl (hj ▸ (show C _ ≠ _ from by rw [HI4.out.cp e.pid q HQ.out]; simp))))) HN.out⟩
      · have c0 : w4.cell? ⟨B k, 0, none⟩ = some (.int .i64 3) := by rw [← hk]; exact HD4.out.c0
        have c3 : w4.cell? ⟨B k, 3, none⟩ = some (.pointer (some ⟨P e.pid, 0, none⟩)) := by
          have h1 := HD4.out.c3
          have h2 : pipeV P { e with refs := 0 } = ptrV (P e.pid) := if_neg (by show ¬ e.kind = 1; rw [hk]; decide)
          rw [h2] at h1; exact h1
        have HQ : Hid (S.ps[e.pid]? = some q) := hid hq
        have e1 : (if e.kind = 1 then dropE S.T e.node else 0) = 0 := if_neg (by rw [hk]; decide)
        have e2 : goneS (delS S k) e = pipeS (delS S k) e.pid { q with e1 := q.e1 - 1 } := by
          have h1 : goneS (delS S k) e = (S.ps[e.pid]?).elim (delS S k) fun q => pipeS (delS S k) e.pid (endP q e.kind) := if_neg (by rw [hk]; decide)
          rw [h1, hq]
          show pipeS _ _ (endP q e.kind) = _
          unfold endP
          rw [hk]
          rfl
        have E1 := hid (HZ.out.trans e1)
        have E2 := hid (HS2.out.trans e2)
        clear HZ HS2
        have HPp := hid ((HI4.out.still (Turn.refl _ _).drew).pp e.pid q hq)
        have HC := hid (close3 (b := q.b) HPp.out (by omega) (by omega))
        clear hk hq hq1 e1 e2
        go_upto_region 12 with fail
        go_region_with (go_at_call 225; refine HC.out.mono ?_; rintro e w5 ⟨rfl, hp5, t5⟩; have HP5 := hid hp5; have HT5 := hid t5; clear hp5 t5)
        all_goals go_wp2_with fail
        all_goals go_ret
        all_goals rw [E1.out, E2.out]
        all_goals exact ⟨rfl, .same ((HI4.out.still (Turn.refl _ _).drew).pipe HQ.out (q' := { q with e1 := q.e1 - 1 }) HP5.out HT5.out) ((HT4.out.turned (S := fun _ => False) (Turn.refl _ _).drew id).turned HT5.out (fun x => HN.out (x ▸ (show C _ ≠ _ from by rw [HI4.out.cp e.pid q HQ.out]; simp)))) (HTu4.out.drew.trans (HT5.out.mono (fun j _ hj => .inl (hj ▸ (show C _ ≠ _ from by rw [HI4.out.cp e.pid q HQ.out]; simp))))) HN.out⟩
end
end Go.Proofs.YtiohpmcedfbcgacGreatDoor
/- Package desc: Mark. Conditions: each theorem's own premises. -/
namespace Go.Proofs.YtiohpmcedfbcgacGreatDoor
open Go.RowKit
set_option linter.unusedVariables false

def markL (S : PS) (L : PTab) (n : Int) (c : Bool) : PTab := (entL S L n).elim L fun _ => tset L n.toNat ((L n.toNat).1, c)
section
variable {w w' w1 w2 : World} {fb tb om b tab : Nat} {S S' : PS} {B : Int → Nat} {P : Nat → Nat} {Ft F : Nat → Prop} {C : Nat → Nat × Int} {e e' : PE} {k n : Int} {L L' : PTab}
/-! ### Mark -/
theorem TabIs.setMark (h : TabIs w tab L) {i : Nat} (hi : i < 8) (c : Bool) : TabIs (w.setCell ⟨tab, i * 2 + 1, none⟩ (.bool c)) tab (tset L i ((L i).1, c)) := by
  refine ⟨fun j hj => ?_, fun j hj => ?_, fun j => by rw [World.frozen?_setCell]; exact h.fz j, fun j hj => ?_⟩
  · rw [World.cell?_setCell_other _ _ _ _ (fun e => by simp at e; try omega)]
    show _ = some (Value.int IntKind.i64 (if j = i then ((L i).1, c) else L j).1)
    by_cases e : j = i
    · rw [if_pos e, e]; exact h.ent i hi
    · rw [if_neg e]; exact h.ent j hj
  · show _ = some (Value.bool (if j = i then ((L i).1, c) else L j).2)
    by_cases e : j = i
    · subst e
      rw [World.cell?_setCell_same _ _ _ (h.mark j hj), if_pos rfl]
    · rw [World.cell?_setCell_other _ _ _ _ (fun e2 => by simp at e2; try omega), if_neg e]; exact h.mark j hj
  · show 0 ≤ (if j = i then ((L i).1, c) else L j).1 ∧ (if j = i then ((L i).1, c) else L j).1 ≤ 40
    by_cases e : j = i
    · rw [if_pos e]; exact h.pos i hi
    · rw [if_neg e]; exact h.pos j hj
set_option maxHeartbeats 1000000 in
set_option maxRecDepth 100000 in
theorem mark_is (h : FilesIs w fb tb S F) (ht : TabIs w tab L) (hok : TabOk S L) (hn : ¬ F tab) (n : Int) (c : Bool) :
    Calls Tryz.prog 123 #[.pointer (some ⟨fb, 0, none⟩), .pointer (some ⟨tab, 0, none⟩), .int .i64 n, .bool c] w fun e w' => e = .returned (TErr (getE L n)) ∧ FilesTo fb tb tab F w w' S (markL S L n c) := by
  obtain ⟨om, B, P, Ft, C, hin, rfl⟩ := h
  cases hx : entL S L n with
  | none =>
    have e1 : getE L n = 7 := by unfold getE; rw [entL_none hok hx]; rfl
    have e4 : markL S L n c = L := by unfold markL; rw [hx]; rfl
    rw [e1, e4]
    have HG := hid (get_none hin ht hok hx)
    have HK : Hid (∀ w', Turn (fun _ => False) w w' → FilesTo fb tb tab (CFoot C) w w' S L) := hid (fun w' t => .same (hin.turned t (fun _ _ => id)) (ht.turned t id) (no_turn t) hn)
    clear hin ht hok hn hx e1 e4
    go_enter Tryz.func123, Tryz.ntmps123
    go_wp2_with (go_at_call 222; refine HG.out.mono ?_; rintro e w' ⟨rfl, t⟩)
    go_ret
    exact ⟨rfl, HK.out _ t⟩
  | some x =>
    obtain ⟨k, e⟩ := x
    have hs := (entL_some hx).1
    obtain ⟨hn0, hn8, hnz, hnk⟩ := slotL_some hs
    have e1 : getE L n = 0 := by unfold getE; rw [hs]; rfl
    have e4 : markL S L n c = tset L n.toNat ((L n.toNat).1, c) := by unfold markL; rw [hx]; rfl
    rw [e1, e4]
    have HG := hid (get_some hin ht hok hx)
    have HI := hid hin
    have HT := hid ht
    have HN := hid hn
    have hj : n.toNat < 8 := by omega
    have hz : n.toNat = n := by omega
    clear hin ht hok hn hx e1 e4 hs hnz hnk
    go_enter Tryz.func123, Tryz.ntmps123
    go_wp2_with (go_at_call 222; refine HG.out.mono ?_; rintro e w' ⟨rfl, t⟩; have HTt := hid t; clear t; have c1 := (HT.out.turned HTt.out id).mark n.toNat hj; have z1 := (HT.out.turned HTt.out id).fz (n.toNat * 2 + 1))
    go_ret
    exact ⟨rfl, .same ((HI.out.turned HTt.out (fun _ _ => id)).beside HN.out (turn_own tab _ (n.toNat * 2 + 1) (.bool c))) ((HT.out.turned HTt.out id).setMark hj c) ((no_turn HTt.out).trans ((Turn.refl _ _).setCell _ _ (fun _ => .inr rfl))) HN.out⟩
end
end Go.Proofs.YtiohpmcedfbcgacGreatDoor
