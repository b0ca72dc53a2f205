/- Several texts of ours in one, in build order (DescFiles, DescPut, DescSeek). Conditions: each theorem's own premises. -/
import Derived.Test.YtiohpmcedfbcgabDoorDescTab
import Derived.Test.YtiohpmcedfbcgabDoorTreeHold
import Derived.Test.YtiohpmcedfbcgabDoorPipe
/- Package desc: what is open, in memory and plain; get, Has, Open, Mark, Seek. Conditions: each theorem's own premises. -/
namespace Go.Proofs.YtiohpmcedfbcgabDoor
open Go.RowKit
set_option linter.unusedVariables false

/-- What is open: its kind (1 a file, 2 and 3 a pipe's ends), its uses, its node, its pipe, its place, by how many numbers. -/
structure PE where
  kind : Int
  prot : Int
  node : Int
  pid : Nat
  at' : Int
  refs : Nat
structure PP where
  b : ByteArray
  e0 : Int
  e1 : Int
structure PS where
  T : PT
  es : List (Int × PE)
  ps : List PP
def pipeV (P : Nat → Nat) (e : PE) : Value := if e.kind = 1 then .pointer none else ptrV (P e.pid)
structure EntAt (w : World) (b : Nat) (P : Nat → Nat) (e : PE) : Prop where
  c0 : w.cell? ⟨b, 0, none⟩ = some (.int .i64 e.kind)
  c1 : w.cell? ⟨b, 1, none⟩ = some (.int .i64 e.prot)
  c2 : w.cell? ⟨b, 2, none⟩ = some (.int .i64 e.node)
  c3 : w.cell? ⟨b, 3, none⟩ = some (pipeV P e)
  c4 : w.cell? ⟨b, 4, none⟩ = some (.int .i64 e.at')
  c5 : w.cell? ⟨b, 5, none⟩ = some (.int .i64 (e.refs : Int))
  fz : ∀ i, w.frozen? ⟨b, i, none⟩ = false
def keysE (B : Int → Nat) (es : List (Int × PE)) : List (Int × Nat) := es.map fun t => (t.1, B t.1)
/-- How many entries are of a node. -/
def heldE (n : Int) (es : List (Int × PE)) : Nat := (es.filter fun t => decide (t.2.kind = 1 ∧ t.2.node = n)).length
/-- An entry as it may be. -/
def EOk (S : PS) (e : PE) : Prop :=
  (1 ≤ e.refs ∧ e.refs ≤ 1000000 ∧ 0 ≤ e.at' ∧ e.at' ≤ 200) ∧
  ((e.kind = 1 ∧ 1 ≤ e.prot ∧ e.prot ≤ 3 ∧ ∃ p, mget S.T e.node = some p ∧ p.isDir = false) ∨
   (e.kind = 2 ∧ e.prot = 1 ∧ ∃ q, S.ps[e.pid]? = some q ∧ q.e0 = 1) ∨ (e.kind = 3 ∧ e.prot = 2 ∧ ∃ q, S.ps[e.pid]? = some q ∧ q.e1 = 1))
structure DOk (S : PS) : Prop where
  nd : MNodup S.es
  keys : ∀ k e, mget S.es k = some e → 0 ≤ k ∧ k < 40
  ent : ∀ k e, mget S.es k = some e → EOk S e
  size : S.es.length ≤ 40
  one : ∀ k j e f, mget S.es k = some e → mget S.es j = some f → e.kind ≠ 1 → e.kind = f.kind → e.pid = f.pid → k = j
  pipes : ∀ (i : Nat) (q : PP), S.ps[i]? = some q → q.b.size ≤ 16 ∧ (q.e0 = 0 ∨ q.e0 = 1) ∧ (q.e1 = 0 ∨ q.e1 = 1)
  held : ∀ n p, mget S.T n = some p → p.held = heldE n S.es
/-- Blocks bear marks: (1,0) the header, (2,0) the map, (3,k) an entry, (4,i) a pipe, (5,0) the tree; (0,0): none of these. -/
structure FilesIn (w : World) (fb tb om : Nat) (S : PS) (B : Int → Nat) (P : Nat → Nat) (Ft : Nat → Prop) (C : Nat → Nat × Int) : Prop where
  h0 : w.cell? ⟨fb, 0, none⟩ = some (.pointer (some ⟨tb, 0, none⟩))
  h1 : w.cell? ⟨fb, 1, none⟩ = some (.map (some om))
  tr : TreeIs w tb S.T Ft
  mp : MapIs w om (.int .i64) encI ptrV (keysE B S.es)
  en : ∀ k e, mget S.es k = some e → EntAt w (B k) P e
  pp : ∀ (i : Nat) (q : PP), S.ps[i]? = some q → PipeIs w (P i) q.b q.e0 q.e1
  cf : C fb = (1, 0)
  cm : C om = (2, 0)
  ce : ∀ k e, mget S.es k = some e → C (B k) = (3, k)
  cp : ∀ (i : Nat) (q : PP), S.ps[i]? = some q → C (P i) = (4, (i : Int))
  ct : ∀ k, Ft k → C k = (5, 0)
  low : ∀ k, C k ≠ (0, 0) → k < w.heap.size
def CFoot (C : Nat → Nat × Int) (k : Nat) : Prop := C k ≠ (0, 0)
/-- Files in block fb over a tree in block tb, on the blocks F. -/
def FilesIs (w : World) (fb tb : Nat) (S : PS) (F : Nat → Prop) : Prop := ∃ om B P Ft C, FilesIn w fb tb om S B P Ft C ∧ F = CFoot C
theorem keysE_get (B : Int → Nat) : ∀ (es : List (Int × PE)) (n : Int), mget (keysE B es) n = (mget es n).map fun _ => B n := by
  intro T n
  unfold mget keysE
  induction T with
  | nil => rfl
  | cons t T ih =>
    rw [List.map_cons, List.find?_cons, List.find?_cons]
    by_cases e : t.1 = n
    · simp only [e, decide_true]; rfl
    · simp only [e, decide_false]; exact ih
section
variable {w w' : World} {fb tb om b tab : Nat} {S S' : PS} {B : Int → Nat} {P : Nat → Nat} {Ft F : Nat → Prop} {C : Nat → Nat × Int} {e e' : PE} {k n : Int} {L : PTab}
theorem EntAt.lt (h : EntAt w b P e) : b < w.heap.size := lt_of_cell h.c0
theorem EntAt.turned {S : Nat → Prop} (h : EntAt w b P e) (t : Turn S w w') (hb : ¬ S b) : EntAt w' b P e :=
  ⟨(t.cell (a := ⟨b, 0, none⟩) h.lt hb).trans h.c0, (t.cell (a := ⟨b, 1, none⟩) h.lt hb).trans h.c1, (t.cell (a := ⟨b, 2, none⟩) h.lt hb).trans h.c2, (t.cell (a := ⟨b, 3, none⟩) h.lt hb).trans h.c3, (t.cell (a := ⟨b, 4, none⟩) h.lt hb).trans h.c4, (t.cell (a := ⟨b, 5, none⟩) h.lt hb).trans h.c5, fun i => (t.frozen (a := ⟨b, i, none⟩) h.lt hb).trans (h.fz i)⟩
theorem FilesIn.turned {X : Nat → Prop} (h : FilesIn w fb tb om S B P Ft C) (t : Turn X w w') (hn : ∀ k, C k ≠ (0, 0) → ¬ X k) : FilesIn w' fb tb om S B P Ft C :=
  { h with
    h0 := (t.cell (a := ⟨fb, 0, none⟩) (lt_of_cell h.h0) (hn fb (by rw [h.cf]; simp))).trans h.h0
    h1 := (t.cell (a := ⟨fb, 1, none⟩) (lt_of_cell h.h1) (hn fb (by rw [h.cf]; simp))).trans h.h1
    tr := h.tr.turned t (fun k hk => hn k (by rw [h.ct k hk]; simp))
    mp := h.mp.turned t (hn om (by rw [h.cm]; simp))
    en := fun k e he => (h.en k e he).turned t (hn _ (by rw [h.ce k e he]; simp))
    pp := fun i q hq => (h.pp i q hq).turned t (hn _ (by rw [h.cp i q hq]; simp))
    low := fun k hk => Nat.lt_of_lt_of_le (h.low k hk) t.size }
theorem FilesIs.turned {X : Nat → Prop} (h : FilesIs w fb tb S F) (t : Turn X w w') (hn : ∀ k, F k → ¬ X k) : FilesIs w' fb tb S F := by
  obtain ⟨om, B, P, Ft, C, h1, rfl⟩ := h
  exact ⟨om, B, P, Ft, C, h1.turned t hn, rfl⟩
theorem FilesIs.low (h : FilesIs w fb tb S F) (k : Nat) (hk : F k) : k < w.heap.size := by
  obtain ⟨om, B, P, Ft, C, h1, rfl⟩ := h
  exact h1.low k hk
/-- The table's numbers lead to what is open. -/
def TabOk (S : PS) (L : PTab) : Prop := ∀ i, i < 8 → (L i).1 = 0 ∨ ∃ e, mget S.es ((L i).1 - 1) = some e
/-- The key of a number's entry. -/
def slotL (L : PTab) (n : Int) : Option Int := if 0 ≤ n ∧ n < 8 ∧ (L n.toNat).1 ≠ 0 then some ((L n.toNat).1 - 1) else none
def getE (L : PTab) (n : Int) : Int := (slotL L n).elim 7 fun _ => 0
def getV (B : Int → Nat) (L : PTab) (n : Int) : Value := (slotL L n).elim (.pointer none) fun k => ptrV (B k)
theorem slotL_some (h : slotL L n = some k) : 0 ≤ n ∧ n < 8 ∧ (L n.toNat).1 ≠ 0 ∧ (L n.toNat).1 - 1 = k := by
  unfold slotL at h
  split at h
  · rename_i h1
    exact ⟨h1.1, h1.2.1, h1.2.2, Option.some.inj h⟩
  · cases h
theorem TabOk.there (h : TabOk S L) (hs : slotL L n = some k) : ∃ e, mget S.es k = some e := by
  obtain ⟨h1, h2, h3, h4⟩ := slotL_some hs
  rcases h n.toNat (by omega) with h5 | ⟨e, he⟩
  · exact absurd h5 h3
  · exact ⟨e, by rw [← h4]; exact he⟩
theorem zeroEnt (w : World) : (zeroValue 212).run Tryd.prog w = .ok (.pointer none) w := by kernel_rfl
theorem FilesIn.look (h : FilesIn w fb tb om S B P Ft C) (he : mget S.es k = some e) : (Instr.lookup 208 (.map (some om)) (.int .i64 k) false).run Tryd.prog w = .ok (.pointer (some ⟨B k, 0, none⟩)) w := by
  have h1 := h.mp.run_lookup keyI Tryd.underlying208 Tryd.underlying3 (zeroEnt w) k false
  refine h1.trans ?_
  rw [keysE_get, he]
  rfl
theorem FilesIn.looknone (h : FilesIn w fb tb om S B P Ft C) (he : mget S.es k = none) : (Instr.lookup 208 (.map (some om)) (.int .i64 k) false).run Tryd.prog w = .ok (.pointer none) w := by
  have h1 := h.mp.run_lookup keyI Tryd.underlying208 Tryd.underlying3 (zeroEnt w) k false
  refine h1.trans ?_
  rw [keysE_get, he]
  rfl
set_option maxHeartbeats 1000000 in
set_option maxRecDepth 100000 in
theorem get_is (h : FilesIn w fb tb om S B P Ft C) (ht : TabIs w tab L) (hok : TabOk S L) (n : Int) :
    Calls Tryd.prog 131 #[.pointer (some ⟨fb, 0, none⟩), .pointer (some ⟨tab, 0, none⟩), .int .i64 n] w fun e w' => e = .returned (.tuple #[getV B L n, TErr (getE L n)]) ∧ Turn (fun _ => False) w w' := by
  by_cases h1 : 0 ≤ n ∧ n < 8
  · obtain ⟨h1, h2⟩ := h1
    have hn8 : n.toNat < 8 := by omega
    have c1 := ht.ent n.toNat hn8
    have hp := ht.pos n.toNat hn8
    by_cases hz : (L n.toNat).1 = 0
    · have e1 : slotL L n = none := if_neg (fun x => x.2.2 hz)
      have e2 : getV B L n = .pointer none := by unfold getV; rw [e1]; rfl
      have e3 : TErr (getE L n) = .iface 40 (.int .i64 7) := by unfold getE; rw [e1]; rfl
      rw [e2, e3]
      rw [hz] at c1
      clear h ht hok e1 e2 e3 hp hn8
      go_enter Tryd.func131, Tryd.ntmps131
      go_wp2_with fail
      go_ret2
      exact ⟨rfl, Turn.refl _ _⟩
    · have e1 : slotL L n = some ((L n.toNat).1 - 1) := if_pos ⟨h1, h2, hz⟩
      have e2 : getV B L n = ptrV (B ((L n.toNat).1 - 1)) := by unfold getV; rw [e1]; rfl
      have e3 : TErr (getE L n) = .nilIface := by unfold getE; rw [e1]; rfl
      obtain ⟨e, he⟩ := hok.there e1
      have lk := (h.turned (X := fun _ => False) (Turn.refl _ w).drew (fun _ _ => id)).look he
      have hh := h.h1
      rw [e2, e3]
      have hzb : ((L n.toNat).1 == 0) = false := by simpa using hz
      have hw : IntKind.i64.wrap ((L n.toNat).1 - 1) = (L n.toNat).1 - 1 := IntWalk.i64_in _ (by omega)
      clear h ht hok e1 e2 e3 he hn8
      go_enter Tryd.func131, Tryd.ntmps131
      go_wp2_with fail
      go_region
      all_goals go_wp2_with fail
      all_goals go_ret2
      all_goals exact ⟨rfl, (Turn.refl _ _).drew⟩
  · have e1 : slotL L n = none := if_neg (fun x => h1 ⟨x.1, x.2.1⟩)
    have e2 : getV B L n = .pointer none := by unfold getV; rw [e1]; rfl
    have e3 : TErr (getE L n) = .iface 40 (.int .i64 7) := by unfold getE; rw [e1]; rfl
    rw [e2, e3]
    clear h ht hok e1 e2 e3
    by_cases hn : n < 0
    · clear h1
      go_enter Tryd.func131, Tryd.ntmps131
      go_wp2_with fail
      go_ret2
      exact ⟨rfl, Turn.refl _ _⟩
    · have h2 : 8 ≤ n := by omega
      clear h1
      go_enter Tryd.func131, Tryd.ntmps131
      go_wp2_with fail
      go_ret2
      exact ⟨rfl, Turn.refl _ _⟩
/-! ### Has, Open -/
theorem has_is (h : FilesIn w fb tb om S B P Ft C) (ht : TabIs w tab L) (hok : TabOk S L) (n : Int) :
    Calls Tryd.prog 85 #[.pointer (some ⟨fb, 0, none⟩), .pointer (some ⟨tab, 0, none⟩), .int .i64 n] w fun e w' => e = .returned (.bool (slotL L n).isSome) ∧ Turn (fun _ => False) w w' := by
  have HG := hid (get_is h ht hok n)
  clear h ht hok
  go_enter Tryd.func85, Tryd.ntmps85
  cases hs : slotL L n with
  | none =>
    have e2 : getV B L n = .pointer none := by unfold getV; rw [hs]; rfl
    have e3 : TErr (getE L n) = .iface 40 (.int .i64 7) := by unfold getE; rw [hs]; rfl
    rw [e2, e3] at HG
    clear hs e2 e3
    go_wp2_with (go_at_call 131; refine HG.out.mono ?_; rintro e w' ⟨rfl, ht'⟩)
    go_ret
    exact ⟨rfl, ht'⟩
  | some k =>
    have e2 : getV B L n = ptrV (B k) := by unfold getV; rw [hs]; rfl
    have e3 : TErr (getE L n) = .nilIface := by unfold getE; rw [hs]; rfl
    rw [e2, e3] at HG
    clear hs e2 e3
    go_wp2_with (go_at_call 131; refine HG.out.mono ?_; rintro e w' ⟨rfl, ht'⟩)
    go_ret
    exact ⟨rfl, ht'⟩
theorem open_is (h : FilesIn w fb tb om S B P Ft C) :
    Calls Tryd.prog 86 #[.pointer (some ⟨fb, 0, none⟩)] w fun e w' => e = .returned (.int .i64 (S.es.length : Int)) ∧ w' = w := by
  have hh := h.h1
  have hl := h.mp.run_len Tryd.underlying208 3
  rw [show (keysE B S.es).length = S.es.length from List.length_map ..] at hl
  clear h
  go_enter Tryd.func86, Tryd.ntmps86
  go_wp2_with fail
  go_ret
  exact ⟨rfl, rfl⟩
end
end Go.Proofs.YtiohpmcedfbcgabDoor
/- Package desc: one entry's, one pipe's, one number's change in memory; Mark, Seek, Dup. Conditions: each theorem's own premises. -/
namespace Go.Proofs.YtiohpmcedfbcgabDoor
open Go.RowKit
set_option linter.unusedVariables false

/-- Behind a call: the files S', the table L'. -/
def FilesTo (fb tb tab : Nat) (F : Nat → Prop) (w w' : World) (S' : PS) (L' : PTab) : Prop :=
  ∃ F', FilesIs w' fb tb S' F' ∧ TabIs w' tab L' ∧ Turn (fun k => F k ∨ k = tab) w w' ∧ (∀ k, F' k → F k ∨ w.heap.size ≤ k) ∧ ¬ F' tab
section
variable {w w' w1 w2 : World} {fb tb om b tab : Nat} {S S' : PS} {B : Int → Nat} {P : Nat → Nat} {Ft F : Nat → Prop} {C : Nat → Nat × Int} {e e' : PE} {k n : Int} {L L' : PTab}
theorem FilesIn.is (h : FilesIn w fb tb om S B P Ft C) : FilesIs w fb tb S (CFoot C) := ⟨om, B, P, Ft, C, h, rfl⟩
theorem keysE_put (B : Int → Nat) (S : List (Int × PE)) (hn : mget S k = some e) : keysE B (mput S k e') = keysE B S := by
  unfold keysE mput
  rw [hn]
  simp only [Option.isSome_some, if_true]
  unfold mupd
  rw [List.map_map]
  refine List.map_congr_left fun t _ => ?_
  show ((if t.1 = k then (t.1, e') else t).1, B (if t.1 = k then (t.1, e') else t).1) = (t.1, B t.1)
  by_cases e : t.1 = k
  · rw [if_pos e]
  · rw [if_neg e]
theorem keysE_del (B : Int → Nat) (T : List (Int × PE)) (n : Int) : keysE B (mdel T n) = mdel (keysE B T) n := by
  unfold keysE mdel
  rw [List.filter_map]
  rfl
def putS (S : PS) (k : Int) (e : PE) : PS := { S with es := mput S.es k e }
def delS (S : PS) (k : Int) : PS := { S with es := mdel S.es k }
def treeS (S : PS) (T : PT) : PS := { S with T := T }
def pipeS (S : PS) (i : Nat) (q : PP) : PS := { S with ps := S.ps.set i q }
theorem mark_ne {a b : Nat × Int} {i j : Nat} (h1 : C i = a) (h2 : C j = b) (h : a ≠ b) : i ≠ j := fun e => h (by rw [← h1, ← h2, e])
/-- One entry changes where it lies. -/
theorem FilesIn.put (h : FilesIn w fb tb om S B P Ft C) (he : mget S.es k = some e) (nd : EntAt w' (B k) P e') (t : Turn (fun j => j = B k) w w') : FilesIn w' fb tb om (putS S k e') B P Ft C := by
  have hC := h.ce k e he
  have hget : ∀ m q, mget (mput S.es k e') m = some q → (m = k ∧ q = e') ∨ (m ≠ k ∧ mget S.es m = some q) := fun m q hq => by
    rw [mget_mput] at hq
    by_cases e : m = k
    · rw [if_pos e] at hq; cases hq; exact .inl ⟨e, rfl⟩
    · rw [if_neg e] at hq; exact .inr ⟨e, hq⟩
  refine ⟨(t.cell (a := ⟨fb, 0, none⟩) (lt_of_cell h.h0) (mark_ne h.cf hC (by simp))).trans h.h0, (t.cell (a := ⟨fb, 1, none⟩) (lt_of_cell h.h1) (mark_ne h.cf hC (by simp))).trans h.h1, h.tr.turned t (fun j hj => mark_ne (h.ct j hj) hC (by simp)), ?_, fun m q hq => ?_, fun i q hq => (h.pp i q hq).turned t (mark_ne (h.cp i q hq) hC (by simp)), h.cf, h.cm, fun m q hq => ?_, h.cp, h.ct, fun j hj => Nat.lt_of_lt_of_le (h.low j hj) t.size⟩
  · show MapIs w' om (.int .i64) encI ptrV (keysE B (mput S.es k e'))
    rw [keysE_put B S.es he]
    exact h.mp.turned t (mark_ne h.cm hC (by simp))
  · rcases hget m q hq with ⟨rfl, rfl⟩ | ⟨h1, h2⟩
    · exact nd
    · exact (h.en m q h2).turned t (mark_ne (h.ce m q h2) hC (by simp only [ne_eq, Prod.mk.injEq, true_and]; exact h1))
  · rcases hget m q hq with ⟨rfl, rfl⟩ | ⟨h1, h2⟩
    · exact hC
    · exact h.ce m q h2
theorem FilesIn.del (h : FilesIn w fb tb om S B P Ft C) (hm : MapIs w' om (.int .i64) encI ptrV (mdel (keysE B S.es) k)) (t : Turn (fun j => j = om) w w') : FilesIn w' fb tb om (delS S k) B P Ft C := by
  have hget : ∀ m q, mget (mdel S.es k) m = some q → mget S.es m = some q := fun m q hq => by
    rw [mget_mdel] at hq
    split at hq
    · cases hq
    · exact hq
  exact ⟨(t.cell (a := ⟨fb, 0, none⟩) (lt_of_cell h.h0) (mark_ne h.cf h.cm (by simp))).trans h.h0, (t.cell (a := ⟨fb, 1, none⟩) (lt_of_cell h.h1) (mark_ne h.cf h.cm (by simp))).trans h.h1, h.tr.turned t (fun j hj => mark_ne (h.ct j hj) h.cm (by simp)), by show MapIs w' om _ _ _ (keysE B (mdel S.es k)); rw [keysE_del]; exact hm, fun m q hq => (h.en m q (hget m q hq)).turned t (mark_ne (h.ce m q (hget m q hq)) h.cm (by simp)), fun i q hq => (h.pp i q hq).turned t (mark_ne (h.cp i q hq) h.cm (by simp)), h.cf, h.cm, fun m q hq => h.ce m q (hget m q hq), h.cp, h.ct, fun j hj => Nat.lt_of_lt_of_le (h.low j hj) t.size⟩
theorem FilesIn.pipe (h : FilesIn w fb tb om S B P Ft C) {i : Nat} {q q' : PP} (hq : S.ps[i]? = some q) (hp : PipeIs w' (P i) q'.b q'.e0 q'.e1) (t : Turn (fun j => j = P i) w w') : FilesIn w' fb tb om (pipeS S i q') B P Ft C := by
  have hC := h.cp i q hq
  have hget : ∀ (m : Nat) (r : PP), (S.ps.set i q')[m]? = some r → (m = i ∧ r = q') ∨ (m ≠ i ∧ S.ps[m]? = some r) := fun m r hr => by
    by_cases e : m = i
    · subst e
      rw [List.getElem?_set_self (by rcases Nat.lt_or_ge m S.ps.length with h1 | h1; exact h1; rw [List.getElem?_eq_none h1] at hq; cases hq)] at hr
      exact .inl ⟨rfl, (Option.some.inj hr).symm⟩
    · rw [List.getElem?_set_ne (fun h => e h.symm)] at hr
      exact .inr ⟨e, hr⟩
  refine ⟨(t.cell (a := ⟨fb, 0, none⟩) (lt_of_cell h.h0) (mark_ne h.cf hC (by simp))).trans h.h0, (t.cell (a := ⟨fb, 1, none⟩) (lt_of_cell h.h1) (mark_ne h.cf hC (by simp))).trans h.h1, h.tr.turned t (fun j hj => mark_ne (h.ct j hj) hC (by simp)), h.mp.turned t (mark_ne h.cm hC (by simp)), fun m r hr => (h.en m r hr).turned t (mark_ne (h.ce m r hr) hC (by simp)), fun m r hr => ?_, h.cf, h.cm, h.ce, fun m r hr => ?_, h.ct, fun j hj => Nat.lt_of_lt_of_le (h.low j hj) t.size⟩
  · rcases hget m r hr with ⟨rfl, rfl⟩ | ⟨h1, h2⟩
    · exact hp
    · exact (h.pp m r h2).turned t (mark_ne (h.cp m r h2) hC (by simp only [ne_eq, Prod.mk.injEq, true_and]; omega))
  · rcases hget m r hr with ⟨rfl, rfl⟩ | ⟨h1, h2⟩
    · exact hC
    · exact h.cp m r h2
/-- The tree changes. -/
theorem FilesIn.tree {T' : PT} (h : FilesIn w fb tb om S B P Ft C) (ht : TreeTo tb Ft w w' T') :
    ∃ Ft' C', FilesIn w' fb tb om (treeS S T') B P Ft' C' ∧ (∀ j, C' j = C j ∨ w.heap.size ≤ j) ∧ Turn (fun j => CFoot C j) w w' := by
  classical
  obtain ⟨Ft', h1, t, h3⟩ := ht
  have hlow : ∀ j, Ft j → j < w.heap.size := fun j hj => h.low j (by rw [h.ct j hj]; simp)
  refine ⟨Ft', fun j => if w.heap.size ≤ j then (if Ft' j then (5, 0) else (0, 0)) else C j, ?_, fun j => ?_, t.mono (fun j _ hj => by show C j ≠ _; rw [h.ct j hj]; simp)⟩
  · have hC : ∀ j, C j ≠ (0, 0) → (if w.heap.size ≤ j then (if Ft' j then ((5, 0) : Nat × Int) else (0, 0)) else C j) = C j := fun j hj => if_neg (by have := h.low j hj; omega)
    have hne : ∀ j x, C j = x → x ≠ (0, 0) → x ≠ (5, 0) → ¬ Ft j := fun j x h1 h2 h3 h4 => h3 (by rw [← h1, h.ct j h4])
    refine ⟨(t.cell (a := ⟨fb, 0, none⟩) (lt_of_cell h.h0) (hne _ _ h.cf (by simp) (by simp))).trans h.h0, (t.cell (a := ⟨fb, 1, none⟩) (lt_of_cell h.h1) (hne _ _ h.cf (by simp) (by simp))).trans h.h1, h1, h.mp.turned t (hne _ _ h.cm (by simp) (by simp)), fun m q hq => (h.en m q hq).turned t (hne _ _ (h.ce m q hq) (by simp) (by simp)), fun i q hq => (h.pp i q hq).turned t (hne _ _ (h.cp i q hq) (by simp) (by simp)), ?_, ?_, fun m q hq => ?_, fun i q hq => ?_, fun j hj => ?_, fun j hj => ?_⟩
    · rw [hC _ (by rw [h.cf]; simp)]; exact h.cf
    · rw [hC _ (by rw [h.cm]; simp)]; exact h.cm
    · show (if _ then _ else _) = _; rw [hC _ (by rw [h.ce m q hq]; simp)]; exact h.ce m q hq
    · show (if _ then _ else _) = _; rw [hC _ (by rw [h.cp i q hq]; simp)]; exact h.cp i q hq
    · show (if _ then _ else _) = _
      by_cases e : w.heap.size ≤ j
      · rw [if_pos e, if_pos hj]
      · rw [if_neg e]
        rcases h3 j hj with h4 | h4
        · exact h.ct j h4
        · exact absurd h4 e
    · by_cases e : w.heap.size ≤ j
      · by_cases e2 : Ft' j
        · exact h1.foot_lt j e2
        · exact absurd (by show (if _ then _ else _) = _; rw [if_pos e, if_neg e2]) hj
      · exact Nat.lt_of_lt_of_le (by omega) t.size
  · by_cases e : w.heap.size ≤ j
    · exact .inr e
    · exact .inl (if_neg e)
theorem EntAt.setAt (h : EntAt w b P e) (z : Int) : EntAt (w.setCell ⟨b, 4, none⟩ (.int .i64 z)) b P { e with at' := z } :=
  ⟨(World.cell?_setCell_other _ _ _ _ (fun e => by simp at e)).trans h.c0, (World.cell?_setCell_other _ _ _ _ (fun e => by simp at e)).trans h.c1, (World.cell?_setCell_other _ _ _ _ (fun e => by simp at e)).trans h.c2, (World.cell?_setCell_other _ _ _ _ (fun e => by simp at e)).trans h.c3, World.cell?_setCell_same _ _ _ h.c4, (World.cell?_setCell_other _ _ _ _ (fun e => by simp at e)).trans h.c5, fun i => by rw [World.frozen?_setCell]; exact h.fz i⟩
theorem EntAt.setRefs (h : EntAt w b P e) {z : Int} {c : Nat} (hz : z = c) : EntAt (w.setCell ⟨b, 5, none⟩ (.int .i64 z)) b P { e with refs := c } :=
  ⟨(World.cell?_setCell_other _ _ _ _ (fun e => by simp at e)).trans h.c0, (World.cell?_setCell_other _ _ _ _ (fun e => by simp at e)).trans h.c1, (World.cell?_setCell_other _ _ _ _ (fun e => by simp at e)).trans h.c2, (World.cell?_setCell_other _ _ _ _ (fun e => by simp at e)).trans h.c3, (World.cell?_setCell_other _ _ _ _ (fun e => by simp at e)).trans h.c4, by rw [hz]; exact World.cell?_setCell_same _ _ _ h.c5, fun i => by rw [World.frozen?_setCell]; exact h.fz i⟩
theorem TabIs.set (h : TabIs w tab L) {i : Nat} (hi : i < 8) (a : Int) (c : Bool) (ha : 0 ≤ a ∧ a ≤ 40) : TabIs ((w.setCell ⟨tab, i * 2, none⟩ (.int .i64 a)).setCell ⟨tab, i * 2 + 1, none⟩ (.bool c)) tab (tset L i (a, c)) := by
  refine ⟨fun j hj => ?_, fun j hj => ?_, fun j => by rw [World.frozen?_setCell, World.frozen?_setCell]; exact h.fz j, fun j hj => ?_⟩
  · rw [World.cell?_setCell_other _ _ _ _ (fun e => by simp at e; try omega)]
    by_cases e : j = i
    · subst e
      rw [World.cell?_setCell_same _ _ _ (h.ent j hj)]
      show _ = some (Value.int IntKind.i64 (if j = j then (a, c) else L j).1); rw [if_pos rfl]
    · rw [World.cell?_setCell_other _ _ _ _ (fun e2 => by simp at e2; try omega)]
      show _ = some (Value.int IntKind.i64 (if j = i then (a, c) else L j).1); rw [if_neg e]; exact h.ent j hj
  · by_cases e : j = i
    · subst e
      rw [World.cell?_setCell_same _ _ _ ((World.cell?_setCell_other _ _ _ _ (fun e2 => by simp at e2)).trans (h.mark j hj))]
      show _ = some (Value.bool (if j = j then (a, c) else L j).2); rw [if_pos rfl]
    · rw [World.cell?_setCell_other _ _ _ _ (fun e2 => by simp at e2; try omega), World.cell?_setCell_other _ _ _ _ (fun e2 => by simp at e2; try omega)]
      show _ = some (Value.bool (if j = i then (a, c) else L j).2); rw [if_neg e]; exact h.mark j hj
  · show 0 ≤ (if j = i then (a, c) else L j).1 ∧ (if j = i then (a, c) else L j).1 ≤ 40
    by_cases e : j = i
    · rw [if_pos e]; exact ha
    · rw [if_neg e]; exact h.pos j hj
theorem FilesTo.of {om' : Nat} {B' : Int → Nat} {P' : Nat → Nat} {Ft' : Nat → Prop} {C' : Nat → Nat × Int} (h : FilesIn w' fb tb om' S' B' P' Ft' C') (ht : TabIs w' tab L') (t : Turn (fun j => CFoot C j ∨ j = tab) w w') (hC : ∀ j, CFoot C' j → CFoot C j ∨ w.heap.size ≤ j) (hn : ¬ CFoot C' tab) : FilesTo fb tb tab (CFoot C) w w' S' L' :=
  ⟨CFoot C', h.is, ht, t, hC, hn⟩
theorem FilesTo.same (h : FilesIn w' fb tb om S' B P Ft C) (ht : TabIs w' tab L') (t : Turn (fun j => CFoot C j ∨ j = tab) w w') (hn : ¬ CFoot C tab) : FilesTo fb tb tab (CFoot C) w w' S' L' :=
  .of h ht t (fun _ h => .inl h) hn
/-- A number's key and entry. -/
def entL (S : PS) (L : PTab) (n : Int) : Option (Int × PE) := (slotL L n).bind fun k => (mget S.es k).map fun e => (k, e)
theorem entL_some (h : entL S L n = some (k, e)) : slotL L n = some k ∧ mget S.es k = some e := by
  unfold entL at h
  cases hs : slotL L n with
  | none => rw [hs] at h; cases h
  | some k' =>
    rw [hs] at h
    have h : (mget S.es k').map (fun e => (k', e)) = some (k, e) := h
    cases he : mget S.es k' with
    | none => rw [he] at h; cases h
    | some e' =>
      rw [he] at h
      have h := Option.some.inj h
      injection h with h1 h2
      subst h1; subst h2
      exact ⟨rfl, he⟩
theorem entL_none (hok : TabOk S L) (h : entL S L n = none) : slotL L n = none := by
  cases hs : slotL L n with
  | none => rfl
  | some k =>
    obtain ⟨e, he⟩ := hok.there hs
    unfold entL at h
    rw [hs] at h
    have h : (mget S.es k).map (fun e => (k, e)) = none := h
    rw [he] at h
    cases h
theorem get_none (h : FilesIn w fb tb om S B P Ft C) (ht : TabIs w tab L) (hok : TabOk S L) (he : entL S L n = none) :
    Calls Tryd.prog 131 #[.pointer (some ⟨fb, 0, none⟩), .pointer (some ⟨tab, 0, none⟩), .int .i64 n] w fun e w' => e = .returned (.tuple #[.pointer none, .iface 40 (.int .i64 7)]) ∧ Turn (fun _ => False) w w' := by
  have hg := get_is h ht hok n
  have e1 := entL_none hok he
  have e2 : getV B L n = .pointer none := by unfold getV; rw [e1]; rfl
  have e3 : TErr (getE L n) = .iface 40 (.int .i64 7) := by unfold getE; rw [e1]; rfl
  rw [e2, e3] at hg
  exact hg
theorem get_some (h : FilesIn w fb tb om S B P Ft C) (ht : TabIs w tab L) (hok : TabOk S L) (he : entL S L n = some (k, e)) :
    Calls Tryd.prog 131 #[.pointer (some ⟨fb, 0, none⟩), .pointer (some ⟨tab, 0, none⟩), .int .i64 n] w fun e w' => e = .returned (.tuple #[.pointer (some ⟨B k, 0, none⟩), .nilIface]) ∧ Turn (fun _ => False) w w' := by
  have hg := get_is h ht hok n
  have e1 := (entL_some he).1
  have e2 : getV B L n = .pointer (some ⟨B k, 0, none⟩) := by unfold getV; rw [e1]; rfl
  have e3 : TErr (getE L n) = .nilIface := by unfold getE; rw [e1]; rfl
  rw [e2, e3] at hg
  exact hg
end
end Go.Proofs.YtiohpmcedfbcgabDoor
/- Package desc: Seek, Mark, Dup. Conditions: each theorem's own premises. -/
namespace Go.Proofs.YtiohpmcedfbcgabDoor
open Go.RowKit
set_option linter.unusedVariables false
def seekE (S : PS) (L : PTab) (n at' : Int) : Int := (entL S L n).elim 7 fun x => if x.2.kind ≠ 1 then 6 else if at' < 0 ∨ 200 < at' then 2 else 0
def seekS (S : PS) (L : PTab) (n at' : Int) : PS := if seekE S L n at' = 0 then (entL S L n).elim S fun x => putS S x.1 { x.2 with at' := at' } else S
def dupE (S : PS) (L : PTab) (n : Int) : Int := (entL S L n).elim 7 fun x => if leastL L < 0 then 12 else 0
def dupK (S : PS) (L : PTab) (n : Int) : Int := if dupE S L n = 0 then leastL L else 0
def dupS (S : PS) (L : PTab) (n : Int) : PS := if dupE S L n = 0 then (entL S L n).elim S fun x => putS S x.1 { x.2 with refs := x.2.refs + 1 } else S
def dupL (S : PS) (L : PTab) (n : Int) : PTab := if dupE S L n = 0 then tset L (leastL L).toNat ((L n.toNat).1, false) else L
section
variable {w w' w1 w2 : World} {fb tb om b tab : Nat} {S S' : PS} {B : Int → Nat} {P : Nat → Nat} {Ft F : Nat → Prop} {C : Nat → Nat × Int} {e e' : PE} {k n : Int} {L L' : PTab}
theorem turn_ent (C : Nat → Nat × Int) (tab : Nat) {b : Nat} (h : CFoot C b) (w : World) (i : Nat) (v : Value) : Turn (fun j => CFoot C j ∨ j = tab) w (w.setCell ⟨b, i, none⟩ v) := (Turn.refl _ _).setCell _ _ (fun _ => .inl h)
theorem turn_own (b : Nat) (w : World) (i : Nat) (v : Value) : Turn (fun j => j = b) w (w.setCell ⟨b, i, none⟩ v) := (Turn.refl _ _).setCell _ _ (fun _ => rfl)
theorem no_turn {X : Nat → Prop} (t : Turn (fun _ => False) w w') : Turn X w w' := t.mono (fun _ _ h => h.elim)
theorem FilesIn.foot (h : FilesIn w fb tb om S B P Ft C) (he : mget S.es k = some e) : CFoot C (B k) := by show C _ ≠ _; rw [h.ce k e he]; simp
set_option maxHeartbeats 1000000 in
set_option maxRecDepth 100000 in
theorem seek_is (h : FilesIs w fb tb S F) (ht : TabIs w tab L) (hok : TabOk S L) (hn : ¬ F tab) (n at' : Int) :
    Calls Tryd.prog 83 #[.pointer (some ⟨fb, 0, none⟩), .pointer (some ⟨tab, 0, none⟩), .int .i64 n, .int .i64 at'] w fun e w' => e = .returned (TErr (seekE S L n at')) ∧ FilesTo fb tb tab F w w' (seekS S L n at') L := by
  obtain ⟨om, B, P, Ft, C, hin, rfl⟩ := h
  cases hx : entL S L n with
  | none =>
    have e1 : seekE S L n at' = 7 := by unfold seekE; rw [hx]; rfl
    have e2 : seekS S L n at' = S := if_neg (by rw [e1]; decide)
    rw [e1, e2]
    have HG := hid (get_none hin ht hok hx)
    have HK : Hid (∀ w', Turn (fun _ => False) w w' → FilesTo fb tb tab (CFoot C) w w' S L) := hid (fun w' t => .same (hin.turned t (fun _ _ => id)) (ht.turned t id) (no_turn t) hn)
    clear hin ht hok hn hx e1 e2
    go_enter Tryd.func83, Tryd.ntmps83
    go_wp2_with (go_at_call 131; refine HG.out.mono ?_; rintro e w' ⟨rfl, t⟩)
    go_ret
    exact ⟨rfl, HK.out _ t⟩
  | some x =>
    obtain ⟨k, e⟩ := x
    have he := (entL_some hx).2
    have HG := hid (get_some hin ht hok hx)
    have HI := hid hin
    have HT := hid ht
    have HN := hid hn
    have HE := hid he
    by_cases hk : e.kind = 1
    · by_cases hr : at' < 0 ∨ 200 < at'
      · have e1 : seekE S L n at' = 2 := by unfold seekE; rw [hx]; show (if e.kind ≠ 1 then 6 else _) = _; rw [if_neg (by simpa using hk), if_pos hr]
        have e2 : seekS S L n at' = S := if_neg (by rw [e1]; decide)
        rw [e1, e2]
        clear hin ht hok hn hx e1 e2 he
        have HK := hid hk
        have HR := hid hr
        clear hk hr
        go_enter Tryd.func83, Tryd.ntmps83
        go_wp2_with (go_at_call 131; refine HG.out.mono ?_; rintro e w' ⟨rfl, t⟩; have c0 := ((HI.out.turned t (fun _ _ => id)).en _ _ HE.out).c0; rw [HK.out] at c0; have HTt := hid t; clear t; rcases HR.out with hr | hr)
        all_goals go_wp2_with fail
        all_goals go_ret
        all_goals exact ⟨rfl, .same (HI.out.turned HTt.out (fun _ _ => id)) (HT.out.turned HTt.out id) (no_turn HTt.out) HN.out⟩
      · have e1 : seekE S L n at' = 0 := by unfold seekE; rw [hx]; show (if e.kind ≠ 1 then 6 else _) = _; rw [if_neg (by simpa using hk), if_neg hr]
        have e2 : seekS S L n at' = putS S k { e with at' := at' } := by unfold seekS; rw [e1, if_pos rfl, hx]; rfl
        rw [e1, e2]
        clear hin ht hok hn hx e1 e2 he
        have HK := hid hk
        obtain ⟨hr1, hr2⟩ : 0 ≤ at' ∧ at' ≤ 200 := by omega
        clear hk hr
        go_enter Tryd.func83, Tryd.ntmps83
        go_wp2_with (go_at_call 131; refine HG.out.mono ?_; rintro e w' ⟨rfl, t⟩; have nd := (HI.out.turned t (fun _ _ => id)).en _ _ HE.out; have c0 := nd.c0; have c4 := nd.c4; have z4 := nd.fz 4; rw [HK.out] at c0; have HTt := hid t; clear t nd)
        all_goals go_ret
        have hi := HI.out.turned HTt.out (fun _ _ => id)
        exact ⟨rfl, .same (hi.put HE.out ((hi.en _ _ HE.out).setAt at') (turn_own _ _ _ _)) ((HT.out.turned HTt.out id).turned (turn_own (B k) _ _ _) (fun e => HN.out (e ▸ hi.foot HE.out))) ((no_turn HTt.out).trans (turn_ent C tab (hi.foot HE.out) _ _ _)) HN.out⟩
    · have e1 : seekE S L n at' = 6 := by unfold seekE; rw [hx]; show (if e.kind ≠ 1 then 6 else _) = _; rw [if_pos (by simpa using hk)]
      have e2 : seekS S L n at' = S := if_neg (by rw [e1]; decide)
      rw [e1, e2]
      clear hin ht hok hn hx e1 e2 he
      have HK : Hid ((e.kind != 1) = true) := hid (by simpa using hk)
      clear hk
      go_enter Tryd.func83, Tryd.ntmps83
      go_wp2_with (go_at_call 131; refine HG.out.mono ?_; rintro e w' ⟨rfl, t⟩; have c0 := ((HI.out.turned t (fun _ _ => id)).en _ _ HE.out).c0; have hk := HK.out; have HTt := hid t; clear t)
      all_goals go_ret
      all_goals exact ⟨rfl, .same (HI.out.turned HTt.out (fun _ _ => id)) (HT.out.turned HTt.out id) (no_turn HTt.out) HN.out⟩
theorem turn_tab (C : Nat → Nat × Int) (tab : Nat) (w : World) (i j : Nat) (v u : Value) : Turn (fun j => CFoot C j ∨ j = tab) w ((w.setCell ⟨tab, i, none⟩ v).setCell ⟨tab, j, none⟩ u) := ((Turn.refl _ _).setCell _ _ (fun _ => .inr rfl)).setCell _ _ (fun _ => .inr rfl)
theorem turn_tab_own (tab : Nat) (w : World) (i j : Nat) (v u : Value) : Turn (fun j => j = tab) w ((w.setCell ⟨tab, i, none⟩ v).setCell ⟨tab, j, none⟩ u) := Turn.setCell (S := fun j => j = tab) (Turn.setCell (S := fun j => j = tab) (Turn.refl _ w) _ _ (fun _ => rfl)) _ _ (fun _ => rfl)
theorem setCell_drew (w : World) (a : Addr) (v : Value) : w.drew.setCell a v = (w.setCell a v).drew := rfl
theorem FilesIn.beside (h : FilesIn w fb tb om S B P Ft C) (hn : ¬ CFoot C tab) (t : Turn (fun j => j = tab) w w') : FilesIn w' fb tb om S B P Ft C := h.turned t (fun j hj e => hn (e ▸ hj))
set_option maxHeartbeats 1000000 in
set_option maxRecDepth 100000 in
theorem dup_is (h : FilesIs w fb tb S F) (hS : DOk S) (ht : TabIs w tab L) (hok : TabOk S L) (hn : ¬ F tab) (n : Int) (hb : ∀ k e, mget S.es k = some e → e.refs < 1000000) :
    Calls Tryd.prog 79 #[.pointer (some ⟨fb, 0, none⟩), .pointer (some ⟨tab, 0, none⟩), .int .i64 n] w fun e w' => e = .returned (.tuple #[.int .i64 (dupK S L n), TErr (dupE S L n)]) ∧ FilesTo fb tb tab F w w' (dupS S L n) (dupL S L n) := by
  obtain ⟨om, B, P, Ft, C, hin, rfl⟩ := h
  cases hx : entL S L n with
  | none =>
    have e1 : dupE S L n = 7 := by unfold dupE; rw [hx]; rfl
    have e2 : dupS S L n = S := if_neg (by rw [e1]; decide)
    have e3 : dupK S L n = 0 := if_neg (by rw [e1]; decide)
    have e4 : dupL S L n = L := if_neg (by rw [e1]; decide)
    rw [e1, e2, e3, e4]
    have HG := hid (get_none hin ht hok hx)
    have HK : Hid (∀ w', Turn (fun _ => False) w w' → FilesTo fb tb tab (CFoot C) w w' S L) := hid (fun w' t => .same (hin.turned t (fun _ _ => id)) (ht.turned t id) (no_turn t) hn)
    clear hin ht hok hn hx e1 e2 e3 e4
    go_enter Tryd.func79, Tryd.ntmps79
    go_wp2_with (go_at_call 131; refine HG.out.mono ?_; rintro e w' ⟨rfl, t⟩)
    go_ret2
    exact ⟨rfl, HK.out _ t⟩
  | some x =>
    obtain ⟨k, e⟩ := x
    have hs := (entL_some hx).1
    have he := (entL_some hx).2
    have HG := hid (get_some hin ht hok hx)
    have HI := hid hin
    have HT := hid ht
    have HN := hid hn
    have HE := hid he
    obtain ⟨hn0, hn8, hnz, hnk⟩ := slotL_some hs
    rcases leastL_spec L with hl | ⟨j, hl, hj8, hjz⟩
    · have e1 : dupE S L n = 12 := by unfold dupE; rw [hx]; show (if leastL L < 0 then 12 else 0) = _; rw [if_pos (by omega)]
      have e2 : dupS S L n = S := if_neg (by rw [e1]; decide)
      have e3 : dupK S L n = 0 := if_neg (by rw [e1]; decide)
      have e4 : dupL S L n = L := if_neg (by rw [e1]; decide)
      rw [e1, e2, e3, e4]
      have HL := hid hl
      clear hin ht hok hn hx e1 e2 e3 e4 he hs hl hnz hnk hS hb
      go_enter Tryd.func79, Tryd.ntmps79
      go_wp2_with (first | (go_at_call 131; refine HG.out.mono ?_; rintro e w' ⟨rfl, t⟩; have HTt := hid t; clear t) | (go_at_call 129; refine (least_is (HT.out.turned HTt.out id)).mono ?_; rintro e w2 ⟨rfl, t⟩; rw [HL.out]; have HT2 := hid t; clear t))
      go_ret2
      have t2 := HTt.out.trans HT2.out
      exact ⟨rfl, .same (HI.out.turned t2 (fun _ _ => id)) (HT.out.turned t2 id) (no_turn t2) HN.out⟩
    · have e1 : dupE S L n = 0 := by unfold dupE; rw [hx]; show (if leastL L < 0 then 12 else 0) = _; rw [if_neg (by omega)]
      have e2 : dupS S L n = putS S k { e with refs := e.refs + 1 } := by unfold dupS; rw [e1, if_pos rfl, hx]; rfl
      have e3 : dupK S L n = j := by unfold dupK; rw [e1, if_pos rfl, hl]
      have e4 : dupL S L n = tset L j ((L n.toNat).1, false) := by unfold dupL; rw [e1, if_pos rfl, hl]; rfl
      rw [e1, e2, e3, e4]
      have HL := hid hl
      have hrf := hb k e he
      have hrw : IntKind.i64.wrap ((e.refs : Int) + 1) = (e.refs : Int) + 1 := IntWalk.i64_in _ (by omega)
      have HP := hid (ht.pos n.toNat (by omega))
      clear hin ht hok hn hx e1 e2 e3 e4 he hs hl hnz hnk hS hb
      go_enter Tryd.func79, Tryd.ntmps79
      go_wp2_with (first | (go_at_call 131; refine HG.out.mono ?_; rintro e w' ⟨rfl, t⟩; have HTt := hid t; clear t) | (go_at_call 129; refine (least_is (HT.out.turned HTt.out id)).mono ?_; rintro e w2 ⟨rfl, t⟩; rw [HL.out]; have HT2 := hid (HTt.out.trans t); clear t; have nd := (HI.out.turned HT2.out (fun _ _ => id)).en _ _ HE.out; have c5 := nd.c5; have z5 := nd.fz 5; clear nd))
      have HT3 := hid ((HT.out.turned HT2.out id).turned (turn_own (B k) w2 5 (.int .i64 ((e.refs : Int) + 1))) (fun x => HN.out (by rw [x]; exact HI.out.foot HE.out)))
      have c1 := HT3.out.ent n.toNat (by omega)
      have c2 := HT3.out.ent j hj8
      have c3 := HT3.out.mark j hj8
      have z2 := HT3.out.fz (j * 2)
      have z3 := HT3.out.fz (j * 2 + 1)
      go_region
      all_goals go_wp2_with fail
      all_goals go_ret2
      all_goals (
        have hi := HI.out.turned HT2.out (fun _ _ => id)
        have hi2 := hi.put HE.out ((hi.en _ _ HE.out).setRefs (z := (e.refs : Int) + 1) (c := e.refs + 1) (by omega)) (turn_own (B k) _ 5 (.int .i64 ((e.refs : Int) + 1)))
        exact ⟨rfl, .same ((hi2.beside HN.out (turn_tab_own tab _ (j * 2) (j * 2 + 1) _ _)).turned (X := fun _ => False) (Turn.refl _ _).drew (fun _ _ => id)) ((HT3.out.set hj8 _ false HP.out).turned (S := fun _ => False) (Turn.refl _ _).drew id) ((((no_turn HT2.out).trans (turn_ent C tab (hi.foot HE.out) _ _ _)).trans (turn_tab C tab _ _ _ _ _)).drew) HN.out⟩)
end
end Go.Proofs.YtiohpmcedfbcgabDoor
