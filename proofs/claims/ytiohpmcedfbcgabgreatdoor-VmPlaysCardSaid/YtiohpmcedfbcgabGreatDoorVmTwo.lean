/- Several texts of ours in one, in build order (VmTwo, VmThree). Conditions: each theorem's own premises. -/
import Derived.Test.YtiohpmcedfbcgabGreatDoorRefSpClear
import Derived.Test.YtiohpmcedfbcgabGreatDoorVmKeep
import Derived.Test.YtiohpmcedfbcgabGreatDoorVmClear
import Derived.Test.YtiohpmcedfbcgabGreatDoorVmAll
/- Package vm and the document side by side: each order leaves both alike. Conditions: each theorem's own premises. -/
namespace Go.Proofs.YtiohpmcedfbcgabGreatDoor
open Go.RowKit
set_option linter.unusedVariables false

def mapOf (y : Qsp) : Value := .map (some y.qm)
/-- Both sides in memory, and the two slices of them. -/
structure VWorld (W w : World) (s : SB) (n : Nat) (rb rm : Nat) (t : St) (l : List Spc) (nx : Int) (rl : List (Int × Nat)) (L : List Qsp) (v : Value) (vl : List Value) (u : Value) (ul : List Value) : Prop where
  keep : VKeep W w s n t l
  doc : QAll w rb rm n nx rl L
  new : ∀ k, QFoot rb rm L k → W.heap.size ≤ k
  apart : ∀ k, QFoot rb rm L k → ¬ AllFoot s t.vs l k
  pv : RowV w 35 v vl
  pown : ∀ q, v.ownBlock = some q → W.heap.size ≤ q ∧ ¬ AllFoot s t.vs l q ∧ ¬ QFoot rb rm L q
  qv : RowV w 42 u ul
  qown : ∀ q, u.ownBlock = some q → W.heap.size ≤ q ∧ ¬ AllFoot s t.vs l q ∧ ¬ QFoot rb rm L q
  two : ∀ q, v.ownBlock = some q → u.ownBlock ≠ some q
structure VLaw (W w : World) (s : SB) (n : Nat) (rb rm : Nat) (t : St) (l : List Spc) (nx : Int) (rl : List (Int × Nat)) (L : List Qsp) (v u : Value) : Prop where
  world : VWorld W w s n rb rm t l nx rl L v (l.map ptrOf) u (L.map mapOf)
  joint : ∃ φ, Jn t.m φ l L
section
variable {W w w' w1 w2 w3 : World} {s : SB} {n rb rm : Nat} {t t' : St} {l l' : List Spc} {nx nx' : Int} {rl rl' : List (Int × Nat)} {L L' : List Qsp} {v u v' u' : Value} {vl ul : List Value} {k : Nat} {x : Spc} {y : Qsp} {P' : Int → Option Pg} {Q' : Int → Option Qg}
theorem VWorld.still (h : VWorld W w s n rb rm t l nx rl L v vl u ul) (tt : Turn (fun _ => False) w w') : VWorld W w' s n rb rm t l nx rl L v vl u ul :=
  ⟨h.keep.still tt, h.doc.turned tt (fun _ _ => id), h.new, h.apart, h.pv.turned tt (fun _ _ => id), h.pown, h.qv.turned tt (fun _ _ => id), h.qown, h.two⟩
theorem VLaw.still (h : VLaw W w s n rb rm t l nx rl L v u) (tt : Turn (fun _ => False) w w') : VLaw W w' s n rb rm t l nx rl L v u := ⟨h.world.still tt, h.joint⟩
theorem VWorld.prog (h : VWorld W w s n rb rm t l nx rl L v vl u ul) (hA : AllAfter s n t l w w' t' l') : VWorld W w' s n rb rm t' l' nx rl L v vl u ul := by
  have hn : ∀ q, q < w.heap.size → ¬ AllFoot s t.vs l q → ¬ AllFoot s t'.vs l' q := fun q hq h1 h2 => by
    rcases hA.2.2 q h2 with h3 | h3
    · exact h1 h3
    · omega
  exact ⟨h.keep.next hA, h.doc.turned hA.2.1 h.apart, h.new, fun k hk => hn k (h.doc.foot_lt k hk) (h.apart k hk),
    h.pv.turned hA.2.1 (fun g hg => (h.pown g hg).2.1), fun q hq => ⟨(h.pown q hq).1, hn q (h.pv.own_lt q hq) (h.pown q hq).2.1, (h.pown q hq).2.2⟩,
    h.qv.turned hA.2.1 (fun g hg => (h.qown g hg).2.1), fun q hq => ⟨(h.qown q hq).1, hn q (h.qv.own_lt q hq) (h.qown q hq).2.1, (h.qown q hq).2.2⟩, h.two⟩
theorem VWorld.ref {S : Nat → Prop} (h : VWorld W w s n rb rm t l nx rl L v vl u ul) (hQ : QAll w' rb rm n nx' rl' L') (tt : Turn S w w') (hS : ∀ k, S k → QFoot rb rm L k) (hF : ∀ k, QFoot rb rm L' k → QFoot rb rm L k ∨ w.heap.size ≤ k) :
    VWorld W w' s n rb rm t l nx' rl' L' v vl u ul := by
  have hn : ∀ q, q < w.heap.size → ¬ QFoot rb rm L q → ¬ QFoot rb rm L' q := fun q hq h1 h2 => by
    rcases hF q h2 with h3 | h3
    · exact h1 h3
    · omega
  have hw := h.keep.turn.size
  exact ⟨h.keep.own tt (fun k hk => h.new k (hS k hk)) (fun k hk hs => h.apart k (hS k hs) hk), hQ, fun k hk => (hF k hk).elim (h.new k) (fun h1 => Nat.le_trans hw h1),
    fun k hk hf => (hF k hk).elim (fun h1 => h.apart k h1 hf) (fun h1 => by have := h.keep.all.foot_lt k hf; omega),
    h.pv.turned tt (fun g hg hs => (h.pown g hg).2.2 (hS g hs)), fun q hq => ⟨(h.pown q hq).1, (h.pown q hq).2.1, hn q (h.pv.own_lt q hq) (h.pown q hq).2.2⟩,
    h.qv.turned tt (fun g hg hs => (h.qown g hg).2.2 (hS g hs)), fun q hq => ⟨(h.qown q hq).1, (h.qown q hq).2.1, hn q (h.qv.own_lt q hq) (h.qown q hq).2.2⟩, h.two⟩
theorem VWorld.growP (h : VWorld W w s n rb rm t l nx rl L v vl u ul) {g c cap : Nat} {vl' : List Value} (hr : RowV w' 35 (.slice (some ⟨g, 0, none⟩) c cap) vl') (tt : Turn (fun j => v.ownBlock = some j) w w') (hg : v.ownBlock = some g ∨ w.heap.size ≤ g) :
    VWorld W w' s n rb rm t l nx rl L (.slice (some ⟨g, 0, none⟩) c cap) vl' u ul := by
  have hw := h.keep.turn.size
  refine ⟨h.keep.own tt (fun k hk => (h.pown k hk).1) (fun k hk hs => (h.pown k hs).2.1 hk), h.doc.turned tt (fun k hk hs => (h.pown k hs).2.2 hk), h.new, h.apart, hr, fun q hq => ?_, h.qv.turned tt (fun q hq hs => h.two q hs hq), h.qown, fun q hq => ?_⟩
  · cases hq
    rcases hg with h1 | h1
    · exact h.pown _ h1
    · exact ⟨Nat.le_trans hw h1, fun hf => by have : g < w.heap.size := h.keep.all.foot_lt _ hf; omega, fun hf => by have : g < w.heap.size := h.doc.foot_lt _ hf; omega⟩
  · cases hq
    rcases hg with h1 | h1
    · exact h.two _ h1
    · exact fun e => by have : g < w.heap.size := h.qv.own_lt _ e; omega
theorem VWorld.growQ (h : VWorld W w s n rb rm t l nx rl L v vl u ul) {g c cap : Nat} {ul' : List Value} (hr : RowV w' 42 (.slice (some ⟨g, 0, none⟩) c cap) ul') (tt : Turn (fun j => u.ownBlock = some j) w w') (hg : u.ownBlock = some g ∨ w.heap.size ≤ g) :
    VWorld W w' s n rb rm t l nx rl L v vl (.slice (some ⟨g, 0, none⟩) c cap) ul' := by
  have hw := h.keep.turn.size
  refine ⟨h.keep.own tt (fun k hk => (h.qown k hk).1) (fun k hk hs => (h.qown k hs).2.1 hk), h.doc.turned tt (fun k hk hs => (h.qown k hs).2.2 hk), h.new, h.apart, h.pv.turned tt (fun q hq hs => h.two q hq hs), h.pown, hr, fun q hq => ?_, fun q hq e => ?_⟩
  · cases hq
    rcases hg with h1 | h1
    · exact h.qown _ h1
    · exact ⟨Nat.le_trans hw h1, fun hf => by have : g < w.heap.size := h.keep.all.foot_lt _ hf; omega, fun hf => by have : g < w.heap.size := h.doc.foot_lt _ hf; omega⟩
  · cases e
    rcases hg with h1 | h1
    · exact h.two _ hq h1
    · have : g < w.heap.size := h.pv.own_lt _ hq
      omega
theorem map_set_map {Q' : Int → Option Qg} (hk : L[k]? = some y) : (L.set k ⟨y.qm, Q'⟩).map mapOf = L.map mapOf := by
  rw [List.map_set]
  have e : mapOf ⟨y.qm, Q'⟩ = mapOf y := rfl
  rw [e]
  have hkl : k < L.length := (List.getElem?_eq_some_iff.1 hk).1
  apply List.ext_getElem?
  intro i
  by_cases e : k = i
  · subst e
    rw [List.getElem?_set_self (by simpa using hkl), List.getElem?_map, hk]; rfl
  · rw [List.getElem?_set_ne e]
theorem foot_set {Q' : Int → Option Qg} (hk : L[k]? = some y) (j : Nat) (hj : QFoot rb rm (L.set k ⟨y.qm, Q'⟩) j) : QFoot rb rm L j := by
  rcases hj with h1 | h1 | ⟨i, z, hz, rfl⟩
  · exact .inl h1
  · exact .inr (.inl h1)
  · rcases set_get hk i z hz with ⟨rfl, rfl⟩ | ⟨_, h2⟩
    · exact .inr (.inr ⟨i, y, hk, rfl⟩)
    · exact .inr (.inr ⟨i, z, h2, rfl⟩)
/-- The state that a round leaves. -/
def VTo (W : World) (s : SB) (n rb rm : Nat) (v u : Value) (nx : Int) (len k a q : Nat) (w : World) : Prop :=
  ∃ (t : St) (l : List Spc) (nx' : Int) (rl : List (Int × Nat)) (L : List Qsp) (x : Spc) (y : Qsp), VLaw W w s n rb rm t l nx' rl L v u ∧ l.length = len ∧ l[k]? = some x ∧ x.sp = a ∧ L[k]? = some y ∧ y.qm = q ∧ nx' ≤ nx + 1
/-- What the document's call does behind the program's. -/
def DocThen (W : World) (s : SB) (n rb rm : Nat) (l : List Spc) (L : List Qsp) (nx : Int) (v u : Value) (k : Nat) (x : Spc) (y : Qsp) (fn : Nat) (args : Array Value) (r : Value) (w1 : World) : Prop :=
  ∀ w2, Turn (fun _ => False) w1 w2 → Calls Tryz.prog fn args w2 fun e w3 => e = .returned r ∧ VTo W s n rb rm v u nx l.length k x.sp y.qm w3 ∧ Turn (QFoot rb rm L) w2 w3
theorem VLaw.both (h : VLaw W w s n rb rm t l nx rl L v u) (hx : l[k]? = some x) (hy : L[k]? = some y) (hA : VmAfter s n t x.sp x.pm (fun f => sumC (l.eraseIdx k) f) w w1 P' t') {fn : Nat} {args : Array Value} {r : Value}
    (hd : ∀ w2, QAll w2 rb rm n nx rl L → Calls Tryz.prog fn args w2 fun e w3 => e = .returned r ∧ ∃ (nx' : Int) (rl' : List (Int × Nat)) (Q' : Int → Option Qg), nx' ≤ nx + 1 ∧ QOne w3 rb rm n nx' rl' y.qm Q' (fun g => sumQ (L.eraseIdx k) g) ∧ Turn (fun j => j = y.qm ∨ j = rm ∨ j = rb) w2 w3 ∧ ∃ φ', Jn t'.m φ' (l.set k ⟨x.sp, x.pm, P'⟩) (L.set k ⟨y.qm, Q'⟩)) :
    DocThen W s n rb rm l L nx v u k x y fn args r w1 := fun w2 tt => by
  have h1 := (h.world.prog (h.world.keep.all.after hx hA)).still tt
  refine (hd w2 h1.doc).mono ?_
  rintro e w3 ⟨rfl, nx', rl', Q', hn, hq, tD, hJ⟩
  have hS : ∀ j, (j = y.qm ∨ j = rm ∨ j = rb) → QFoot rb rm L j := fun j hj => by
    rcases hj with rfl | rfl | rfl
    · exact .inr (.inr ⟨k, y, hy, rfl⟩)
    · exact .inr (.inl rfl)
    · exact .inl rfl
  have h2 := h1.ref (h1.doc.after hy hq tD) tD hS (fun j hj => .inl (foot_set hy j hj))
  have hkl : k < l.length := (List.getElem?_eq_some_iff.1 hx).1
  have hkL : k < L.length := (List.getElem?_eq_some_iff.1 hy).1
  refine ⟨rfl, ⟨t', _, nx', rl', _, ⟨x.sp, x.pm, P'⟩, ⟨y.qm, Q'⟩, ⟨?_, hJ⟩, by rw [List.length_set], List.getElem?_set_self hkl, rfl, List.getElem?_set_self hkL, rfl, hn⟩, tD.mono (fun j _ hj => hS j hj)⟩
  rw [map_set_ptr hx, map_set_map hy]
  exact h2
def OpBoth (W : World) (s : SB) (n rb rm : Nat) (t : St) (l : List Spc) (L : List Qsp) (nx : Int) (v u : Value) (k : Nat) (x : Spc) (y : Qsp) (fn : Nat) (args : Array Value) (w : World) (e : Ending) (w1 : World) : Prop :=
  ∃ z : Int, e = .returned (VmErr z) ∧ Turn (AllFoot s t.vs l) w w1 ∧ DocThen W s n rb rm l L nx v u k x y fn args (.int .i64 z) w1
theorem VLaw.turn (h : VLaw W w s n rb rm t l nx rl L v u) (hx : l[k]? = some x) (hA : VmAfter s n t x.sp x.pm (fun f => sumC (l.eraseIdx k) f) w w1 P' t') : Turn (AllFoot s t.vs l) w w1 := (h.world.keep.all.after hx hA).2.1
theorem pages_less {Q Q' : Int → Option Qg} (h : ∀ i q, Q' i = some q → q.2.2 = 0 ∨ ∃ q0, Q i = some q0 ∧ q0.2.2 = q.2.2) : ∀ i q, Q' i = some q → q.2.2 ≠ 0 → ∃ i0 q0, Q i0 = some q0 ∧ q0.2.2 = q.2.2 := fun i q hq hz => by
  rcases h i q hq with h1 | ⟨q0, h1, h2⟩
  · exact absurd h1 hz
  · exact ⟨i, q0, h1, h2⟩
theorem VLaw.map (h : VLaw W w s n rb rm t l nx rl L v u) (hx : l[k]? = some x) (hy : L[k]? = some y) (a c p : Int) :
    Calls Tryz.prog 12 #[.pointer (some ⟨x.sp, 0, none⟩), .int .i64 a, .int .i64 c, .int .i64 p] w (OpBoth W s n rb rm t l L nx v u k x y 13 #[.map (some y.qm), .pointer (some ⟨rb, 0, none⟩), .int .i64 0, .int .i64 a, .int .i64 c, .int .i64 p] w) := by
  obtain ⟨φ, hJ⟩ := h.joint
  have hp := hJ.pj k x y hx hy
  refine (vmMap_any (h.world.keep.all.at hx).space a c p).mono ?_
  rintro e w1 ⟨rfl, hS, tt⟩
  have hA := (h.world.keep.all.at hx).ofSp tt hS (fun f hf => by
    by_cases hz : mapE x.P a c p = 0
    · rw [if_pos hz]; exact mapP_cnt hz f hf
    · rw [if_neg hz])
  refine ⟨_, rfl, h.turn hx hA, h.both hx hy hA fun w2 hq => (rmap_is (hq.at hy) a c p).mono ?_⟩
  rintro e w3 ⟨rfl, rl', hQ, tD⟩
  rw [hp.mapE] at *
  refine ⟨rfl, nx, rl', _, by omega, hQ, tD.mono (fun j _ hj => hj.elim .inl (fun h => .inr (.inl h))), φ, ?_⟩
  by_cases hz : mapE (pgs y.Q) a c p = 0
  · rw [if_pos hz, if_pos hz]
    refine hJ.less hx hy (hp.map a c p) (pages_less fun i q hq => ?_)
    unfold manyQ at hq
    split at hq
    · cases hq; exact .inl rfl
    · exact .inr ⟨q, hq, rfl⟩
  · rw [if_neg hz, if_neg hz]
    exact hJ.less hx hy hp (pages_less fun i q hq => .inr ⟨q, hq, rfl⟩)
theorem VLaw.unmap (h : VLaw W w s n rb rm t l nx rl L v u) (hx : l[k]? = some x) (hy : L[k]? = some y) (a c : Int) :
    Calls Tryz.prog 14 #[.pointer (some ⟨x.sp, 0, none⟩), .int .i64 a, .int .i64 c] w (OpBoth W s n rb rm t l L nx v u k x y 13 #[.map (some y.qm), .pointer (some ⟨rb, 0, none⟩), .int .i64 1, .int .i64 a, .int .i64 c, .int .i64 0] w) := by
  obtain ⟨φ, hJ⟩ := h.joint
  have hp := hJ.pj k x y hx hy
  refine (vmUnmap_any (h.world.keep.all.at hx) a c).mono ?_
  rintro e w1 ⟨rfl, t', hm, hA⟩
  refine ⟨_, rfl, h.turn hx hA, h.both hx hy hA fun w2 hq => (runmap_is (hq.at hy) a c).mono ?_⟩
  rintro e w3 ⟨rfl, rl', hQ, tD⟩
  rw [hp.unmapE] at *
  refine ⟨rfl, nx, rl', _, by omega, hQ, tD.mono (fun j _ hj => hj.elim .inl (fun h => .inr (.inl h))), φ, ?_⟩
  rw [hm]
  by_cases hz : unmapE (pgs y.Q) a c = 0
  · rw [if_pos hz, if_pos hz]
    refine hJ.less hx hy (hp.unmap a c) (pages_less fun i q hq => ?_)
    unfold manyQ at hq
    split at hq
    · cases hq
    · exact .inr ⟨q, hq, rfl⟩
  · rw [if_neg hz, if_neg hz]
    exact hJ.less hx hy hp (pages_less fun i q hq => .inr ⟨q, hq, rfl⟩)
theorem VLaw.prot (h : VLaw W w s n rb rm t l nx rl L v u) (hx : l[k]? = some x) (hy : L[k]? = some y) (a c p : Int) :
    Calls Tryz.prog 15 #[.pointer (some ⟨x.sp, 0, none⟩), .int .i64 a, .int .i64 c, .int .i64 p] w (OpBoth W s n rb rm t l L nx v u k x y 13 #[.map (some y.qm), .pointer (some ⟨rb, 0, none⟩), .int .i64 2, .int .i64 a, .int .i64 c, .int .i64 p] w) := by
  obtain ⟨φ, hJ⟩ := h.joint
  have hp := hJ.pj k x y hx hy
  refine (vmProt_any (h.world.keep.all.at hx) a c p).mono ?_
  rintro e w1 ⟨rfl, hA⟩
  refine ⟨_, rfl, h.turn hx hA, h.both hx hy hA fun w2 hq => (rprot_is (hq.at hy) a c p).mono ?_⟩
  rintro e w3 ⟨rfl, rl', hQ, tD⟩
  rw [hp.protE] at *
  refine ⟨rfl, nx, rl', _, by omega, hQ, tD.mono (fun j _ hj => hj.elim .inl (fun h => .inr (.inl h))), φ, ?_⟩
  by_cases hz : protE (pgs y.Q) a c p = 0
  · rw [if_pos hz, if_pos hz]
    refine hJ.less hx hy (hp.prot a c p) (pages_less fun i q hq => ?_)
    unfold manyQ protQ at hq
    split at hq
    · cases e : y.Q i with
      | none => rw [e] at hq; cases hq
      | some q0 => rw [e] at hq; cases hq; exact .inr ⟨q0, rfl, rfl⟩
    · exact .inr ⟨q, hq, rfl⟩
  · rw [if_neg hz, if_neg hz]
    exact hJ.less hx hy hp (pages_less fun i q hq => .inr ⟨q, hq, rfl⟩)
theorem VLaw.clear (h : VLaw W w s n rb rm t l nx rl L v u) (hx : l[k]? = some x) (hy : L[k]? = some y) :
    Calls Tryz.prog 22 #[.pointer (some ⟨x.sp, 0, none⟩)] w fun e w1 => e = .returned (.tuple #[]) ∧ DocThen W s n rb rm l L nx v u k x y 23 #[.map (some y.qm), .pointer (some ⟨rb, 0, none⟩)] (.tuple #[]) w1 := by
  obtain ⟨φ, hJ⟩ := h.joint
  refine (vmClear_is (h.world.keep.all.at hx)).mono ?_
  rintro e w1 ⟨rfl, t', hm, hA⟩
  refine ⟨rfl, h.both hx hy hA fun w2 hq => (rclear_is (hq.at hy)).mono ?_⟩
  rintro e w3 ⟨rfl, rl', hQ, tD⟩
  refine ⟨rfl, nx, rl', _, by omega, hQ, tD.mono (fun j _ hj => hj.elim .inl (fun h => .inr (.inl h))), φ, ?_⟩
  rw [hm]
  exact hJ.less hx hy (fun i => trivial) (fun i q hq => by cases hq)
theorem VLaw.store (h : VLaw W w s n rb rm t l nx rl L v u) (hx : l[k]? = some x) (hy : L[k]? = some y) (hnx : nx + 1 < 1000000) (a wd c : Int) :
    Calls Tryz.prog 18 #[.pointer (some ⟨x.sp, 0, none⟩), .int .i64 a, .int .i64 wd, .int .i64 c] w (OpBoth W s n rb rm t l L nx v u k x y 19 #[.map (some y.qm), .pointer (some ⟨rb, 0, none⟩), .int .i64 a, .int .i64 wd, .int .i64 c] w) := by
  obtain ⟨φ, hJ⟩ := h.joint
  have hp := hJ.pj k x y hx hy
  have hAll := h.world.keep.all
  have hQA := h.world.doc
  refine (vmStore_any (h.world.keep.all.at hx) a wd c).mono ?_
  rintro e w1 (⟨hz, rfl, hA⟩ | ⟨hz, h0, h8, q, hq, hcase⟩)
  · refine ⟨_, rfl, h.turn hx hA, h.both hx hy hA fun w2 hq => (rstore_err (hq.at hy).sp a wd c _ hz (by rw [hp.accE])).mono ?_⟩
    rintro e w3 ⟨rfl, tD⟩
    exact ⟨rfl, nx, rl, y.Q, by omega, (hq.turned tD (fun _ _ => id)).at hy, tD.mono (fun _ _ h => h.elim), φ, hJ.less hx hy hp (pages_less fun i q hq => .inr ⟨q, hq, rfl⟩)⟩
  obtain ⟨j, rfl⟩ : ∃ j : Nat, wd = j := ⟨wd.toNat, by omega⟩
  have h1 := hp a
  rw [hq] at h1
  obtain ⟨q1, f⟩ := q
  cases e2 : y.Q a with
  | none => rw [e2] at h1; exact h1.elim
  | some q2 =>
    obtain ⟨q1', qw, g⟩ := q2
    rw [e2] at h1
    obtain ⟨hq1, hgz, hgn⟩ := h1
    simp only at hq1 hgz hgn
    subst hq1
    have hacc : ∀ w2, QAll w2 rb rm n nx rl L → RAccOk y.qm a j w2 := fun w2 h2 => by
      have h3 := ruse_is (h2.at hy).sp a j 2 (by omega)
      refine h3.mono ?_
      rintro e w' ⟨rfl, tt⟩
      rw [← hp.accE, hz]
      exact ⟨rfl, tt⟩
    have hlive : g ≠ 0 → LiveQ L g := fun hg => ⟨hg, k, y, a, _, hy, e2, rfl⟩
    have hheld : g ≠ 0 → t.R f = RR rl g := fun hg => by
      rw [(hgn hg).2.1]
      exact hJ.held hAll hQA (hlive hg)
    have halone : (0 ≤ f ∧ t.R f ≤ 1) ↔ (g ≠ 0 ∧ RR rl g ≤ 1) := by
      by_cases hg : g = 0
      · have := (hgz hg).1
        exact ⟨fun h => by omega, fun h => absurd hg h.1⟩
      · have h4 := hheld hg
        have h5 := (hgn hg).1
        exact ⟨fun h => ⟨hg, by omega⟩, fun h => ⟨h5, by omega⟩⟩
    have hused := hJ.used hAll hQA
    rcases hcase with ⟨⟨f0, hR⟩, rfl, t', hR', hm, hA⟩ | ⟨hno, hfull, rfl, hA⟩ | ⟨hno, rfl, g2, t', g0, gn, gR, hm, hA⟩
    · have hg := halone.1 ⟨f0, hR⟩
      refine ⟨0, rfl, h.turn hx hA, h.both hx hy hA fun w2 hq2 => (rstore_own (hq2.at hy) j (by omega) e2 (hacc w2 hq2) hg.1 hg.2).mono ?_⟩
      rintro e w3 ⟨rfl, hQ, tD⟩
      refine ⟨rfl, nx, rl, _, by omega, hQ, tD.mono (fun j _ hj => hj.elim .inl (fun h => .inr (.inl h))), φ, ?_⟩
      rw [hm]
      exact hJ.own hAll hx hy (wd := j) e2 hq hg.1 f0 hR j
    · have hf : ¬ (g ≠ 0 ∧ RR rl g ≤ 1) := fun h => hno (halone.2 h)
      refine ⟨12, rfl, h.turn hx hA, h.both hx hy hA fun w2 hq2 => (rstore_full (hq2.at hy) e2 (hacc w2 hq2) hf (by omega)).mono ?_⟩
      rintro e w3 ⟨rfl, tD⟩
      exact ⟨rfl, nx, rl, y.Q, by omega, (hq2.turned tD (fun _ _ => id)).at hy, tD.mono (fun _ _ h => h.elim), φ, hJ.less hx hy hp (pages_less fun i q hq => .inr ⟨q, hq, rfl⟩)⟩
    · have hf : ¬ (g ≠ 0 ∧ RR rl g ≤ 1) := fun h => hno (halone.2 h)
      have hlt := usedN_lt g0 gn gR
      refine ⟨0, rfl, h.turn hx hA, h.both hx hy hA fun w2 hq2 => (rstore_new (hq2.at hy) j (by omega) e2 (hacc w2 hq2) hf (by omega) hnx).mono ?_⟩
      rintro e w3 ⟨rfl, rl1, _, hQ, tD⟩
      refine ⟨rfl, nx + 1, _, _, by omega, hQ, tD, ?_⟩
      rw [hm]
      exact hJ.fresh hAll hQA hx hy e2 hq g0 gR (by omega)
/-- A load, and the document's. -/
def LoadBoth (a q : Nat) (at' wd : Int) (c z : Int) (w : World) : Prop :=
  (Calls Tryz.prog 16 #[.pointer (some ⟨a, 0, none⟩), .int .i64 at', .int .i64 wd] w fun e w' => e = .returned (.tuple #[.int .i64 c, VmErr z]) ∧ Turn (fun _ => False) w w') ∧
  (Calls Tryz.prog 17 #[.map (some q), .int .i64 at', .int .i64 wd] w fun e w' => e = .returned (.tuple #[.int .i64 c, .int .i64 z]) ∧ Turn (fun _ => False) w w')
theorem VLaw.load (h : VLaw W w s n rb rm t l nx rl L v u) (hx : l[k]? = some x) (hy : L[k]? = some y) (a wd : Int) : ∃ c z : Int, ∀ w', Turn (fun _ => False) w w' → LoadBoth x.sp y.qm a wd c z w' := by
  obtain ⟨φ, hJ⟩ := h.joint
  have hp := hJ.pj k x y hx hy
  refine ⟨loadV x.P t.m a wd, accE x.P a wd 1, fun w' tt => ⟨?_, ?_⟩⟩
  · have h1 := h.world.keep.all.turned tt (fun _ _ => id)
    exact vmLoad_is h1.store (h1.sps k x hx) (fun i q hq h0 => by
      have hd := (h1.sps k x hx).dom i q hq
      have h2 := cntF_ge (P := x.P) (i := i) (f := q.2) hd.1 hd.2
      rw [hq, hasF_some, if_pos rfl] at h2
      have h3 := h1.refs q.2 h0
      have h4 := sumC_pos hx q.2
      omega) a wd
  · rw [hp.load, hp.accE]
    exact rload_is ((h.world.doc.turned tt (fun _ _ => id)).sps k y hy) a wd
/-- How many pages, with a frame, and frames that are free: both sides alike. -/
theorem VLaw.counts (h : VLaw W w s n rb rm t l nx rl L v u) (hx : l[k]? = some x) (hy : L[k]? = some y) : lenP x.P = rlenP y.Q ∧ resP x.P = rresP y.Q ∧ rl.length = usedN t.R n := by
  obtain ⟨φ, hJ⟩ := h.joint
  have hp := hJ.pj k x y hx hy
  exact ⟨hp.len, hp.res (fun i q hq => ((h.world.doc.sps k y hy).ok i q hq).2.2.1), hJ.used h.world.keep.all h.world.doc⟩
end
end Go.Proofs.YtiohpmcedfbcgabGreatDoor
/- Package vm and the document side by side: a fork, and how both begin. Conditions: each theorem's own premises. -/
namespace Go.Proofs.YtiohpmcedfbcgabGreatDoor
open Go.RowKit
set_option linter.unusedVariables false

section
variable {W w w' w1 w2 w3 w4 : World} {s : SB} {n rb rm : Nat} {t t' : St} {l l' : List Spc} {nx nx' : Int} {rl rl' : List (Int × Nat)} {L L' : List Qsp} {v u v' u' : Value} {vl ul : List Value} {k : Nat} {x : Spc} {y : Qsp} {P' : Int → Option Pg} {Q' : Int → Option Qg}
theorem VLaw.forkP (h : VLaw W w s n rb rm t l nx rl L v u) (hx : l[k]? = some x) (hl : l.length ≤ 100) :
    Calls Tryz.prog 20 #[.pointer (some ⟨x.sp, 0, none⟩)] w fun e w1 => ∃ (sp2 pm2 : Nat) (t1 : St), e = .returned (.pointer (some ⟨sp2, 0, none⟩)) ∧ t1.m = t.m ∧ VWorld W w1 s n rb rm t1 (l ++ [⟨sp2, pm2, x.P⟩]) nx rl L v (l.map ptrOf) u (L.map mapOf) := by
  have hA := h.world.keep.all
  refine (vmFork_is hA.store (hA.sps k x hx) (hA.off k x hx) (fun f hf => by rw [hA.refs f hf]; exact sumC_pos hx f) (fun f hf => R_small hA hl f hf)).mono ?_
  rintro e w1 ⟨sp2, pm2, rl2, rfl, hS, hA2, hR, l1, l2⟩
  exact ⟨sp2, pm2, { t with rl := rl2 }, rfl, rfl, h.world.prog (hA.forked hx hS hA2 hR l1 l2)⟩
theorem VWorld.forkQ (h : VWorld W w s n rb rm t l nx rl L v vl u ul) (hy : L[k]? = some y) (hl : L.length ≤ 100) :
    Calls Tryz.prog 21 #[.map (some y.qm), .pointer (some ⟨rb, 0, none⟩)] w fun e w1 => ∃ (tm : Nat) (rl' : List (Int × Nat)), e = .returned (.map (some tm)) ∧ VWorld W w1 s n rb rm t l nx rl' (L ++ [⟨tm, y.Q⟩]) v vl u ul := by
  have hQ := h.doc
  refine (rfork_is hQ.mem (hQ.sps k y hy) (hQ.off k y hy) (fun g hg => by rw [hQ.refs g hg]; exact sumQ_pos hy g) (fun g hg => by
    have h1 := sumQ_le g L
    have h2 := hQ.refs g hg
    omega)).mono ?_
  rintro e w1 ⟨tm, rl2, rfl, h0, hm, hs, hR, tt⟩
  refine ⟨tm, rl2, rfl, h.ref (hQ.forked hy h0 hm hs hR tt) tt (fun j hj => .inr (.inl hj)) (fun j hj => ?_)⟩
  rcases hj with h1 | h1 | ⟨i, z, hz, rfl⟩
  · exact .inl (.inl h1)
  · exact .inl (.inr (.inl h1))
  · rcases app_get i z hz with ⟨_, rfl⟩ | ⟨_, h2⟩
    · exact .inr h0
    · exact .inl (.inr (.inr ⟨i, z, h2, rfl⟩))
theorem VLaw.forked {sp2 pm2 tm : Nat} (h : VLaw W w s n rb rm t l nx rl L v u) (hx : l[k]? = some x) (hy : L[k]? = some y) (hm : t'.m = t.m) (h2 : VWorld W w' s n rb rm t' (l ++ [⟨sp2, pm2, x.P⟩]) nx rl' (L ++ [⟨tm, y.Q⟩]) v' (l.map ptrOf ++ [.pointer (some ⟨sp2, 0, none⟩)]) u' (L.map mapOf ++ [.map (some tm)])) :
    VTo W s n rb rm v' u' nx (l.length + 1) k x.sp y.qm w' := by
  obtain ⟨φ, hJ⟩ := h.joint
  have hkl : k < l.length := (List.getElem?_eq_some_iff.1 hx).1
  have hkL : k < L.length := (List.getElem?_eq_some_iff.1 hy).1
  refine ⟨t', l ++ [⟨sp2, pm2, x.P⟩], nx, rl', L ++ [⟨tm, y.Q⟩], x, y, ⟨?_, φ, ?_⟩, by rw [List.length_append]; rfl, by rw [List.getElem?_append_left hkl]; exact hx, rfl, by rw [List.getElem?_append_left hkL]; exact hy, rfl, by omega⟩
  · rw [List.map_append, List.map_append]
    exact h2
  · rw [hm]
    exact hJ.forked hx hy
theorem VLaw.to (h : VLaw W w s n rb rm t l nx rl L v u) (hx : l[k]? = some x) (hy : L[k]? = some y) : VTo W s n rb rm v u nx l.length k x.sp y.qm w := ⟨t, l, nx, rl, L, x, y, h, rfl, hx, rfl, hy, rfl, by omega⟩
theorem VLaw.first {sp pm : Nat} {A B : Obj} (hK : VKeep W w s n t [⟨sp, pm, fun _ => none⟩]) (hm : RMem w rb rm n 0 []) (hb : W.heap.size ≤ rb) (hr : W.heap.size ≤ rm) (hap : ∀ k, AllFoot s t.vs [⟨sp, pm, fun _ => none⟩] k → k ≠ rb ∧ k ≠ rm)
    (hA : A = .cells #[.pointer (some ⟨sp, 0, none⟩)] 35) (hB : B = .cells #[.map (some (w.heap.size + 1))] 42) :
    VLaw W (((w.alloc A).alloc (.map #[] 0)).alloc B) s n rb rm t [⟨sp, pm, fun _ => none⟩] 0 [] [⟨w.heap.size + 1, fun _ => none⟩] (.slice (some ⟨w.heap.size, 0, none⟩) 1 1) (.slice (some ⟨w.heap.size + 2, 0, none⟩) 1 1) := by
  have hWw := hK.turn.size
  have t1 : Turn (fun _ => False) w (w.alloc A) := (Turn.refl _ _).alloc A
  have t2 : Turn (fun _ => False) (w.alloc A) ((w.alloc A).alloc (.map #[] 0)) := (Turn.refl _ _).alloc _
  have t3 : Turn (fun _ => False) ((w.alloc A).alloc (.map #[] 0)) (((w.alloc A).alloc (.map #[] 0)).alloc B) := (Turn.refl _ _).alloc B
  have z1 : (w.alloc A).heap.size = w.heap.size + 1 := World.size_alloc _ _
  have z2 : ((w.alloc A).alloc (.map #[] 0)).heap.size = w.heap.size + 2 := by rw [World.size_alloc, z1]
  have hs := (RSp.made (w.alloc A))
  rw [z1] at hs
  have hlb : rb < w.heap.size := lt_of_cell hm.c0
  have hlr : rm < w.heap.size := hm.refs.lt
  have hfl : ∀ k, AllFoot s t.vs [⟨sp, pm, fun _ => none⟩] k → k < w.heap.size := fun k hk => hK.all.foot_lt k hk
  have hQF : ∀ k, QFoot rb rm [⟨w.heap.size + 1, fun _ => none⟩] k → k = rb ∨ k = rm ∨ k = w.heap.size + 1 := fun k hk => by
    rcases hk with h1 | h1 | ⟨i, x, hx, rfl⟩
    · exact .inl h1
    · exact .inr (.inl h1)
    · cases i with
      | zero => cases hx; exact .inr (.inr rfl)
      | succ i => simp at hx
  have r1 := RowV.one w 35 (.pointer (some ⟨sp, 0, none⟩))
  have r2 := RowV.one ((w.alloc A).alloc (.map #[] 0)) 42 (.map (some (w.heap.size + 1)))
  rw [z2] at r2
  rw [← hA] at r1
  rw [← hB] at r2
  refine ⟨⟨((hK.still t1).still t2).still t3, QAll.first (((hm.turned t1 id id).turned t2 id id).turned t3 id id) (hs.turned t3 id) ⟨by omega, by omega⟩, fun k hk => ?_, fun k hk hf => ?_, (r1.turned t2 (fun _ _ => id)).turned t3 (fun _ _ => id), fun q hq => ?_, r2, fun q hq => ?_, fun q hq e => ?_⟩, fun g => g, rfl, fun i x y hx hy => ?_, fun g g' hg _ he => he⟩
  · rcases hQF k hk with rfl | rfl | rfl
    · exact hb
    · exact hr
    · omega
  · have h1 := hfl k hf
    have h2 := hap k hf
    rcases hQF k hk with rfl | rfl | rfl
    · exact h2.1 rfl
    · exact h2.2 rfl
    · omega
  · cases hq
    exact ⟨hWw, fun hf => absurd (hfl _ hf) (Nat.lt_irrefl _), fun hf => by
      rcases hQF _ hf with h1 | h1 | h1
      · have : w.heap.size = rb := h1
        omega
      · have : w.heap.size = rm := h1
        omega
      · have : w.heap.size = w.heap.size + 1 := h1
        omega⟩
  · cases hq
    exact ⟨Nat.le_trans hWw (Nat.le_add_right _ 2), fun hf => by have : w.heap.size + 2 < w.heap.size := hfl _ hf; omega, fun hf => by
      rcases hQF _ hf with h1 | h1 | h1
      · have : w.heap.size + 2 = rb := h1
        omega
      · have : w.heap.size + 2 = rm := h1
        omega
      · have : w.heap.size + 2 = w.heap.size + 1 := h1
        omega⟩
  · cases hq
    have h1 : some (w.heap.size + 2) = some w.heap.size := e
    have h2 := Option.some.inj h1
    omega
  · cases i with
    | zero => cases hx; cases hy; intro j; trivial
    | succ i => simp at hx
theorem VLaw.len (h : VLaw W w s n rb rm t l nx rl L v u) : l.length = L.length := let ⟨_, hJ⟩ := h.joint; hJ.len
theorem VLaw.slices (h : VLaw W w s n rb rm t l nx rl L v u) (hl : 1 ≤ l.length) : ∃ g cap g2 cap2, v = .slice (some ⟨g, 0, none⟩) l.length cap ∧ u = .slice (some ⟨g2, 0, none⟩) l.length cap2 := by
  have hL := h.len
  rcases h.world.pv.shape with ⟨_, h0⟩ | ⟨g, cap, h1, _⟩
  · have := congrArg List.length h0
    simp at this
    subst this
    simp at hl
  · rcases h.world.qv.shape with ⟨_, h0⟩ | ⟨g2, cap2, h2, _⟩
    · have := congrArg List.length h0
      simp at this
      subst this
      simp at hL
      subst hL
      simp at hl
    · rw [List.length_map] at h1 h2
      exact ⟨g, cap, g2, cap2, h1, by rw [hL]; exact h2⟩
theorem VLaw.cells {g cap g2 cap2 : Nat} {c1 c2 : Nat} (h : VLaw W w s n rb rm t l nx rl L (.slice (some ⟨g, 0, none⟩) c1 cap) (.slice (some ⟨g2, 0, none⟩) c2 cap2)) (hx : l[k]? = some x) (hy : L[k]? = some y) :
    w.cell? ⟨g, k, none⟩ = some (.pointer (some ⟨x.sp, 0, none⟩)) ∧ w.cell? ⟨g2, k, none⟩ = some (.map (some y.qm)) := by
  have e1 : c1 = (l.map ptrOf).length := by
    rcases h.world.pv.shape with ⟨h1, _⟩ | ⟨_, _, h1, _⟩
    · cases h1
    · cases h1; rfl
  have e2 : c2 = (L.map mapOf).length := by
    rcases h.world.qv.shape with ⟨h1, _⟩ | ⟨_, _, h1, _⟩
    · cases h1
    · cases h1; rfl
  subst e1; subst e2
  exact ⟨h.world.pv.cell k (ptrOf x) (by rw [List.getElem?_map, hx]; rfl), h.world.qv.cell k (mapOf y) (by rw [List.getElem?_map, hy]; rfl)⟩
end
end Go.Proofs.YtiohpmcedfbcgabGreatDoor
