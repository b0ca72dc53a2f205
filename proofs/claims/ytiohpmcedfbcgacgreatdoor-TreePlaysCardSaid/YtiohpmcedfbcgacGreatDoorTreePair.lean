/- The program's tree and the document's beside each other: each doing, of the one and then of the other. Conditions: each theorem's own premises. -/
import Derived.Test.YtiohpmcedfbcgacGreatDoorTreeLaw
import Derived.Test.YtiohpmcedfbcgacGreatDoorTreeLawCut
import Derived.Test.YtiohpmcedfbcgacGreatDoorTreeBnd
import Derived.Test.YtiohpmcedfbcgacGreatDoorRefTreeAlive
import Derived.Test.YtiohpmcedfbcgacGreatDoorRefTreeWrite
import Derived.Test.YtiohpmcedfbcgacGreatDoorRefTreeSweep
import Derived.Test.YtiohpmcedfbcgacGreatDoorRefTreeList
import Derived.Test.YtiohpmcedfbcgacGreatDoorPlace
namespace Go.Proofs.YtiohpmcedfbcgacGreatDoor
open Go.RowKit
set_option linter.unusedVariables false
theorem bareT (z : Int) (w : World) (hg : Laid w) : Calls Tryz.prog 69 #[TErr z, .int .i64 z] w fun e w' => e = .returned (.bool true) ∧ Turn (fun _ => False) w w' := by
  by_cases hz : z = 0
  · subst hz
    exact bare_nil w
  · rw [TErr_of hz]
    exact bare_errno z w hg
/-- Two trees alike, made since W: no node has more than k names. -/
structure TwoT (W w : World) (tb rb nm : Nat) (T : PT) (k : Nat) : Prop where
  both : ∃ F G, TreeIs w tb T F ∧ RTreeIs w rb T G ∧ (∀ j, F j → ¬ G j) ∧ (∀ j, F j → W.heap.size ≤ j) ∧ (∀ j, G j → W.heap.size ≤ j)
  turn : Turn (fun _ => False) W w
  alive : Alive T
  bnd : TBnd T k
  hdr : w.cell? ⟨rb, 0, none⟩ = some (.map (some nm))
section
variable {W w w' w1 w2 w3 : World} {tb rb nm : Nat} {T T' : PT} {n : Int} {F G : Nat → Prop} {k k' : Nat}
theorem TwoT.still (h : TwoT W w tb rb nm T k) (t : Turn (fun _ => False) w w') : TwoT W w' tb rb nm T k := by
  obtain ⟨F, G, h1, h2, h3, h4, h5⟩ := h.both
  exact ⟨⟨F, G, h1.turned t (fun _ _ => id), h2.turned t (fun _ _ => id), h3, h4, h5⟩, h.turn.trans t, h.alive, h.bnd, (t.cell (lt_of_cell h.hdr) id).trans h.hdr⟩
theorem TwoT.mono (h : TwoT W w tb rb nm T k) (hk : k ≤ k') : TwoT W w tb rb nm T k' := ⟨h.both, h.turn, h.alive, h.bnd.mono hk, h.hdr⟩
theorem TwoT.ok (h : TwoT W w tb rb nm T k) : TOk T := by obtain ⟨F, G, h1, _⟩ := h.both; exact h1.ok
/-- What the two trees' blocks are; the doing of the one leaves the other's, and what is in neither. -/
structure TwoF (W w : World) (tb rb nm : Nat) (T : PT) (k : Nat) (F G : Nat → Prop) : Prop where
  tree : TreeIs w tb T F
  doc : RTreeIs w rb T G
  apart : ∀ j, F j → ¬ G j
  lowF : ∀ j, F j → W.heap.size ≤ j
  lowG : ∀ j, G j → W.heap.size ≤ j
  turn : Turn (fun _ => False) W w
  alive : Alive T
  bnd : TBnd T k
  hdr : w.cell? ⟨rb, 0, none⟩ = some (.map (some nm))
theorem TwoT.open_ (h : TwoT W w tb rb nm T k) : ∃ F G, TwoF W w tb rb nm T k F G ∧ (∀ j, F j ∨ G j → j < w.heap.size) := by
  obtain ⟨F, G, h1, h2, h3, h4, h5⟩ := h.both
  exact ⟨F, G, ⟨h1, h2, h3, h4, h5, h.turn, h.alive, h.bnd, h.hdr⟩, fun j hj => hj.elim (h1.foot_lt j) (h2.foot_lt j)⟩
theorem TwoF.shut (h : TwoF W w tb rb nm T k F G) : TwoT W w tb rb nm T k := ⟨⟨F, G, h.tree, h.doc, h.apart, h.lowF, h.lowG⟩, h.turn, h.alive, h.bnd, h.hdr⟩
theorem TwoF.still (h : TwoF W w tb rb nm T k F G) (t : Turn (fun _ => False) w w') : TwoF W w' tb rb nm T k F G := ⟨h.tree.turned t (fun _ _ => id), h.doc.turned t (fun _ _ => id), h.apart, h.lowF, h.lowG, h.turn.trans t, h.alive, h.bnd, (t.cell (lt_of_cell h.hdr) id).trans h.hdr⟩
/-- What the document's side does behind the program's. -/
def DocThen (W w : World) (tb rb nm : Nat) (G : Nat → Prop) (g : FuncId) (rargs : Array Value) (v : Value) (T' : PT) (k : Nat) : Prop :=
  ∀ w', Turn (fun _ => False) w w' → Calls Tryz.prog g rargs w' fun e w3 => e = .returned v ∧ Turn G w' w3 ∧ TwoT W w3 tb rb nm T' k
theorem TwoF.op (h : TwoF W w tb rb nm T k F G) {f g : FuncId} {args rargs : Array Value} {v v' : Value}
    (hp : Calls Tryz.prog f args w fun e w' => e = .returned v ∧ TreeTo tb F w w' T')
    (hr : ∀ w' nm D, RTreeIn w' rb nm T D → Calls Tryz.prog g rargs w' fun e w'' => e = .returned v' ∧ RTreeTo rb (RFoot rb nm T D) w' w'' T')
    (ha : Alive T') (hb : TBnd T' k') :
    Calls Tryz.prog f args w fun e w' => e = .returned v ∧ Turn F w w' ∧ DocThen W w' tb rb nm G g rargs v' T' k' := by
  refine hp.mono ?_
  rintro e w1 ⟨rfl, F', h1, t1, hF'⟩
  refine ⟨rfl, t1, fun w2 t2 => ?_⟩
  have hd := (h.doc.turned t1 (fun j hg hf => h.apart j hf hg)).turned t2 (fun _ _ => id)
  have hrb : ¬ F rb := fun hf => h.apart rb hf (by obtain ⟨n0, D0, _, e⟩ := h.doc; rw [e]; exact .inl rfl)
  have hh2 := (t2.cell (a := ⟨rb, 0, none⟩) (Nat.lt_of_lt_of_le (lt_of_cell h.hdr) t1.size) id).trans ((t1.cell (a := ⟨rb, 0, none⟩) (lt_of_cell h.hdr) hrb).trans h.hdr)
  obtain ⟨nm', D, hin, rfl⟩ := hd
  refine (hr w2 nm' D hin).mono ?_
  rintro e w3 ⟨rfl, G', h3, t3, hG', hh3⟩
  have hap : ∀ j, F' j → ¬ RFoot rb nm' T D j := fun j hj hg => by
    rcases hF' j hj with h4 | h4
    · exact h.apart j h4 hg
    · have := h.doc.foot_lt j hg; omega
  have hF2 : ∀ j, F' j → W.heap.size ≤ j := fun j hj => by
    rcases hF' j hj with h4 | h4
    · exact h.lowF j h4
    · exact Nat.le_trans h.turn.size h4
  have ht2 : Turn (fun _ => False) W w2 := (h.turn.trans' t1 (fun j hj hf => by have := h.lowF j hf; omega)).trans t2
  refine ⟨rfl, t3, ⟨⟨F', G', (h1.turned t2 (fun _ _ => id)).turned t3 hap, h3, fun j hj hg => ?_, hF2, fun j hj => ?_⟩, ht2.trans' t3 (fun j hj hg => by have := h.lowG j hg; omega), ha, hb, hh3 _ hh2⟩⟩
  · rcases hG' j hg with h4 | h4
    · exact hap j hj h4
    · have h5 := (h1.turned t2 (fun _ _ => id)).foot_lt j hj
      omega
  · rcases hG' j hj with h4 | h4
    · exact h.lowG j h4
    · exact Nat.le_trans ht2.size h4
theorem RTreeIn.ok_same {nm : Nat} {D : Int → Nat} (h : RTreeIn w rb nm T D) (t : Turn (fun _ => False) w w') : RTreeTo rb (RFoot rb nm T D) w w' T := RTreeTo.same ⟨nm, D, h, rfl⟩ t
theorem TwoF.b (h : TwoF W w tb rb nm T k F G) (hk : k ≤ 900) : ∀ n p, mget T n = some p → p.names < 1000000 ∧ p.ds.length < 1000000 ∧ p.held < 1000000 := fun n p hp => by
  have := h.bnd n p hp; omega
theorem TwoF.find (h : TwoF W w tb rb nm T k F G) (path : ByteArray) (hs : path.size < 4294967281) :
    Calls Tryz.prog 38 #[.pointer (some ⟨tb, 0, none⟩), .string path] w fun e w' => e = .returned (.tuple #[.int .i64 (findT T path).2, TErr (findT T path).1]) ∧ Turn F w w' ∧ DocThen W w' tb rb nm G 98 #[.pointer (some ⟨rb, 0, none⟩), .string path] (.tuple #[.int .i64 (findT T path).2, .int .i64 (findT T path).1]) T k :=
  h.op ((find_is h.tree path hs).mono fun e w' x => ⟨x.1, TreeTo.same h.tree x.2⟩) (fun w' nm D hin => (rfind_is hin h.tree.ok path hs).mono fun e w'' x => ⟨x.1, hin.ok_same x.2⟩) h.alive h.bnd
theorem TwoF.mkdir (h : TwoF W w tb rb nm T k F G) (h1 : 1 ≤ k) (path : ByteArray) (hs : path.size < 4294967281) :
    Calls Tryz.prog 93 #[.pointer (some ⟨tb, 0, none⟩), .string path] w fun e w' => e = .returned (.tuple #[.int .i64 (makeK T path), TErr (makeE T path)]) ∧ Turn F w w' ∧ DocThen W w' tb rb nm G 99 #[.pointer (some ⟨rb, 0, none⟩), .string path, .bool true] (.tuple #[.int .i64 (makeK T path), .int .i64 (makeE T path)]) (makeT T path true) (k + 2) :=
  h.op (mkdir_is h.tree path hs) (fun w' nm D hin => rmake_is hin h.tree.ok path hs true) (h.alive.make path true) ((h.bnd.make h1 path true).mono (by omega))
theorem TwoF.create (h : TwoF W w tb rb nm T k F G) (h1 : 1 ≤ k) (path : ByteArray) (hs : path.size < 4294967281) :
    Calls Tryz.prog 26 #[.pointer (some ⟨tb, 0, none⟩), .string path] w fun e w' => e = .returned (.tuple #[.int .i64 (makeK T path), TErr (makeE T path)]) ∧ Turn F w w' ∧ DocThen W w' tb rb nm G 99 #[.pointer (some ⟨rb, 0, none⟩), .string path, .bool false] (.tuple #[.int .i64 (makeK T path), .int .i64 (makeE T path)]) (makeT T path false) (k + 2) :=
  h.op (create_is h.tree path hs) (fun w' nm D hin => rmake_is hin h.tree.ok path hs false) (h.alive.make path false) ((h.bnd.make h1 path false).mono (by omega))
theorem TwoF.link (h : TwoF W w tb rb nm T k F G) (hk : k ≤ 900) (old path : ByteArray) (hs1 : old.size < 4294967281) (hs2 : path.size < 4294967281) :
    Calls Tryz.prog 37 #[.pointer (some ⟨tb, 0, none⟩), .string old, .string path] w fun e w' => e = .returned (TErr (linkE T old path)) ∧ Turn F w w' ∧ DocThen W w' tb rb nm G 100 #[.pointer (some ⟨rb, 0, none⟩), .string old, .string path] (.int .i64 (linkE T old path)) (linkT T old path) (k + 2) :=
  h.op (link_is h.tree old path hs1 hs2 (fun n p hp => (h.b hk n p hp).1)) (fun w' nm D hin => rlink_is hin h.tree.ok old path hs1 hs2) (h.alive.link old path) (h.bnd.link old path)
theorem TwoF.unlink (h : TwoF W w tb rb nm T k F G) (hk : k ≤ 900) (path : ByteArray) (hs : path.size < 4294967281) :
    Calls Tryz.prog 39 #[.pointer (some ⟨tb, 0, none⟩), .string path] w fun e w' => e = .returned (TErr (unlinkE T path)) ∧ Turn F w w' ∧ DocThen W w' tb rb nm G 101 #[.pointer (some ⟨rb, 0, none⟩), .string path] (.int .i64 (unlinkE T path)) (unlinkT T path) (k + 2) :=
  h.op (unlink_is h.tree path hs (fun n p hp => ⟨(h.b hk n p hp).1, (h.b hk n p hp).2.1⟩)) (fun w' nm D hin => by
    rw [← runlink_same h.tree.ok h.alive path]
    exact runlink_is hin h.tree.ok path hs (fun n p hp => by have := (h.b hk n p hp).2.1; omega)) (h.alive.unlink path) ((h.bnd.unlink path).mono (by omega))
theorem TwoF.rename (h : TwoF W w tb rb nm T k F G) (old path : ByteArray) (hs1 : old.size < 1000000) (hs2 : path.size < 1000000) :
    Calls Tryz.prog 102 #[.pointer (some ⟨tb, 0, none⟩), .string old, .string path] w fun e w' => e = .returned (TErr (moveE T old path)) ∧ Turn F w w' ∧ DocThen W w' tb rb nm G 103 #[.pointer (some ⟨rb, 0, none⟩), .string old, .string path] (.int .i64 (moveE T old path)) (moveT T old path) (k + 2) :=
  h.op (rename_is h.tree old path hs1 hs2) (fun w' nm D hin => rrename_is hin h.tree.ok old path hs1 hs2) (h.alive.move old path) (h.bnd.move old path)
theorem TwoF.hold (h : TwoF W w tb rb nm T k F G) (hk : k ≤ 900) (n : Int) :
    Calls Tryz.prog 106 #[.pointer (some ⟨tb, 0, none⟩), .int .i64 n] w fun e w' => e = .returned (TErr (fileE T n)) ∧ Turn F w w' ∧ DocThen W w' tb rb nm G 107 #[.pointer (some ⟨rb, 0, none⟩), .int .i64 n, .int .i64 1] (.int .i64 (fileE T n)) (holdT T n) (k + 2) :=
  h.op (hold_is h.tree n (fun p hp => (h.b hk n p hp).2.2)) (fun w' nm D hin => by
    have e := rhold_one h.tree.ok h.alive n
    rw [← e.1, ← e.2]
    exact rhold_is hin h.tree.ok n 1 (by omega) (fun n p hp => by have := h.b hk n p hp; omega)) (h.alive.hold n) ((h.bnd.hold n).mono (by omega))
theorem TwoF.drop (h : TwoF W w tb rb nm T k F G) (hk : k ≤ 900) (n : Int) :
    Calls Tryz.prog 108 #[.pointer (some ⟨tb, 0, none⟩), .int .i64 n] w fun e w' => e = .returned (TErr (dropE T n)) ∧ Turn F w w' ∧ DocThen W w' tb rb nm G 107 #[.pointer (some ⟨rb, 0, none⟩), .int .i64 n, .int .i64 (-1)] (.int .i64 (dropE T n)) (dropT T n) (k + 2) :=
  h.op (drop_is h.tree n (fun p hp => (h.b hk n p hp).2.2)) (fun w' nm D hin => by
    have e := rhold_drop h.tree.ok h.alive n
    rw [← e.1, ← e.2]
    exact rhold_is hin h.tree.ok n (-1) (by omega) (fun n p hp => by have := h.b hk n p hp; omega)) (h.alive.drop n) ((h.bnd.drop n).mono (by omega))
theorem TwoF.write (h : TwoF W w tb rb nm T k F G) (n z : Int) (s : ByteArray) (hs : s.size ≤ 4294967281) :
    Calls Tryz.prog 28 #[.pointer (some ⟨tb, 0, none⟩), .int .i64 n, .int .i64 z, .string s] w fun e w' => e = .returned (TErr (writeE T n z s)) ∧ Turn F w w' ∧ DocThen W w' tb rb nm G 109 #[.pointer (some ⟨rb, 0, none⟩), .int .i64 n, .int .i64 z, .string s] (.int .i64 (writeE T n z s)) (writeT T n z s) (k + 2) :=
  h.op (write_is h.tree n z s hs) (fun w' nm D hin => rwrite_is hin h.tree.ok n z s hs) (h.alive.write n z s) ((h.bnd.write n z s).mono (by omega))
theorem TBnd.cut (h : TBnd T k) (n z : Int) : TBnd (cutT T n z) k := by
  unfold cutT
  split
  · exact h.setData n _
  · exact h
theorem TwoF.cut (h : TwoF W w tb rb nm T k F G) (n z : Int) :
    Calls Tryz.prog 30 #[.pointer (some ⟨tb, 0, none⟩), .int .i64 n, .int .i64 z] w fun e w' => e = .returned (TErr (cutE T n z)) ∧ Turn F w w' ∧ DocThen W w' tb rb nm G 111 #[.pointer (some ⟨rb, 0, none⟩), .int .i64 n, .int .i64 z] (.int .i64 (cutE T n z)) (cutT T n z) (k + 2) :=
  h.op (cut_is h.tree n z) (fun w' nm D hin => rcut_is hin h.tree.ok n z) (h.alive.cut n z) ((h.bnd.cut n z).mono (by omega))
theorem TwoF.read (h : TwoF W w tb rb nm T k F G) (n z many : Int) :
    Calls Tryz.prog 29 #[.pointer (some ⟨tb, 0, none⟩), .int .i64 n, .int .i64 z, .int .i64 many] w fun e w' => e = .returned (.tuple #[.string (readT T n z many), TErr (readE T n z many)]) ∧ Turn F w w' ∧ DocThen W w' tb rb nm G 110 #[.pointer (some ⟨rb, 0, none⟩), .int .i64 n, .int .i64 z, .int .i64 many] (.tuple #[.string (readT T n z many), .int .i64 (readE T n z many)]) T k :=
  h.op ((read_is h.tree n z many).mono fun e w' x => ⟨x.1, TreeTo.same h.tree x.2⟩) (fun w' nm D hin => (rread_is hin h.tree.ok n z many).mono fun e w'' x => ⟨x.1, hin.ok_same x.2⟩) h.alive h.bnd
theorem TwoT.len (h : TwoT W w tb rb nm T k) (ty : TypeId) : (Builtin.len_ #[61] ty #[.map (some nm)]).run Tryz.prog w = .ok (.int .i64 (T.length : Int)) w := by
  obtain ⟨F, G, _, ⟨nm', D, hin, _⟩, _⟩ := h.both
  have e := hin.hdr.symm.trans h.hdr
  obtain rfl : nm' = nm := by cases e; rfl
  have h1 := hin.mp.run_len (P := Tryz.prog) Tryz.underlying61 ty
  rw [show (rlist D T).length = T.length from List.length_map _] at h1
  exact h1
theorem TwoT.nodes (h : TwoT W w tb rb nm T k) : Calls Tryz.prog 35 #[.pointer (some ⟨tb, 0, none⟩)] w fun e w' => e = .returned (.int .i64 (T.length : Int)) ∧ w' = w := by
  obtain ⟨F, G, h1, _, _, hl, _⟩ := h.both
  exact law_nodes (W := W) ⟨⟨F, h1, hl⟩, h.turn⟩
theorem TwoT.first {e : Ending} (h : TreeLaw W w tb rootT) (h2 : RTreeNewIs w e w') : ∃ rb nm, e = .returned (.pointer (some ⟨rb, 0, none⟩)) ∧ TwoT W w' tb rb nm rootT 1 := by
  obtain ⟨rb, G, rfl, hd, t, hg⟩ := h2
  obtain ⟨F, h1, hl⟩ := h.tree
  have hd2 := hd
  obtain ⟨nm, D, hin, _⟩ := hd2
  exact ⟨rb, nm, rfl, ⟨⟨F, G, h1.turned t (fun _ _ => id), hd, fun j hf hj => by have := hg j hj; have := h1.foot_lt j hf; omega, hl, fun j hj => Nat.le_trans h.turn.size (hg j hj)⟩, h.turn.trans t, alive_root, TBnd.root, hin.hdr⟩⟩
/-- A file's bytes, read whole, are as many as it has. -/
theorem size_read (h : TOk T) (n : Int) : readE T n 0 200 = fileE T n ∧ ((readT T n 0 200).size : Int) = sizeT T n := by
  have h1 : readE T n 0 200 = fileE T n := by
    unfold readE
    by_cases e : fileE T n ≠ 0
    · rw [if_pos e]
    · rw [if_neg e, if_neg (by omega)]; omega
  refine ⟨h1, ?_⟩
  unfold readT
  rw [h1]
  by_cases e : fileE T n = 0
  · rw [if_pos e]
    obtain ⟨p, hn, hd⟩ := fileE_zero e
    rw [sizeT_file hn hd]
    have hdt : dataT T n = p.data := by unfold dataT; rw [hn]; rfl
    have := h.data n p hn
    rw [hdt]
    unfold readB
    rw [ByteArray.size_extract]
    simp only [Int.toNat_zero]
    have e2 : (200 : Int).toNat = 200 := rfl
    rw [e2]
    omega
  · rw [if_neg e, sizeT_err e]; rfl
end
end Go.Proofs.YtiohpmcedfbcgacGreatDoor
