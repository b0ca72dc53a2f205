/- Paths: which names one has. Plain: no program in sight. No condition. strings.Split at "/", strings.CutPrefix of "/": the kit's contracts at this translation. No condition but the text's size. A tree of files, plain: where names lead, what may not be. No program in sight. Conditions: each theorem's own premises. Package tree: what a tree is in memory; parts, walk, Find, place, file. Conditions: each theorem's own premises. Package tree: walk, Find, place, file, Nodes. Conditions: each theorem's own premises. A tree of files, plain: what each change keeps. No program in sight. Conditions: each theorem's own premises. Package tree: one node's change in memory; goes, Hold, Drop, Size. Conditions: each theorem's own premises. Package tree: New, make, Mkdir, Create. Conditions: each theorem's own premises. Package tree: New, Mkdir, Create. Conditions: each theorem's own premises. strings.Repeat of a zero byte; bytes that are written into bytes. Conditions: each theorem's own premises. Package tree: Read, Cut, Write. Conditions: each theorem's own premises. Package tree: Link, Unlink. Conditions: each theorem's own premises. -/
import Derived.Test.YtamleilijmgoeaaGreatDoorBase
import Derived.Lib.SplitLaws
import Derived.Lib.Strings
import Derived.Test.YtamleilijmgoeaaGreatDoorProg
import Derived.Test.YtamleilijmgoeaaGreatDoorSplitI
import Derived.Test.YtamleilijmgoeaaGreatDoorCutPreI
import Derived.WalkKit
import Derived.BigRegion
import Derived.Deep.LoopGhost
import Derived.Deep.DeepCutAuto
import Derived.Deep.CutBlock
import Derived.Outline
import Derived.Handy
import Derived.Test.YtamleilijmgoeaaGreatDoorRepI
import Derived.Deep.QuietTactic
import Derived.BigQuiet
namespace Go.Proofs.YtamleilijmgoeaaGreatDoor
open Go.Lib
set_option linter.unusedVariables false
def slash : ByteArray := ⟨#[47]⟩
def piecesOf (s : ByteArray) : List ByteArray := splitB slash 0 (countB s slash) s
def led (s : ByteArray) : Bool := hasPrefix s.data.toList [47]
theorem extract_size (s : ByteArray) (a b : Nat) (h : b ≤ s.size) : (s.extract a b).size = b - a := by
 rw [size_eq, extract_data, List.length_take, List.length_drop, ← size_eq]
 omega
def okName (s : ByteArray) : Bool := decide (1 ≤ s.size) && decide (s.size ≤ 12) && !(s.toList == [46]) && !(s.toList == [46, 46])
def namesOf (p : ByteArray) : Option (List ByteArray) :=
 if led p then (if p.size = 1 then some [] else if (piecesOf (p.extract 1 p.size)).all okName then some (piecesOf (p.extract 1 p.size)) else none) else none
end Go.Proofs.YtamleilijmgoeaaGreatDoor
namespace Go.Proofs.YtamleilijmgoeaaGreatDoor
open Go.RowKit Go.Shelf Go.Lib
set_option linter.unusedVariables false
end Go.Proofs.YtamleilijmgoeaaGreatDoor
namespace Go.Proofs.YtamleilijmgoeaaGreatDoor
open Go.RowKit
set_option linter.unusedVariables false
structure PN where
 isDir : Bool
 ds : List (ByteArray × Int)
 data : ByteArray
 names : Nat
 held : Nat
abbrev PT := List (Int × PN)
def walkT (T : PT) : Int → List ByteArray → Int × Int
 | n, [] => (0, n)
 | n, s :: l => (mget T n).elim (7, 0) fun p => if p.isDir then (mget p.ds s).elim (7, 0) fun m => walkT T m l else (6, 0)
def isDirT (T : PT) (n : Int) : Bool := (mget T n).elim false (·.isDir)
def placeT (T : PT) (path : ByteArray) : Int × Int × ByteArray :=
 (namesOf path).elim (1, 0, ByteArray.empty) fun l =>
  if l = [] then (1, 0, ByteArray.empty)
  else if (walkT T 0 l.dropLast).1 ≠ 0 then ((walkT T 0 l.dropLast).1, 0, ByteArray.empty)
  else if isDirT T (walkT T 0 l.dropLast).2 then (0, (walkT T 0 l.dropLast).2, l.getLastD ByteArray.empty) else (6, 0, ByteArray.empty)
def linksIn (n : Int) (ds : List (ByteArray × Int)) : Nat := (ds.filter fun e => decide (e.2 = n)).length
def linksT (n : Int) : PT → Nat
 | [] => 0
 | t :: T => linksIn n t.2.ds + linksT n T
structure TOk (T : PT) : Prop where
 root : ∃ p, mget T 0 = some p ∧ p.isDir = true
 nd : MNodup T
 keys : ∀ n p, mget T n = some p → 0 ≤ n ∧ n < 60
 link : ∀ n p, mget T n = some p → ∀ s m, mget p.ds s = some m → ∃ q, mget T m = some q
 file : ∀ n p, mget T n = some p → p.isDir = false → p.ds = []
 cnt : ∀ n p, mget T n = some p → p.names = (if n = 0 then 1 else 0) + linksT n T
 dnd : ∀ n p, mget T n = some p → MNodup p.ds
 data : ∀ n p, mget T n = some p → p.data.size ≤ 200
 size : T.length ≤ 60
 nms : ∀ n p, mget T n = some p → ∀ e ∈ p.ds, okName e.1 = true
theorem linksT_put (n : Int) : ∀ {T : PT} {k : Int} {p p' : PN}, MNodup T → mget T k = some p → linksT n (mput T k p') + linksIn n p.ds = linksT n T + linksIn n p'.ds := by
 intro T k p p' hn hk
 have hmp : mput T k p' = mupd T k p' := by unfold mput; rw [hk]; rfl
 rw [hmp]
 induction T with
 | nil => cases hk
 | cons t T ih =>
  have hn' : MNodup T := (List.nodup_cons.1 hn).2
  have hcons : mupd (t :: T) k p' = (if t.1 = k then (t.1, p') else t) :: mupd T k p' := rfl
  rw [hcons]
  by_cases e : t.1 = k
  ·have h1 : mget (t :: T) k = some t.2 := mget_mem hn (by rw [← e]; exact List.mem_cons_self)
   rw [h1] at hk
   have hk := Option.some.inj hk
   have hno : ∀ q ∈ T, q.1 ≠ k := fun q hq e2 => (List.nodup_cons.1 hn).1 (List.mem_map.2 ⟨q, hq, by rw [e2, e]⟩)
   have hsame : mupd T k p' = T := by
    unfold mupd
    conv => rhs; rw [← List.map_id T]
    exact List.map_congr_left fun q hq => by rw [if_neg (hno q hq)]; rfl
   rw [if_pos e, hsame]
   show linksIn n p'.ds + linksT n T + linksIn n p.ds = linksIn n t.2.ds + linksT n T + linksIn n p'.ds
   rw [hk]
   omega
  ·have h1 : mget T k = some p := by
    have h2 := mem_of_mget hk
    rcases List.mem_cons.1 h2 with h3 | h3
    ·exact absurd (by rw [← h3]) e
    ·exact mget_mem hn' h3
   have h2 := ih hn' h1 (by unfold mput; rw [h1]; rfl)
   rw [if_neg e]
   show linksIn n t.2.ds + linksT n (mupd T k p') + linksIn n p.ds = linksIn n t.2.ds + linksT n T + linksIn n p'.ds
   omega
theorem linksT_del (n : Int) : ∀ {T : PT} {k : Int} {p : PN}, MNodup T → mget T k = some p → linksT n (mdel T k) + linksIn n p.ds = linksT n T
 | [], k, p, _, hk => by cases hk
 | t :: T, k, p, hn, hk => by
  have hn' : MNodup T := (List.nodup_cons.1 hn).2
  have hcons : mdel (t :: T) k = if t.1 = k then mdel T k else t :: mdel T k := by
   unfold mdel
   rw [List.filter_cons]
   by_cases e : t.1 = k
   ·rw [if_pos e, if_neg (by simp [e])]
   ·rw [if_neg e, if_pos (by simp [e])]
  rw [hcons]
  by_cases e : t.1 = k
  ·have h1 : mget (t :: T) k = some t.2 := mget_mem hn (by rw [← e]; exact List.mem_cons_self)
   rw [h1] at hk
   have hk := Option.some.inj hk
   have hno : mget T k = none := mget_none (fun q hq e2 => (List.nodup_cons.1 hn).1 (List.mem_map.2 ⟨q, hq, by rw [e2, e]⟩))
   rw [if_pos e, mdel_none hno, ← hk]
   show linksT n T + linksIn n t.2.ds = linksIn n t.2.ds + linksT n T
   omega
  ·have h1 : mget T k = some p := by
    have h2 := mem_of_mget hk
    rcases List.mem_cons.1 h2 with h3 | h3
    ·exact absurd (by rw [← h3]) e
    ·exact mget_mem hn' h3
   have h2 := linksT_del n hn' h1
   rw [if_neg e]
   show linksIn n t.2.ds + linksT n (mdel T k) + linksIn n p.ds = linksIn n t.2.ds + linksT n T
   omega
end Go.Proofs.YtamleilijmgoeaaGreatDoor
namespace Go.Proofs.YtamleilijmgoeaaGreatDoor
open Go.RowKit
set_option linter.unusedVariables false
def TErr (z : Int) : Value := if z = 0 then .nilIface else .iface 36 (.int .i64 z)
theorem TErr_of {z : Int} (h : z ≠ 0) : TErr z = .iface 36 (.int .i64 z) := if_neg h
structure NdAt (w : World) (b d : Nat) (p : PN) : Prop where
 c0 : w.cell? ⟨b, 0, none⟩ = some (.map (if p.isDir then some d else none))
 c1 : w.cell? ⟨b, 1, none⟩ = some (.string p.data)
 c2 : w.cell? ⟨b, 2, none⟩ = some (.int .i64 (p.names : Int))
 c3 : w.cell? ⟨b, 3, none⟩ = some (.int .i64 (p.held : Int))
 fz : ∀ i, w.frozen? ⟨b, i, none⟩ = false
 dir : p.isDir = true → MapIs w d .string encS encI p.ds
def ptrV (b : Nat) : Value := .pointer (some ⟨b, 0, none⟩)
def keysB (B : Int → Nat) (T : PT) : List (Int × Nat) := T.map fun t => (t.1, B t.1)
structure TreeIn (w : World) (tb nm : Nat) (T : PT) (B D : Int → Nat) : Prop where
 hdr : w.cell? ⟨tb, 0, none⟩ = some (.map (some nm))
 mp : MapIs w nm (.int .i64) encI ptrV (keysB B T)
 nd : ∀ n p, mget T n = some p → NdAt w (B n) (D n) p
 bb : ∀ n m p q, mget T n = some p → mget T m = some q → n ≠ m → B n ≠ B m
 dd : ∀ n m p q, mget T n = some p → mget T m = some q → p.isDir = true → q.isDir = true → n ≠ m → D n ≠ D m
 bd : ∀ n m p q, mget T n = some p → mget T m = some q → q.isDir = true → B n ≠ D m
 own : ∀ n p, mget T n = some p → (B n ≠ tb ∧ B n ≠ nm) ∧ (p.isDir = true → D n ≠ tb ∧ D n ≠ nm)
 ne : tb ≠ nm
def TrFoot (tb nm : Nat) (T : PT) (B D : Int → Nat) (k : Nat) : Prop := k = tb ∨ k = nm ∨ ∃ n p, mget T n = some p ∧ (k = B n ∨ (p.isDir = true ∧ k = D n))
def TreeIs (w : World) (tb : Nat) (T : PT) (F : Nat → Prop) : Prop := ∃ nm B D, TreeIn w tb nm T B D ∧ TOk T ∧ F = TrFoot tb nm T B D
theorem keysB_get (B : Int → Nat) : ∀ (T : PT) (n : Int), mget (keysB B T) n = (mget T n).map fun _ => B n := by
 intro T n
 unfold mget keysB
 induction T with
 | nil => rfl
 | cons t T ih =>
  rw [List.map_cons, List.find?_cons, List.find?_cons]
  by_cases e : t.1 = n
  ·simp only [e, decide_true]; rfl
  ·simp only [e, decide_false]; exact ih
section
variable {w w' : World} {tb nm b d : Nat} {T : PT} {B D : Int → Nat} {F : Nat → Prop} {p : PN} {n : Int}
theorem NdAt.lt (h : NdAt w b d p) : b < w.heap.size := lt_of_cell h.c0
theorem NdAt.turned {S : Nat → Prop} (h : NdAt w b d p) (t : Turn S w w') (hb : ¬ S b) (hd : p.isDir = true → ¬ S d) : NdAt w' b d p :=
 ⟨(t.cell (a := ⟨b, 0, none⟩) h.lt hb).trans h.c0, (t.cell (a := ⟨b, 1, none⟩) h.lt hb).trans h.c1, (t.cell (a := ⟨b, 2, none⟩) h.lt hb).trans h.c2, (t.cell (a := ⟨b, 3, none⟩) h.lt hb).trans h.c3, fun i => (t.frozen (a := ⟨b, i, none⟩) h.lt hb).trans (h.fz i), fun e => (h.dir e).turned t (hd e)⟩
theorem TreeIn.turned {S : Nat → Prop} (h : TreeIn w tb nm T B D) (t : Turn S w w') (hn : ∀ k, TrFoot tb nm T B D k → ¬ S k) : TreeIn w' tb nm T B D :=
  { h with
    hdr := (t.cell (a := ⟨tb, 0, none⟩) (lt_of_cell h.hdr) (hn tb (.inl rfl))).trans h.hdr
    mp := h.mp.turned t (hn nm (.inr (.inl rfl)))
    nd := fun n p hp => (h.nd n p hp).turned t (hn _ (.inr (.inr ⟨n, p, hp, .inl rfl⟩))) (fun e => hn _ (.inr (.inr ⟨n, p, hp, .inr ⟨e, rfl⟩⟩))) }
theorem TreeIs.turned {S : Nat → Prop} (h : TreeIs w tb T F) (t : Turn S w w') (hn : ∀ k, F k → ¬ S k) : TreeIs w' tb T F := by
 obtain ⟨nm, B, D, h1, h2, rfl⟩ := h
 exact ⟨nm, B, D, h1.turned t hn, h2, rfl⟩
theorem TreeIn.foot_lt (h : TreeIn w tb nm T B D) (k : Nat) (hk : TrFoot tb nm T B D k) : k < w.heap.size := by
 rcases hk with rfl | rfl | ⟨n, p, hp, rfl | ⟨e, rfl⟩⟩
 ·exact lt_of_cell h.hdr
 ·exact h.mp.lt
 ·exact (h.nd n p hp).lt
 ·exact ((h.nd n p hp).dir e).lt
theorem TreeIs.foot_lt (h : TreeIs w tb T F) (k : Nat) (hk : F k) : k < w.heap.size := by
 obtain ⟨nm, B, D, h1, _, rfl⟩ := h
 exact h1.foot_lt k hk
theorem TreeIs.ok (h : TreeIs w tb T F) : TOk T := by obtain ⟨_, _, _, _, h2, _⟩ := h; exact h2
theorem zeroNode (w : World) : (zeroValue 214).run Tryz.prog w = .ok (.pointer none) w := by kernel_rfl
def nodeV (T : PT) (B : Int → Nat) (n : Int) : Value := (mget T n).elim (.pointer none) fun _ => ptrV (B n)
theorem look_node (h : TreeIn w tb nm T B D) (n : Int) : (Instr.lookup 218 (.map (some nm)) (.int .i64 n) false).run Tryz.prog w = .ok (nodeV T B n) w := by
 have h1 := h.mp.run_lookup keyI Tryz.underlying218 Tryz.underlying3 (zeroNode w) n false
 refine h1.trans ?_
 rw [keysB_get]
 unfold nodeV
 cases mget T n <;> rfl
def StrsIn (w : World) (a : Option Addr) (l : List ByteArray) : Prop := l = [] ∨ ∃ g off, a = some ⟨g, off, none⟩ ∧ g < w.heap.size ∧ ∀ (j : Nat) s, l[j]? = some s → w.cell? ⟨g, off + j, none⟩ = some (.string s)
theorem StrsIn.turned {S : Nat → Prop} {a : Option Addr} {l : List ByteArray} (h : StrsIn w a l) (t : Turn S w w') (hn : ∀ x, a = some x → ¬ S x.block) : StrsIn w' a l := by
 rcases h with h | ⟨g, off, rfl, hg, hc⟩
 ·exact .inl h
 ·exact .inr ⟨g, off, rfl, Nat.lt_of_lt_of_le hg t.size, fun j s hs => (t.cell (a := ⟨g, off + j, none⟩) hg (hn ⟨g, off, none⟩ rfl)).trans (hc j s hs)⟩
theorem StrsIn.take {a : Option Addr} {l : List ByteArray} (h : StrsIn w a l) (k : Nat) : StrsIn w a (l.take k) := by
 rcases h with h | ⟨g, off, rfl, hg, hc⟩
 ·exact .inl (by rw [h]; simp)
 ·refine .inr ⟨g, off, rfl, hg, fun j s hs => hc j s ?_⟩
  rw [List.getElem?_take] at hs
  split at hs
  ·exact hs
  ·cases hs
theorem toList_empty {s : ByteArray} : s.toList.isEmpty = decide (s.size = 0) := by
 rw [ByteArray.toList_eq, Go.Lib.size_eq]
 cases s.data.toList <;> rfl
end
end Go.Proofs.YtamleilijmgoeaaGreatDoor
namespace Go.Proofs.YtamleilijmgoeaaGreatDoor
open Go.RowKit
set_option linter.unusedVariables false
section
variable {w w' : World} {tb nm b d : Nat} {T : PT} {B D : Int → Nat} {F : Nat → Prop} {p : PN} {n : Int}
theorem TreeIn.look (h : TreeIn w tb nm T B D) (hn : mget T n = some p) : (Instr.lookup 218 (.map (some nm)) (.int .i64 n) false).run Tryz.prog w = .ok (.pointer (some ⟨B n, 0, none⟩)) w := by
 have h1 := look_node h n
 unfold nodeV at h1
 rw [hn] at h1
 exact h1
theorem TreeIn.looknone (h : TreeIn w tb nm T B D) (hn : mget T n = none) : (Instr.lookup 218 (.map (some nm)) (.int .i64 n) false).run Tryz.prog w = .ok (.pointer none) w := by
 have h1 := look_node h n
 unfold nodeV at h1
 rw [hn] at h1
 exact h1
theorem map_some_nil (d : Nat) (w : World) : (Go.binOp BinOp.eql 215 (.map (some d)) (.map none)).run Tryz.prog w = .ok (.bool false) w := by kernel_rfl
theorem map_nil_nil (w : World) : (Go.binOp BinOp.eql 215 (.map none) (.map none)).run Tryz.prog w = .ok (.bool true) w := by kernel_rfl
theorem map_some_ne (d : Nat) (w : World) : (Go.binOp BinOp.neq 215 (.map (some d)) (.map none)).run Tryz.prog w = .ok (.bool true) w := by kernel_rfl
theorem map_nil_ne (w : World) : (Go.binOp BinOp.neq 215 (.map none) (.map none)).run Tryz.prog w = .ok (.bool false) w := by kernel_rfl
def fileE (T : PT) (n : Int) : Int := (mget T n).elim 7 fun p => if p.isDir then 6 else 0
theorem fileE_none (h : mget T n = none) : fileE T n = 7 := by unfold fileE; rw [h]; rfl
theorem fileE_dir (h : mget T n = some p) (hd : p.isDir = true) : fileE T n = 6 := by unfold fileE; rw [h]; show (if p.isDir then _ else _) = _; rw [hd]; rfl
theorem fileE_file (h : mget T n = some p) (hd : p.isDir = false) : fileE T n = 0 := by unfold fileE; rw [h]; show (if p.isDir then _ else _) = _; rw [hd]; rfl
def FileIs (T : PT) (B : Int → Nat) (n : Int) (w : World) (e : Ending) (w' : World) : Prop :=
 ((fileE T n ≠ 0 ∧ e = .returned (.tuple #[.pointer none, TErr (fileE T n)])) ∨ ∃ p, mget T n = some p ∧ p.isDir = false ∧ fileE T n = 0 ∧ e = .returned (.tuple #[.pointer (some ⟨B n, 0, none⟩), .nilIface])) ∧ w' = w
theorem file_is (h : TreeIn w tb nm T B D) (n : Int) : Calls Tryz.prog 220 #[.pointer (some ⟨tb, 0, none⟩), .int .i64 n] w (FileIs T B n w) := by
 have hh := h.hdr
 cases hn : mget T n with
 | none =>
  have lk := h.looknone hn
  have hf := fileE_none hn
  clear h hn
  go_enter Tryz.func220, Tryz.ntmps220
  go_wp2_with fail
  go_returns
  unfold FileIs
  rw [hf]
  exact ⟨.inl ⟨by simp, rfl⟩, rfl⟩
 | some p =>
  have lk := h.look hn
  have c0 := (h.nd n p hn).c0
  have mno := fun d => map_some_nil d w
  have myes := map_nil_nil w
  have mno2 := map_some_ne (D n) w
  have myes2 := map_nil_ne w
  cases hd : p.isDir with
  | true =>
   rw [hd] at c0
   simp only [if_true] at c0
   have hf := fileE_dir hn hd
   clear h hn hd
   go_enter Tryz.func220, Tryz.ntmps220
   go_wp2_with fail
   go_returns
   unfold FileIs
   rw [hf]
   exact ⟨.inl ⟨by simp, rfl⟩, rfl⟩
  | false =>
   rw [hd] at c0
   simp only [Bool.false_eq_true, if_false] at c0
   have hf := fileE_file hn hd
   clear h
   go_enter Tryz.func220, Tryz.ntmps220
   go_wp2_with fail
   go_returns
   exact ⟨.inr ⟨p, hn, hd, hf, rfl⟩, rfl⟩
end
end Go.Proofs.YtamleilijmgoeaaGreatDoor
namespace Go.Proofs.YtamleilijmgoeaaGreatDoor
open Go.RowKit
set_option linter.unusedVariables false
section
variable {T : PT} {n m d e k : Int} {p p' q q' : PN} {s s' : ByteArray}
theorem linksIn_nil (n : Int) : linksIn n [] = 0 := rfl
theorem linksT_ge {n : Int} : ∀ {T : PT} {t : Int × PN}, t ∈ T → linksIn n t.2.ds ≤ linksT n T
 | [], t, h => by cases h
 | s :: T, t, h => by
  show _ ≤ linksIn n s.2.ds + linksT n T
  rcases List.mem_cons.1 h with rfl | h
  ·omega
  ·have := linksT_ge (n := n) h; omega
theorem TOk.named (h : TOk T) (hd : mget T d = some p) (hs : mget p.ds s = some n) : 0 < linksT n T := by
 have h1 := linksT_ge (n := n) (mem_of_mget hd)
 have h2 := mem_of_mget hs
 have h3 : 0 < linksIn n p.ds := by
  unfold linksIn
  exact List.length_pos_of_mem (List.mem_filter.2 ⟨h2, decide_eq_true rfl⟩)
 simp only at h1
 omega
theorem mput_length_same (hn : mget T n = some p) : (mput T n p').length = T.length := by rw [mput_length, hn]; rfl
theorem TOk.upd (h : TOk T) (hn : mget T n = some p) (h1 : p'.isDir = p.isDir) (h2 : p'.ds = p.ds) (h3 : p'.names = p.names) (h4 : p'.data.size ≤ 200) : TOk (mput T n p') := by
 have hlk : ∀ m, linksT m (mput T n p') = linksT m T := fun m => by
  have := linksT_put m (p' := p') h.nd hn
  rw [h2] at this
  omega
 have hget : ∀ m q, mget (mput T n p') m = some q → ∃ q0, mget T m = some q0 ∧ q.isDir = q0.isDir ∧ q.ds = q0.ds ∧ q.names = q0.names ∧ q.data.size ≤ 200 := fun m q hq => by
  rw [mget_mput] at hq
  by_cases e : m = n
  ·rw [if_pos e] at hq
   cases hq
   exact ⟨p, by rw [e]; exact hn, h1, h2, h3, h4⟩
  ·rw [if_neg e] at hq
   exact ⟨q, hq, rfl, rfl, rfl, h.data m q hq⟩
 have hhas : ∀ m q0, mget T m = some q0 → ∃ q, mget (mput T n p') m = some q := fun m q0 hm => by
  rw [mget_mput]
  by_cases e : m = n
  ·rw [if_pos e]; exact ⟨_, rfl⟩
  ·rw [if_neg e]; exact ⟨_, hm⟩
 refine ⟨?_, mput_nodup h.nd _ _, fun m q hq => ?_, fun m q hq s k hs => ?_, fun m q hq hf => ?_, fun m q hq => ?_, fun m q hq => ?_, fun m q hq => ?_, by rw [mput_length_same hn]; exact h.size, fun m q hq => by
  obtain ⟨q0, hq0, _, e2, _⟩ := hget m q hq
  rw [e2]
  exact h.nms m q0 hq0⟩
 ·obtain ⟨p0, hp0, hd0⟩ := h.root
  obtain ⟨q, hq⟩ := hhas 0 p0 hp0
  obtain ⟨q0, hq0, e1, _⟩ := hget 0 q hq
  rw [hp0] at hq0
  cases hq0
  exact ⟨q, hq, e1.trans hd0⟩
 ·obtain ⟨q0, hq0, _⟩ := hget m q hq
  exact h.keys m q0 hq0
 ·obtain ⟨q0, hq0, _, e2, _⟩ := hget m q hq
  rw [e2] at hs
  obtain ⟨q1, hq1⟩ := h.link m q0 hq0 s k hs
  exact hhas k q1 hq1
 ·obtain ⟨q0, hq0, e1, e2, _⟩ := hget m q hq
  rw [e2]
  exact h.file m q0 hq0 (by rw [← e1]; exact hf)
 ·obtain ⟨q0, hq0, _, _, e3, _⟩ := hget m q hq
  rw [e3, hlk]
  exact h.cnt m q0 hq0
 ·obtain ⟨q0, hq0, _, e2, _⟩ := hget m q hq
  rw [e2]
  exact h.dnd m q0 hq0
 ·obtain ⟨q0, hq0, _, _, _, e4⟩ := hget m q hq
  exact e4
theorem TOk.del (h : TOk T) (hn : mget T n = some p) (h1 : p.names = 0) (h2 : p.ds = []) : TOk (mdel T n) := by
 have hc := h.cnt n p hn
 rw [h1] at hc
 have hn0 : n ≠ 0 := fun e => by rw [if_pos e] at hc; omega
 rw [if_neg hn0] at hc
 have hlk : ∀ m, linksT m (mdel T n) = linksT m T := fun m => by
  have := linksT_del m h.nd hn
  rw [h2, linksIn_nil] at this
  omega
 have hget : ∀ m q, mget (mdel T n) m = some q → mget T m = some q ∧ m ≠ n := fun m q hq => by
  rw [mget_mdel] at hq
  by_cases e : m = n
  ·rw [if_pos e] at hq; cases hq
  ·rw [if_neg e] at hq; exact ⟨hq, e⟩
 have hhas : ∀ m q, mget T m = some q → m ≠ n → mget (mdel T n) m = some q := fun m q hm e => by rw [mget_mdel, if_neg e]; exact hm
 refine ⟨?_, mdel_nodup h.nd _, fun m q hq => h.keys m q (hget m q hq).1, fun m q hq s k hs => ?_, fun m q hq hf => h.file m q (hget m q hq).1 hf, fun m q hq => by rw [hlk]; exact h.cnt m q (hget m q hq).1, fun m q hq => h.dnd m q (hget m q hq).1, fun m q hq => h.data m q (hget m q hq).1, ?_, fun m q hq => h.nms m q (hget m q hq).1⟩
 ·obtain ⟨p0, hp0, hd0⟩ := h.root
  exact ⟨p0, hhas 0 p0 hp0 (fun e => hn0 e.symm), hd0⟩
 ·have h3 := (hget m q hq).1
  have h4 := h.named h3 hs
  obtain ⟨q1, hq1⟩ := h.link m q h3 s k hs
  exact ⟨q1, hhas k q1 hq1 (fun e => by rw [e] at h4; omega)⟩
 ·have := mdel_length h.nd hn
  have := h.size
  omega
theorem TOk.two (h : TOk T) (hd : mget T d = some p) (hdir : p.isDir = true) (hn : mget T n = some q) (hne : n ≠ d) {ds : List (ByteArray × Int)} {c : Nat} (hnd : MNodup ds) (hnm : ∀ e ∈ ds, okName e.1 = true) (hsub : ∀ s m, mget ds s = some m → m = n ∨ mget p.ds s = some m)
  (hc : ∀ m, m ≠ n → linksIn m ds = linksIn m p.ds) (hcn : c + linksIn n p.ds = q.names + linksIn n ds) : TOk (mput (mput T d { p with ds := ds }) n { q with names := c }) := by
 have hd2 : mget (mput T d { p with ds := ds }) n = some q := by rw [mget_mput, if_neg hne]; exact hn
 have hlk : ∀ m, linksT m (mput (mput T d { p with ds := ds }) n { q with names := c }) + linksIn m p.ds = linksT m T + linksIn m ds := fun m => by
  have e1 := linksT_put m (p' := { p with ds := ds }) h.nd hd
  have e2 := linksT_put m (p' := { q with names := c }) (mput_nodup h.nd _ _) hd2
  simp only at e1 e2
  omega
 have hget : ∀ m r, mget (mput (mput T d { p with ds := ds }) n { q with names := c }) m = some r → (m = n ∧ r = { q with names := c }) ∨ (m ≠ n ∧ m = d ∧ r = { p with ds := ds }) ∨ (m ≠ n ∧ m ≠ d ∧ mget T m = some r) := fun m r hr => by
  rw [mget_mput, mget_mput] at hr
  by_cases e1 : m = n
  ·rw [if_pos e1] at hr; cases hr; exact .inl ⟨e1, rfl⟩
  ·rw [if_neg e1] at hr
   by_cases e2 : m = d
   ·rw [if_pos e2] at hr; cases hr; exact .inr (.inl ⟨e1, e2, rfl⟩)
   ·rw [if_neg e2] at hr; exact .inr (.inr ⟨e1, e2, hr⟩)
 have hhas : ∀ m r, mget T m = some r → ∃ r', mget (mput (mput T d { p with ds := ds }) n { q with names := c }) m = some r' ∧ r'.isDir = r.isDir := fun m r hm => by
  rw [mget_mput, mget_mput]
  by_cases e1 : m = n
  ·rw [if_pos e1]; rw [e1, hn] at hm; cases hm; exact ⟨_, rfl, rfl⟩
  ·rw [if_neg e1]
   by_cases e2 : m = d
   ·rw [if_pos e2]; rw [e2, hd] at hm; cases hm; exact ⟨_, rfl, rfl⟩
   ·rw [if_neg e2]; exact ⟨r, hm, rfl⟩
 refine ⟨?_, mput_nodup (mput_nodup h.nd _ _) _ _, fun m r hr => ?_, fun m r hr s k hs => ?_, fun m r hr hf => ?_, fun m r hr => ?_, fun m r hr => ?_, fun m r hr => ?_, ?_, fun m r hr => by
  rcases hget m r hr with ⟨rfl, rfl⟩ | ⟨_, rfl, rfl⟩ | ⟨_, _, h3⟩
  ·exact h.nms m q hn
  ·exact hnm
  ·exact h.nms m r h3⟩
 ·obtain ⟨p0, hp0, hd0⟩ := h.root
  obtain ⟨r, hr, e⟩ := hhas 0 p0 hp0
  exact ⟨r, hr, e.trans hd0⟩
 ·rcases hget m r hr with ⟨rfl, rfl⟩ | ⟨_, rfl, rfl⟩ | ⟨_, _, h3⟩
  ·exact h.keys m q hn
  ·exact h.keys m p hd
  ·exact h.keys m r h3
 ·have there : ∃ r1, mget T k = some r1 := by
   rcases hget m r hr with ⟨rfl, rfl⟩ | ⟨_, rfl, rfl⟩ | ⟨_, _, h3⟩
   ·exact h.link m q hn s k hs
   ·rcases hsub s k hs with rfl | h4
    ·exact ⟨q, hn⟩
    ·exact h.link m p hd s k h4
   ·exact h.link m r h3 s k hs
  obtain ⟨r1, hr1⟩ := there
  obtain ⟨r2, hr2, _⟩ := hhas k r1 hr1
  exact ⟨r2, hr2⟩
 ·rcases hget m r hr with ⟨rfl, rfl⟩ | ⟨_, rfl, rfl⟩ | ⟨_, _, h3⟩
  ·exact h.file m q hn hf
  ·rw [show ({ p with ds := ds } : PN).isDir = p.isDir from rfl, hdir] at hf; cases hf
  ·exact h.file m r h3 hf
 ·have e := hlk m
  rcases hget m r hr with ⟨rfl, rfl⟩ | ⟨e1, rfl, rfl⟩ | ⟨e1, _, h3⟩
  ·have e3 := h.cnt m q hn
   simp only
   omega
  ·have e3 := h.cnt m p hd
   have e4 := hc m e1
   simp only
   omega
  ·have e3 := h.cnt m r h3
   have e4 := hc m e1
   omega
 ·rcases hget m r hr with ⟨rfl, rfl⟩ | ⟨_, rfl, rfl⟩ | ⟨_, _, h3⟩
  ·exact h.dnd m q hn
  ·exact hnd
  ·exact h.dnd m r h3
 ·rcases hget m r hr with ⟨rfl, rfl⟩ | ⟨_, rfl, rfl⟩ | ⟨_, _, h3⟩
  ·exact h.data m q hn
  ·exact h.data m p hd
  ·exact h.data m r h3
 ·rw [mput_length_same hd2, mput_length_same hd]
  exact h.size
end
end Go.Proofs.YtamleilijmgoeaaGreatDoor
namespace Go.Proofs.YtamleilijmgoeaaGreatDoor
open Go.RowKit
set_option linter.unusedVariables false
def TreeTo (tb : Nat) (F : Nat → Prop) (w w' : World) (T' : PT) : Prop := ∃ F', TreeIs w' tb T' F' ∧ Turn F w w' ∧ ∀ k, F' k → F k ∨ w.heap.size ≤ k
section
variable {w w' w1 w2 : World} {tb nm b d : Nat} {T T1 T2 : PT} {B D : Int → Nat} {F : Nat → Prop} {p p' : PN} {n : Int}
theorem TreeTo.same (h : TreeIs w tb T F) (t : Turn (fun _ => False) w w') : TreeTo tb F w w' T := ⟨F, h.turned t (fun _ _ => id), t.mono (fun _ _ h => h.elim), fun _ h => .inl h⟩
theorem TreeTo.before (h : TreeTo tb F w1 w2 T2) (t : Turn (fun _ => False) w w1) : TreeTo tb F w w2 T2 := by
 obtain ⟨F', a, b, c⟩ := h
 exact ⟨F', a, (t.mono (fun _ _ h => h.elim)).trans b, fun k hk => (c k hk).imp id (fun h => Nat.le_trans t.size h)⟩
theorem keysB_put (B : Int → Nat) (hn : mget T n = some p) : keysB B (mput T n p') = keysB B T := by
 unfold keysB mput
 rw [hn]
 simp only [Option.isSome_some, if_true]
 unfold mupd
 rw [List.map_map]
 refine List.map_congr_left fun t _ => ?_
 show ((if t.1 = n then (t.1, p') else t).1, B (if t.1 = n then (t.1, p') else t).1) = (t.1, B t.1)
 by_cases e : t.1 = n
 ·rw [if_pos e]
 ·rw [if_neg e]
theorem foot_put (hn : mget T n = some p) (hd : p'.isDir = p.isDir) : TrFoot tb nm (mput T n p') B D = TrFoot tb nm T B D := by
 funext k
 apply propext
 unfold TrFoot
 constructor
 ·rintro (h | h | ⟨m, q, hq, h⟩)
  ·exact .inl h
  ·exact .inr (.inl h)
  ·rw [mget_mput] at hq
   by_cases e : m = n
   ·rw [if_pos e] at hq
    cases hq
    rw [hd] at h
    exact .inr (.inr ⟨m, p, by rw [e]; exact hn, h⟩)
   ·rw [if_neg e] at hq
    exact .inr (.inr ⟨m, q, hq, h⟩)
 ·rintro (h | h | ⟨m, q, hq, h⟩)
  ·exact .inl h
  ·exact .inr (.inl h)
  ·by_cases e : m = n
   ·rw [e, hn] at hq
    cases hq
    rw [← hd] at h
    exact .inr (.inr ⟨m, p', by rw [mget_mput, if_pos e], h⟩)
   ·exact .inr (.inr ⟨m, q, by rw [mget_mput, if_neg e]; exact hq, h⟩)
theorem TreeIn.put (h : TreeIn w tb nm T B D) (hn : mget T n = some p) (hd : p'.isDir = p.isDir) (nd' : NdAt w' (B n) (D n) p') (t : Turn (fun k => k = B n ∨ (p.isDir = true ∧ k = D n)) w w') : TreeIn w' tb nm (mput T n p') B D := by
 have hget : ∀ m q, mget (mput T n p') m = some q → (m = n ∧ q = p') ∨ (m ≠ n ∧ mget T m = some q) := fun m q hq => by
  rw [mget_mput] at hq
  by_cases e : m = n
  ·rw [if_pos e] at hq; cases hq; exact .inl ⟨e, rfl⟩
  ·rw [if_neg e] at hq; exact .inr ⟨e, hq⟩
 have hold : ∀ m q, mget (mput T n p') m = some q → ∃ q0, mget T m = some q0 ∧ q.isDir = q0.isDir := fun m q hq => by
  rcases hget m q hq with ⟨rfl, rfl⟩ | ⟨_, h2⟩
  ·exact ⟨p, hn, hd⟩
  ·exact ⟨q, h2, rfl⟩
 have ho := h.own n p hn
 refine ⟨(t.cell (a := ⟨tb, 0, none⟩) (lt_of_cell h.hdr) (fun e => ?_)).trans h.hdr, ?_, fun m q hq => ?_, fun m k q r hq hr hne => ?_, fun m k q r hq hr h1 h2 hne => ?_, fun m k q r hq hr h1 => ?_, fun m q hq => ?_, h.ne⟩
 ·rcases e with e | ⟨e1, e2⟩
  ·exact ho.1.1 e.symm
  ·exact (ho.2 e1).1 e2.symm
 ·rw [keysB_put B hn]
  exact h.mp.turned t (fun e => by
   rcases e with e | ⟨e1, e2⟩
   ·exact ho.1.2 e.symm
   ·exact (ho.2 e1).2 e2.symm)
 ·rcases hget m q hq with ⟨rfl, rfl⟩ | ⟨e, h2⟩
  ·exact nd'
  ·refine (h.nd m q h2).turned t (fun e2 => ?_) (fun hq2 e2 => ?_)
   ·rcases e2 with e2 | ⟨e1, e2⟩
    ·exact h.bb m n q p h2 hn e e2
    ·exact h.bd m n q p h2 hn e1 e2
   ·rcases e2 with e2 | ⟨e1, e2⟩
    ·exact h.bd n m p q hn h2 hq2 e2.symm
    ·exact h.dd m n q p h2 hn hq2 e1 e e2
 ·obtain ⟨q0, a, _⟩ := hold m q hq
  obtain ⟨r0, b, _⟩ := hold k r hr
  exact h.bb m k q0 r0 a b hne
 ·obtain ⟨q0, a, e1⟩ := hold m q hq
  obtain ⟨r0, b, e2⟩ := hold k r hr
  exact h.dd m k q0 r0 a b (e1 ▸ h1) (e2 ▸ h2) hne
 ·obtain ⟨q0, a, _⟩ := hold m q hq
  obtain ⟨r0, b, e2⟩ := hold k r hr
  exact h.bd m k q0 r0 a b (e2 ▸ h1)
 ·obtain ⟨q0, a, e1⟩ := hold m q hq
  have := h.own m q0 a
  exact ⟨this.1, fun e => this.2 (e1 ▸ e)⟩
theorem NdAt.setHeld (h : NdAt w b d p) (hne : p.isDir = true → b ≠ d) {z : Int} {c : Nat} (hz : z = c) : NdAt (w.setCell ⟨b, 3, none⟩ (.int .i64 z)) b d { p with held := c } :=
 ⟨(World.cell?_setCell_other _ _ _ _ (fun e => by simp at e)).trans h.c0, (World.cell?_setCell_other _ _ _ _ (fun e => by simp at e)).trans h.c1, (World.cell?_setCell_other _ _ _ _ (fun e => by simp at e)).trans h.c2,
  by rw [hz]; exact World.cell?_setCell_same _ _ _ h.c3, fun i => by rw [World.frozen?_setCell]; exact h.fz i, fun e => (h.dir e).turned (S := fun k => k = b) ((Turn.refl _ w).setCell _ _ (fun _ => rfl)) (fun e2 => hne e e2.symm)⟩
theorem NdAt.setNames (h : NdAt w b d p) (hne : p.isDir = true → b ≠ d) {z : Int} {c : Nat} (hz : z = c) : NdAt (w.setCell ⟨b, 2, none⟩ (.int .i64 z)) b d { p with names := c } :=
 ⟨(World.cell?_setCell_other _ _ _ _ (fun e => by simp at e)).trans h.c0, (World.cell?_setCell_other _ _ _ _ (fun e => by simp at e)).trans h.c1, by rw [hz]; exact World.cell?_setCell_same _ _ _ h.c2,
  (World.cell?_setCell_other _ _ _ _ (fun e => by simp at e)).trans h.c3, fun i => by rw [World.frozen?_setCell]; exact h.fz i, fun e => (h.dir e).turned (S := fun k => k = b) ((Turn.refl _ w).setCell _ _ (fun _ => rfl)) (fun e2 => hne e e2.symm)⟩
theorem NdAt.setData (h : NdAt w b d p) (hne : p.isDir = true → b ≠ d) (x : ByteArray) : NdAt (w.setCell ⟨b, 1, none⟩ (.string x)) b d { p with data := x } :=
 ⟨(World.cell?_setCell_other _ _ _ _ (fun e => by simp at e)).trans h.c0, World.cell?_setCell_same _ _ _ h.c1, (World.cell?_setCell_other _ _ _ _ (fun e => by simp at e)).trans h.c2,
  (World.cell?_setCell_other _ _ _ _ (fun e => by simp at e)).trans h.c3, fun i => by rw [World.frozen?_setCell]; exact h.fz i, fun e => (h.dir e).turned (S := fun k => k = b) ((Turn.refl _ w).setCell _ _ (fun _ => rfl)) (fun e2 => hne e e2.symm)⟩
theorem TreeIn.apart (h : TreeIn w tb nm T B D) (hn : mget T n = some p) : p.isDir = true → B n ≠ D n := fun e => h.bd n n p p hn hn e
theorem TreeIn.to (h : TreeIn w tb nm T B D) (hok : TOk (mput T n p')) (hn : mget T n = some p) (hd : p'.isDir = p.isDir) (nd' : NdAt w' (B n) (D n) p') (t : Turn (fun k => k = B n ∨ (p.isDir = true ∧ k = D n)) w w') : TreeTo tb (TrFoot tb nm T B D) w w' (mput T n p') := by
 refine ⟨TrFoot tb nm T B D, ⟨nm, B, D, h.put hn hd nd' t, hok, (foot_put hn hd).symm⟩, t.mono (fun k _ hk => ?_), fun _ hk => .inl hk⟩
 rcases hk with rfl | ⟨e, rfl⟩
 ·exact .inr (.inr ⟨n, p, hn, .inl rfl⟩)
 ·exact .inr (.inr ⟨n, p, hn, .inr ⟨e, rfl⟩⟩)
theorem keysB_del (B : Int → Nat) (T : PT) (n : Int) : keysB B (mdel T n) = mdel (keysB B T) n := by
 unfold keysB mdel
 rw [List.filter_map]
 rfl
theorem TreeIn.del (h : TreeIn w tb nm T B D) (hm : MapIs w' nm (.int .i64) encI ptrV (mdel (keysB B T) n)) (t : Turn (fun k => k = nm) w w') : TreeIn w' tb nm (mdel T n) B D := by
 have hget : ∀ m q, mget (mdel T n) m = some q → mget T m = some q := fun m q hq => by
  rw [mget_mdel] at hq
  split at hq
  ·cases hq
  ·exact hq
 refine ⟨(t.cell (a := ⟨tb, 0, none⟩) (lt_of_cell h.hdr) h.ne).trans h.hdr, by rw [keysB_del]; exact hm, fun m q hq => ?_, fun m k q r hq hr => h.bb m k q r (hget m q hq) (hget k r hr), fun m k q r hq hr => h.dd m k q r (hget m q hq) (hget k r hr), fun m k q r hq hr => h.bd m k q r (hget m q hq) (hget k r hr), fun m q hq => h.own m q (hget m q hq), h.ne⟩
 have ho := h.own m q (hget m q hq)
 exact (h.nd m q (hget m q hq)).turned t ho.1.2 (fun e => (ho.2 e).2)
theorem foot_del (k : Nat) (hk : TrFoot tb nm (mdel T n) B D k) : TrFoot tb nm T B D k := by
 rcases hk with h | h | ⟨m, q, hq, h⟩
 ·exact .inl h
 ·exact .inr (.inl h)
 ·rw [mget_mdel] at hq
  split at hq
  ·cases hq
  ·exact .inr (.inr ⟨m, q, hq, h⟩)
def goneT (T : PT) (n : Int) (p : PN) : PT := if p.names = 0 ∧ p.held = 0 then mdel T n else T
set_option maxRecDepth 100000 in
theorem goes_is (h : TreeIn w tb nm T B D) (hok : TOk T) (hn : mget T n = some p) (hds : p.ds = []) :
  Calls Tryz.prog 221 #[.pointer (some ⟨tb, 0, none⟩), .int .i64 n] w fun e w' => e = .returned (.tuple #[]) ∧ TreeTo tb (TrFoot tb nm T B D) w w' (goneT T n p) := by
 have H := hid h
 have HOk := hid hok
 have hh := h.hdr
 have lk := h.look hn
 have c2 := (h.nd n p hn).c2
 have c3 := (h.nd n p hn).c3
 have HN := hid hn
 by_cases h1 : p.names = 0
 ·by_cases h2 : p.held = 0
  ·obtain ⟨w3, hrun, hmp, t3⟩ := h.mp.run_delete (P := Tryz.prog) (ty := 0) keyI Tryz.underlying218 Tryz.underlying3 n
   replace hrun : (Builtin.delete_ #[218, 3] 0 #[.map (some nm), .int .i64 n]).run Tryz.prog w = .ok (.tuple #[]) w3 := hrun
   have hg : goneT T n p = mdel T n := if_pos ⟨h1, h2⟩
   have HG := hid hg
   have HD := hid (hok.del hn h1 hds)
   rw [h1] at c2
   rw [h2] at c3
   have HM3 := hid hmp
   have HT3 := hid t3
   clear h hok hn h1 h2 hg hmp t3
   go_enter Tryz.func221, Tryz.ntmps221
   go_wp2_with fail
   go_returns
   rw [HG.out]
   refine ⟨rfl, _, ⟨nm, B, D, H.out.del HM3.out HT3.out, HD.out, rfl⟩, HT3.out.mono (fun k _ hk => .inr (.inl hk)), fun k hk => .inl (foot_del k hk)⟩
  ·have hg : goneT T n p = T := if_neg (fun e => h2 e.2)
   have h2' : ((p.held : Int) == 0) = false := beq_eq_false_iff_ne.2 (by omega)
   rw [h1] at c2
   clear h hok hn h1 h2
   go_enter Tryz.func221, Tryz.ntmps221
   go_wp2_with fail
   go_returns
   rw [hg]
   exact ⟨rfl, TreeTo.same ⟨nm, B, D, H.out, HOk.out, rfl⟩ (Turn.refl _ _)⟩
 ·have hg : goneT T n p = T := if_neg (fun e => h1 e.1)
  have h1' : ((p.names : Int) == 0) = false := beq_eq_false_iff_ne.2 (by omega)
  clear h hok hn h1
  go_enter Tryz.func221, Tryz.ntmps221
  go_wp2_with fail
  go_returns
  rw [hg]
  exact ⟨rfl, TreeTo.same ⟨nm, B, D, H.out, HOk.out, rfl⟩ (Turn.refl _ _)⟩
def holdT (T : PT) (n : Int) : PT := (mget T n).elim T fun p => if p.isDir then T else mput T n { p with held := p.held + 1 }
theorem holdT_err (h : fileE T n ≠ 0) : holdT T n = T := by
 unfold holdT
 cases hn : mget T n with
 | none => rfl
 | some p =>
  cases hd : p.isDir with
  | true => show (if p.isDir then T else _) = T; rw [hd]; rfl
  | false => exact absurd (fileE_file hn hd) h
theorem holdT_file (hn : mget T n = some p) (hd : p.isDir = false) : holdT T n = mput T n { p with held := p.held + 1 } := by
 unfold holdT; rw [hn]; show (if p.isDir then T else _) = _; rw [hd]; rfl
set_option maxRecDepth 100000 in
theorem hold_is (h : TreeIs w tb T F) (n : Int) (hb : ∀ p, mget T n = some p → p.held < 1000000) :
  Calls Tryz.prog 231 #[.pointer (some ⟨tb, 0, none⟩), .int .i64 n] w fun e w' => e = .returned (TErr (fileE T n)) ∧ TreeTo tb F w w' (holdT T n) := by
 have HI := hid h
 obtain ⟨nm, B, D, hin, hok, rfl⟩ := h
 have H := hid hin
 have HOk := hid hok
 have HF := hid (file_is hin n)
 have HB := hid hb
 clear hin hok hb
 go_enter Tryz.func231, Tryz.ntmps231
 go_wp2_with fail
 refine HF.out.mono ?_
 rintro e w1 ⟨⟨hz, rfl⟩ | ⟨p, hn, hd, hz, rfl⟩, hw⟩ <;> subst w1
 ·have te := TErr_of hz
  have hT := holdT_err hz
  have HT := hid hT
  clear hz hT
  go_wp2_with fail
  go_returns
  rw [HT.out]
  exact ⟨congrArg Ending.returned te.symm, TreeTo.same HI.out (Turn.refl _ _)⟩
 ·have nd := H.out.nd n p hn
  have c3 := nd.c3
  have f3 := nd.fz 3
  have hlt := HB.out p hn
  have HN := hid hn
  have HD := hid hd
  have HZ := hid hz
  have hwr : wrap64 ((p.held : Int) + 1) = p.held + 1 := IntWalk.wrap64_in _ (by omega)
  clear nd hn hd hz
  go_wp2_with fail
  go_returns
  rw [HZ.out, holdT_file HN.out HD.out]
  refine ⟨rfl, ?_⟩
  exact H.out.to (HOk.out.upd HN.out rfl rfl rfl (HOk.out.data n p HN.out)) HN.out rfl ((H.out.nd n p HN.out).setHeld (H.out.apart HN.out) (by omega)) ((Turn.refl _ _).setCell _ _ (fun _ => .inl rfl))
theorem TreeTo.then_ {F1 : Nat → Prop} (t : Turn F w w1) (c : ∀ k, F1 k → F k ∨ w.heap.size ≤ k) (h : TreeTo tb F1 w1 w2 T2) : TreeTo tb F w w2 T2 := by
 obtain ⟨F', a, b, c2⟩ := h
 refine ⟨F', a, t.trans' b (fun k hk hf => ?_), fun k hk => ?_⟩
 ·rcases c k hf with h1 | h1
  ·exact h1
  ·omega
 ·rcases c2 k hk with h1 | h1
  ·exact c k h1
  ·exact .inr (Nat.le_trans t.size h1)
def dropE (T : PT) (n : Int) : Int := (mget T n).elim 7 fun p => if p.isDir then 6 else if p.held = 0 then 10 else 0
def dropT (T : PT) (n : Int) : PT := (mget T n).elim T fun p => if p.isDir then T else if p.held = 0 then T else goneT (mput T n { p with held := p.held - 1 }) n { p with held := p.held - 1 }
theorem drop_err (h : fileE T n ≠ 0) : dropE T n = fileE T n ∧ dropT T n = T := by
 unfold dropE dropT fileE at *
 cases hn : mget T n with
 | none => exact ⟨rfl, rfl⟩
 | some p =>
  rw [hn] at h
  cases hd : p.isDir with
  | true => show (if p.isDir then _ else _) = (if p.isDir then _ else _) ∧ (if p.isDir then _ else _) = _; rw [hd]; exact ⟨rfl, rfl⟩
  | false => exact absurd (show (if p.isDir then (6 : Int) else 0) = 0 by rw [hd]; rfl) h
theorem drop_none (hn : mget T n = some p) (hd : p.isDir = false) (h0 : p.held = 0) : dropE T n = 10 ∧ dropT T n = T := by
 unfold dropE dropT; rw [hn]
 show (if p.isDir then _ else if p.held = 0 then _ else _) = _ ∧ (if p.isDir then _ else if p.held = 0 then _ else _) = _
 rw [hd, if_neg Bool.false_ne_true, if_neg Bool.false_ne_true, if_pos h0, if_pos h0]; exact ⟨rfl, rfl⟩
theorem drop_file (hn : mget T n = some p) (hd : p.isDir = false) (h0 : p.held ≠ 0) : dropE T n = 0 ∧ dropT T n = goneT (mput T n { p with held := p.held - 1 }) n { p with held := p.held - 1 } := by
 unfold dropE dropT; rw [hn]
 show (if p.isDir then _ else if p.held = 0 then _ else _) = _ ∧ (if p.isDir then _ else if p.held = 0 then _ else _) = _
 rw [hd, if_neg Bool.false_ne_true, if_neg Bool.false_ne_true, if_neg h0, if_neg h0]; exact ⟨rfl, rfl⟩
set_option maxRecDepth 100000 in
theorem drop_is (h : TreeIs w tb T F) (n : Int) (hb : ∀ p, mget T n = some p → p.held < 1000000) :
  Calls Tryz.prog 139 #[.pointer (some ⟨tb, 0, none⟩), .int .i64 n] w fun e w' => e = .returned (TErr (dropE T n)) ∧ TreeTo tb F w w' (dropT T n) := by
 have HI := hid h
 obtain ⟨nm, B, D, hin, hok, rfl⟩ := h
 have H := hid hin
 have HOk := hid hok
 have HF := hid (file_is hin n)
 have HB := hid hb
 clear hin hok hb
 go_enter Tryz.func139, Tryz.ntmps139
 go_wp2_with fail
 refine HF.out.mono ?_
 rintro e w1 ⟨⟨hz, rfl⟩ | ⟨p, hn, hd, hz, rfl⟩, hw⟩ <;> subst w1
 ·have te := TErr_of hz
  have HT := hid (drop_err hz)
  clear hz
  go_wp2_with fail
  go_returns
  rw [HT.out.1, HT.out.2]
  exact ⟨congrArg Ending.returned te.symm, TreeTo.same HI.out (Turn.refl _ _)⟩
 ·have nd := H.out.nd n p hn
  have c3 := nd.c3
  have f3 := nd.fz 3
  have hlt := HB.out p hn
  have HN := hid hn
  have HD := hid hd
  by_cases h0 : p.held = 0
  ·have HT := hid (drop_none hn hd h0)
   rw [h0] at c3
   clear nd hn hd hz h0
   go_wp2_with fail
   go_returns
   rw [HT.out.1, HT.out.2]
   exact ⟨rfl, TreeTo.same HI.out (Turn.refl _ _)⟩
  ·have HT := hid (drop_file hn hd h0)
   have h0' : ((p.held : Int) == 0) = false := beq_eq_false_iff_ne.2 (by omega)
   have hwr : wrap64 ((p.held : Int) - 1) = p.held - 1 := IntWalk.wrap64_in _ (by omega)
   have tt : Turn (fun k => k = B n ∨ (p.isDir = true ∧ k = D n)) w (w.setCell ⟨B n, 3, none⟩ (.int .i64 ((p.held : Int) - 1))) := (Turn.refl _ _).setCell _ _ (fun _ => .inl rfl)
   have hput := H.out.put (p' := { p with held := p.held - 1 }) hn rfl (nd.setHeld (c := p.held - 1) (H.out.apart hn) (by omega)) tt
   have hok2 := HOk.out.upd (p' := { p with held := p.held - 1 }) hn rfl rfl rfl (HOk.out.data n p hn)
   have HG := hid (goes_is hput hok2 (p := { p with held := p.held - 1 }) (by rw [mget_mput, if_pos rfl]) (HOk.out.file n p hn hd))
   have HTt : Hid (Turn (TrFoot tb nm T B D) w (w.setCell ⟨B n, 3, none⟩ (.int .i64 ((p.held : Int) - 1)))) := hid (tt.mono (fun k _ hk => by
    rcases hk with rfl | ⟨e, rfl⟩
    ·exact .inr (.inr ⟨n, p, hn, .inl rfl⟩)
    ·exact .inr (.inr ⟨n, p, hn, .inr ⟨e, rfl⟩⟩)))
   clear nd hn hd hz h0 tt hput hok2
   go_wp2_with fail
   refine HG.out.mono ?_
   rintro e w2 ⟨rfl, hto⟩
   have HTo := hid hto
   clear hto
   go_wp2_with fail
   go_returns
   rw [HT.out.1, HT.out.2]
   exact ⟨rfl, HTo.out.then_ HTt.out (fun k hk => .inl (by rw [foot_put (p' := { p with held := p.held - 1 }) HN.out rfl] at hk; exact hk))⟩
end
end Go.Proofs.YtamleilijmgoeaaGreatDoor
namespace Go.Proofs.YtamleilijmgoeaaGreatDoor
open Go.RowKit
set_option linter.unusedVariables false
def leastT (T : PT) : Nat → Nat → Nat
 | 0, k => k
 | f + 1, k => if (mget T (k : Int)).isSome then leastT T f (k + 1) else k
def freeT (T : PT) : Nat := leastT T 60 1
theorem leastT_spec (T : PT) : ∀ (f k : Nat), k ≤ leastT T f k ∧ leastT T f k ≤ k + f ∧ (∀ i : Nat, k ≤ i → i < leastT T f k → (mget T (i : Int)).isSome = true) ∧ (leastT T f k < k + f → mget T ((leastT T f k : Nat) : Int) = none)
 | 0, k => ⟨Nat.le_refl _, Nat.le_refl _, fun i h1 h2 => by unfold leastT at h2; omega, fun h => by unfold leastT at h; omega⟩
 | f + 1, k => by
  unfold leastT
  cases hk : mget T (k : Int) with
  | none =>
   simp only [Option.isSome_none, Bool.false_eq_true, if_false]
   exact ⟨Nat.le_refl _, by omega, fun i h1 h2 => by omega, fun _ => hk⟩
  | some p =>
   simp only [Option.isSome_some, if_true]
   obtain ⟨a, b, c, d⟩ := leastT_spec T f (k + 1)
   refine ⟨by omega, by omega, fun i h1 h2 => ?_, fun h => d (by omega)⟩
   by_cases e : i = k
   ·rw [e, hk]; rfl
   ·exact c i (by omega) h2
theorem keys_fillT : ∀ (k : Nat) (T : PT), MNodup T → (∀ i : Int, 0 ≤ i → i < k → (mget T i).isSome = true) → k ≤ T.length
 | 0, T, _, _ => Nat.zero_le _
 | k + 1, T, hn, h => by
  obtain ⟨v, hv⟩ := Option.isSome_iff_exists.1 (h (k : Int) (by omega) (by omega))
  have h1 := mdel_length hn hv
  have h2 := keys_fillT k (mdel T (k : Int)) (mdel_nodup hn _) (fun i h1 h2 => by
   rw [mget_mdel, if_neg (by omega)]
   exact h i h1 (by omega))
  omega
theorem freeT_spec {T : PT} (h : TOk T) (hl : T.length < 60) : 1 ≤ freeT T ∧ freeT T < 60 ∧ mget T (freeT T : Int) = none ∧ ∀ i : Nat, 1 ≤ i → i < freeT T → (mget T (i : Int)).isSome = true := by
 obtain ⟨a, b, c, d⟩ := leastT_spec T 60 1
 have hlt : freeT T < 60 := by
  rcases Nat.lt_or_ge (freeT T) 60 with h1 | h1
  ·exact h1
  ·have h2 := keys_fillT 60 T h.nd (fun i h3 h4 => by
    by_cases e : i = 0
    ·obtain ⟨p0, hp0, _⟩ := h.root
     rw [e, hp0]; rfl
    ·have h5 := c i.toNat (by omega) (by unfold freeT at h1; omega)
     rwa [show ((i.toNat : Nat) : Int) = i by omega] at h5)
   omega
 exact ⟨a, hlt, d (by unfold freeT at hlt; omega), c⟩
def updI (B : Int → Nat) (k : Int) (c : Nat) : Int → Nat := fun n => if n = k then c else B n
section
variable {w w' w1 w2 w3 : World} {tb nm b d c dn : Nat} {T T1 T2 : PT} {B D : Int → Nat} {F : Nat → Prop} {p p' nn : PN} {n k : Int}
theorem mput_newT (hk : mget T k = none) : mput T k p = T ++ [(k, p)] := by
 unfold mput
 rw [if_neg (by rw [hk]; simp)]
theorem keysB_new (hk : mget T k = none) : keysB (updI B k c) (mput T k nn) = mput (keysB B T) k c := by
 rw [mput_newT hk]
 have h1 : mget (keysB B T) k = none := by rw [keysB_get, hk]; rfl
 have h2 : mput (keysB B T) k c = keysB B T ++ [(k, c)] := by
  unfold mput
  rw [if_neg (by rw [h1]; simp)]
 rw [h2]
 unfold keysB
 rw [List.map_append]
 congr 1
 ·refine List.map_congr_left fun t ht => ?_
  have hne : t.1 ≠ k := mget_none_iff.1 hk t ht
  unfold updI
  rw [if_neg hne]
 ·show [(k, updI B k c k)] = [(k, c)]
  unfold updI
  rw [if_pos rfl]
theorem TreeIn.add (h : TreeIn w tb nm T B D) (hk : mget T k = none) (nd : NdAt w' c dn nn) (hm : MapIs w' nm (.int .i64) encI ptrV (mput (keysB B T) k c)) (t : Turn (fun j => j = nm ∨ j = c) w w')
  (hc : ¬ TrFoot tb nm T B D c) (hdn : nn.isDir = true → ¬ TrFoot tb nm T B D dn ∧ dn ≠ c) : TreeIn w' tb nm (mput T k nn) (updI B k c) (updI D k dn) := by
 have hget : ∀ m q, mget (mput T k nn) m = some q → (m = k ∧ q = nn ∧ updI B k c m = c ∧ updI D k dn m = dn) ∨ (m ≠ k ∧ mget T m = some q ∧ updI B k c m = B m ∧ updI D k dn m = D m) := fun m q hq => by
  rw [mget_mput] at hq
  by_cases e : m = k
  ·rw [if_pos e] at hq; cases hq; exact .inl ⟨e, rfl, if_pos e, if_pos e⟩
  ·rw [if_neg e] at hq; exact .inr ⟨e, hq, if_neg e, if_neg e⟩
 have hfb : ∀ m q, mget T m = some q → TrFoot tb nm T B D (B m) := fun m q hq => .inr (.inr ⟨m, q, hq, .inl rfl⟩)
 have hfd : ∀ m q, mget T m = some q → q.isDir = true → TrFoot tb nm T B D (D m) := fun m q hq e => .inr (.inr ⟨m, q, hq, .inr ⟨e, rfl⟩⟩)
 refine ⟨(t.cell (a := ⟨tb, 0, none⟩) (lt_of_cell h.hdr) (fun e => ?_)).trans h.hdr, by rw [keysB_new hk]; exact hm, fun m q hq => ?_, fun m m2 q r hq hr hne => ?_, fun m m2 q r hq hr h1 h2 hne => ?_, fun m m2 q r hq hr h1 => ?_, fun m q hq => ?_, h.ne⟩
 ·rcases e with e | e
  ·exact h.ne e
  ·exact hc (e ▸ .inl rfl)
 ·rcases hget m q hq with ⟨rfl, rfl, e1, e2⟩ | ⟨_, h2, e1, e2⟩
  ·rw [e1, e2]; exact nd
  ·rw [e1, e2]
   have ho := h.own m q h2
   exact (h.nd m q h2).turned t (fun e => e.elim ho.1.2 (fun e => hc (e ▸ hfb m q h2))) (fun hd e => e.elim (ho.2 hd).2 (fun e => hc (e ▸ hfd m q h2 hd)))
 ·rcases hget m q hq with ⟨rfl, rfl, e1, _⟩ | ⟨_, h2, e1, _⟩ <;> rcases hget m2 r hr with ⟨rfl, rfl, e3, _⟩ | ⟨_, h4, e3, _⟩
  ·exact absurd rfl hne
  ·rw [e1, e3]; exact fun e => hc (e ▸ hfb m2 r h4)
  ·rw [e1, e3]; exact fun e => hc (e ▸ hfb m q h2)
  ·rw [e1, e3]; exact h.bb m m2 q r h2 h4 hne
 ·rcases hget m q hq with ⟨rfl, rfl, _, e1⟩ | ⟨_, hq2, _, e1⟩ <;> rcases hget m2 r hr with ⟨rfl, rfl, _, e3⟩ | ⟨_, hr2, _, e3⟩
  ·exact absurd rfl hne
  ·rw [e1, e3]; exact fun e => (hdn h1).1 (e ▸ hfd m2 r hr2 h2)
  ·rw [e1, e3]; exact fun e => (hdn h2).1 (e ▸ hfd m q hq2 h1)
  ·rw [e1, e3]; exact h.dd m m2 q r hq2 hr2 h1 h2 hne
 ·rcases hget m q hq with ⟨rfl, rfl, e1, _⟩ | ⟨_, hq2, e1, _⟩ <;> rcases hget m2 r hr with ⟨rfl, rfl, _, e3⟩ | ⟨_, hr2, _, e3⟩
  ·rw [e1, e3]; exact fun e => (hdn h1).2 e.symm
  ·rw [e1, e3]; exact fun e => hc (e ▸ hfd m2 r hr2 h1)
  ·rw [e1, e3]; exact fun e => (hdn h1).1 (e ▸ hfb m q hq2)
  ·rw [e1, e3]; exact h.bd m m2 q r hq2 hr2 h1
 ·rcases hget m q hq with ⟨rfl, rfl, e1, e2⟩ | ⟨_, hq2, e1, e2⟩
  ·rw [e1, e2]
   exact ⟨⟨fun e => hc (e ▸ .inl rfl), fun e => hc (e ▸ .inr (.inl rfl))⟩, fun hd => ⟨fun e => (hdn hd).1 (e ▸ .inl rfl), fun e => (hdn hd).1 (e ▸ .inr (.inl rfl))⟩⟩
  ·rw [e1, e2]; exact h.own m q hq2
theorem NdAt.setDs {ds' : List (ByteArray × Int)} (h : NdAt w b d p) (hd : p.isDir = true) (hm : MapIs w' d .string encS encI ds') (t : Turn (fun j => j = d) w w') (hne : b ≠ d) : NdAt w' b d { p with ds := ds' } :=
 ⟨(t.cell (a := ⟨b, 0, none⟩) h.lt hne).trans h.c0, (t.cell (a := ⟨b, 1, none⟩) h.lt hne).trans h.c1, (t.cell (a := ⟨b, 2, none⟩) h.lt hne).trans h.c2, (t.cell (a := ⟨b, 3, none⟩) h.lt hne).trans h.c3, fun i => (t.frozen (a := ⟨b, i, none⟩) h.lt hne).trans (h.fz i), fun _ => hm⟩
def dsT (T : PT) (n : Int) : List (ByteArray × Int) := (mget T n).elim [] (·.ds)
def makeE (T : PT) (path : ByteArray) : Int := if (placeT T path).1 ≠ 0 then (placeT T path).1 else if (mget (dsT T (placeT T path).2.1) (placeT T path).2.2).isSome then 9 else if 60 ≤ T.length then 12 else 0
def nameT (T : PT) (d : Int) (ds : List (ByteArray × Int)) : PT := (mget T d).elim T fun p => mput T d { p with ds := ds }
def newN (b : Bool) : PN := ⟨b, [], ByteArray.empty, 1, 0⟩
def makeT (T : PT) (path : ByteArray) (b : Bool) : PT :=
 if makeE T path = 0 then nameT (mput T (freeT T) (newN b)) (placeT T path).2.1 (mput (dsT T (placeT T path).2.1) (placeT T path).2.2 (freeT T)) else T
def MakeTo (tb c dn : Nat) (b : Bool) (F : Nat → Prop) (w w' : World) (T' : PT) : Prop :=
 ∃ F', TreeIs w' tb T' F' ∧ Turn (fun j => F j ∨ j = c) w w' ∧ ∀ j, F' j → F j ∨ j = c ∨ (b = true ∧ j = dn)
end
end Go.Proofs.YtamleilijmgoeaaGreatDoor
namespace Go.Proofs.YtamleilijmgoeaaGreatDoor
open Go.RowKit
set_option linter.unusedVariables false
section
variable {w w' w1 w2 w3 : World} {tb nm b d c dn : Nat} {T T1 T2 : PT} {B D : Int → Nat} {F : Nat → Prop} {p p' nn : PN} {n k : Int}
def rootT : PT := [(0, ⟨true, [], ByteArray.empty, 1, 0⟩)]
theorem rootT_ok : TOk rootT := by
 have hget : ∀ n p, mget rootT n = some p → n = 0 ∧ p = ⟨true, [], ByteArray.empty, 1, 0⟩ := fun n p hp => by
  have h := mem_of_mget hp
  unfold rootT at h
  have h := List.mem_singleton.1 h
  cases h
  exact ⟨rfl, rfl⟩
 refine ⟨⟨_, rfl, rfl⟩, by simp [rootT, MNodup], fun n p hp => ?_, fun n p hp s m hm => ?_, fun n p hp hf => ?_, fun n p hp => ?_, fun n p hp => ?_, fun n p hp => ?_, by decide, fun n p hp => ?_⟩
 all_goals obtain ⟨rfl, rfl⟩ := hget n p hp
 ·omega
 ·cases hm
 ·cases hf
 ·rfl
 ·exact List.nodup_nil
 ·exact Nat.zero_le _
 ·intro e he; cases he
def TreeNewIs (w : World) (e : Ending) (w' : World) : Prop := ∃ tb F, e = .returned (.pointer (some ⟨tb, 0, none⟩)) ∧ TreeIs w' tb rootT F ∧ Turn (fun _ => False) w w' ∧ ∀ k, F k → w.heap.size ≤ k
set_option maxHeartbeats 2000000 in
set_option maxRecDepth 100000 in
theorem treeNew_is (w : World) : Calls Tryz.prog 47 #[] w (TreeNewIs w) := by
 have hmm := @run_makeMap Tryz.prog
 obtain ⟨W2, hW2⟩ : ∃ W2, (w.alloc (.map #[] 0)).alloc (.map #[] 0) = W2 := ⟨_, rfl⟩
 have hs0 : (w.alloc (.map #[] 0)).heap.size = w.heap.size + 1 := World.size_alloc _ _
 have hs2 : W2.heap.size = w.heap.size + 2 := by rw [← hW2, World.size_alloc, hs0]
 obtain ⟨N, hN⟩ : ∃ N, Obj.cells #[.map (some (w.heap.size + 1)), .string ByteArray.empty, .int .i64 1, .int .i64 0] 217 = N := ⟨_, rfl⟩
 have t0 : Turn (fun _ => False) w (w.alloc (.map #[] 0)) := (Turn.refl _ _).alloc _
 have t1 : Turn (fun _ => False) (w.alloc (.map #[] 0)) W2 := by rw [← hW2]; exact (Turn.refl _ _).alloc _
 have t2 : Turn (fun _ => False) W2 (W2.alloc N) := (Turn.refl _ _).alloc _
 have HM : Hid (MapIs (W2.alloc N) w.heap.size (.int .i64) encI ptrV ([] : List (Int × Nat))) := hid (((MapIs.made w).turned t1 id).turned t2 id)
 have hmd : MapIs W2 (w.heap.size + 1) .string encS encI ([] : List (ByteArray × Int)) := by
  rw [← hW2, ← hs0]; exact MapIs.made _
 have HMd := hid (hmd.turned t2 id)
 have HNd : Hid (NdAt (W2.alloc N) (w.heap.size + 2) (w.heap.size + 1) ⟨true, [], ByteArray.empty, 1, 0⟩) := hid (by
  rw [← hs2]
  refine ⟨?_, ?_, ?_, ?_, fun i => by rw [← hN]; simp, fun _ => by rw [← hs2] at *; exact HMd.out⟩
  ·rw [← hN]; exact World.cell?_alloc_new _ _ _ _
  ·rw [← hN]; exact World.cell?_alloc_new _ _ _ _
  ·rw [← hN]; exact World.cell?_alloc_new _ _ _ _
  ·rw [← hN]; exact World.cell?_alloc_new _ _ _ _)
 have HT0 := hid ((t0.trans t1).trans t2)
 have HS := hid hs2
 have HW2 := hid hW2
 have HN := hid hN
 obtain ⟨w5, hrun, hm5, t5⟩ := HM.out.run_update (P := Tryz.prog) keyI Tryz.underlying218 Tryz.underlying3 (0 : Int) (w.heap.size + 2)
 have hC : W2.alloc N = ((w.alloc (.map #[] 0)).alloc (.map #[] 0)).alloc (.cells #[.map (some (w.heap.size + 1)), .string ⟨#[]⟩, .int .i64 1, .int .i64 0] 217) := by rw [← hN, ← hW2]; rfl
 replace hrun : (Instr.mapUpdate 218 (.map (some w.heap.size)) (.int .i64 0) (.pointer (some ⟨w.heap.size + 1 + 1, 0, none⟩))).run Tryz.prog (((w.alloc (.map #[] 0)).alloc (.map #[] 0)).alloc (.cells #[.map (some (w.heap.size + 1)), .string ⟨#[]⟩, .int .i64 1, .int .i64 0] 217)) = .ok () w5 := by rw [← hC]; exact hrun
 have hs5 : w.heap.size + 3 ≤ w5.heap.size := by
  have h1 := t5.size
  rw [World.size_alloc, hs2] at h1
  omega
 have t6 : Turn (fun _ => False) w5 (w5.alloc (.cells #[.map (some w.heap.size)] 220)) := (Turn.refl _ _).alloc _
 have hin : TreeIn (w5.alloc (.cells #[.map (some w.heap.size)] 220)) w5.heap.size w.heap.size rootT (fun _ => w.heap.size + 2) (fun _ => w.heap.size + 1) := by
  have hget : ∀ n p, mget rootT n = some p → n = 0 ∧ p = ⟨true, [], ByteArray.empty, 1, 0⟩ := fun n p hp => by
   have h := mem_of_mget hp
   unfold rootT at h
   have h := List.mem_singleton.1 h
   cases h
   exact ⟨rfl, rfl⟩
  refine ⟨World.cell?_alloc_new _ _ _ _, hm5.turned t6 id, fun n p hp => ?_, fun n m p q hp hq hne => ?_, fun n m p q hp hq _ _ hne => ?_, fun n m p q _ _ _ => by omega, fun n p hp => ⟨⟨by omega, by omega⟩, fun _ => ⟨by omega, by omega⟩⟩, by omega⟩
  ·obtain ⟨_, rfl⟩ := hget n p hp
   exact (HNd.out.turned t5 (by omega) (fun _ => by omega)).turned t6 id (fun _ => id)
  ·exact absurd ((hget n p hp).1.trans (hget m q hq).1.symm) hne
  ·exact absurd ((hget n p hp).1.trans (hget m q hq).1.symm) hne
 have HIn := hid hin
 have HT6 : Hid (Turn (fun _ => False) w (w5.alloc (.cells #[.map (some w.heap.size)] 220))) := hid ((HT0.out.trans' (t5.trans (t6.mono (fun _ _ h => h.elim))) (fun k hk e => by omega)))
 have HS5 := hid hs5
 clear t0 t1 t2 hmd hs0 hs2 hW2 hN hm5 t5 hC t6 hin hs5
 go_enter Tryz.func47, Tryz.ntmps47
 go_wp2_with fail
 go_returns
 refine ⟨_, _, rfl, ⟨_, _, _, HIn.out, rootT_ok, rfl⟩, HT6.out, fun k hk => ?_⟩
 have h5 := HS5.out
 rcases hk with rfl | rfl | ⟨n, p, _, e | ⟨_, e⟩⟩
 ·omega
 ·omega
 ·have e : k = w.heap.size + 2 := e
  omega
 ·have e : k = w.heap.size + 1 := e
  omega
theorem MakeTo.to {b : Bool} (h : MakeTo tb c dn b F w1 w2 T2) (t : Turn (fun _ => False) w w1) (hc : w.heap.size ≤ c) (hd : b = true → w.heap.size ≤ dn) : TreeTo tb F w w2 T2 := by
 obtain ⟨F', a, t2, hF⟩ := h
 refine ⟨F', a, (t.mono (fun _ _ h => h.elim)).trans' t2 (fun k hk e => e.elim id (fun e => by omega)), fun k hk => ?_⟩
 rcases hF k hk with h1 | h1 | ⟨h1, h2⟩
 ·exact .inl h1
 ·exact .inr (by omega)
 ·exact .inr (by rw [h2]; exact hd h1)
end
end Go.Proofs.YtamleilijmgoeaaGreatDoor
namespace Go.Proofs.YtamleilijmgoeaaGreatDoor
open Go.RowKit
set_option linter.unusedVariables false
def zerosB (k : Nat) : ByteArray := ⟨(Go.Lib.repeatL [0] k).toArray⟩
def zeroByte : ByteArray := ⟨#[0]⟩
theorem repExtra : Go.Proofs.Builder.Extra Tryz.prog laysRepI_ren :=
  { sizeBuilder := by kernel_rfl
    liesBuilder := by kernel_rfl
    t5 := by kernel_rfl
    a5 := laysRepI.a5
    z5 := laysRepI.z5
    v5 := laysRepI.v5
    infoByte := by kernel_rfl
    cellsByte := by kernel_rfl
    sizeByte := by kernel_rfl
    neB5 := by decide }
theorem repeat_is (c : Nat) (hc : c ≤ 1000) (w : World) : Calls Tryz.prog 222 #[.string zeroByte, .int .i64 c] w fun e w' => e = .returned (.string (zerosB c)) ∧ Turn (fun _ => False) w w' := by
 refine (Any.strings_Repeat laysRepI repExtra zeroByte c w (by omega) (by rw [show zeroByte.size = 1 from rfl]; omega)).mono ?_
 rintro e w' ⟨rfl, hb⟩
 exact ⟨rfl, ⟨hb.os, hb.tape, hb.output, hb.size, fun k hk _ => hb.block k hk⟩⟩
theorem zerosB_size (k : Nat) : (zerosB k).size = k := by
 rw [Go.Lib.size_eq]
 show (Go.Lib.repeatL [0] k).toArray.toList.length = k
 rw [List.toList_toArray]
 induction k with
 | zero => rfl
 | succ k ih =>
  show ([0] ++ Go.Lib.repeatL [0] k).length = k + 1
  rw [List.length_append, ih]
  simp; omega
def padB (d : ByteArray) (a : Nat) : ByteArray := if d.size < a then d ++ zerosB (a - d.size) else d
def putB (y : ByteArray) (a : Nat) (s : ByteArray) : ByteArray := y.extract 0 a ++ s ++ y.extract (min (a + s.size) y.size) y.size
def writeB (d : ByteArray) (a : Nat) (s : ByteArray) : ByteArray := putB (padB d a) a s
theorem append_size (x y : ByteArray) : (x ++ y).size = x.size + y.size := ByteArray.size_append
theorem padB_size (d : ByteArray) (a : Nat) : (padB d a).size = max d.size a := by
 unfold padB
 split
 ·rw [append_size, zerosB_size]; omega
 ·omega
theorem putB_size (y : ByteArray) (a : Nat) (s : ByteArray) (h : a ≤ y.size) : (putB y a s).size = max y.size (a + s.size) := by
 unfold putB
 rw [append_size, append_size, extract_size y 0 a h, extract_size y _ y.size (Nat.le_refl _)]
 omega
theorem writeB_size (d : ByteArray) (a : Nat) (s : ByteArray) : (writeB d a s).size = max (max d.size a) (a + s.size) := by
 unfold writeB
 rw [putB_size _ _ _ (by rw [padB_size]; omega), padB_size]
end Go.Proofs.YtamleilijmgoeaaGreatDoor
namespace Go.Proofs.YtamleilijmgoeaaGreatDoor
open Go.RowKit
set_option linter.unusedVariables false
section
variable {w w' w1 w2 : World} {tb nm b d : Nat} {T T1 T2 : PT} {B D : Int → Nat} {F : Nat → Prop} {p p' : PN} {n : Int}
def readB (x : ByteArray) (at' many : Nat) : ByteArray := x.extract (min at' x.size) (min at' x.size + min many (x.size - min at' x.size))
def readE (T : PT) (n at' many : Int) : Int := if fileE T n ≠ 0 then fileE T n else if at' < 0 ∨ many < 0 then 2 else 0
def dataT (T : PT) (n : Int) : ByteArray := (mget T n).elim ByteArray.empty (·.data)
def readT (T : PT) (n at' many : Int) : ByteArray := if readE T n at' many = 0 then readB (dataT T n) at'.toNat many.toNat else ByteArray.empty
set_option maxHeartbeats 2000000 in
set_option maxRecDepth 100000 in
theorem read_is (h : TreeIs w tb T F) (n at' many : Int) :
  Calls Tryz.prog 149 #[.pointer (some ⟨tb, 0, none⟩), .int .i64 n, .int .i64 at', .int .i64 many] w fun e w' => e = .returned (.tuple #[.string (readT T n at' many), TErr (readE T n at' many)]) ∧ Turn (fun _ => False) w w' := by
 obtain ⟨nm, B, D, hin, hok, rfl⟩ := h
 have H := hid hin
 have HOk := hid hok
 have HF := hid (file_is hin n)
 clear hin hok
 go_enter Tryz.func149, Tryz.ntmps149
 go_wp2_with fail
 refine HF.out.mono ?_
 rintro e w1 ⟨⟨hz, rfl⟩ | ⟨p, hn, hd, hz, rfl⟩, hw⟩ <;> subst w1
 ·have te := TErr_of hz
  have hr : readE T n at' many = fileE T n := if_pos hz
  have hr2 : readT T n at' many = ByteArray.empty := if_neg (by rw [hr]; exact hz)
  clear hz
  go_wp2_with fail
  go_returns
  rw [hr2, hr]
  exact ⟨by rw [te]; rfl, Turn.refl _ _⟩
 ·have c1 := (H.out.nd n p hn).c1
  have hdt : dataT T n = p.data := by unfold dataT; rw [hn]; rfl
  have hsz := HOk.out.data n p hn
  have h00 : ¬ (fileE T n ≠ 0) := fun e => e hz
  clear hn hd hz
  by_cases ha : at' < 0
  ·have hr : readE T n at' many = 2 := by unfold readE; rw [if_neg h00, if_pos (.inl ha)]
   have hr2 : readT T n at' many = ByteArray.empty := if_neg (by rw [hr]; decide)
   clear h00 hdt
   go_wp2_with fail
   go_returns
   rw [hr2, hr]
   exact ⟨rfl, Turn.refl _ _⟩
  ·by_cases hm : many < 0
   ·have hr : readE T n at' many = 2 := by unfold readE; rw [if_neg h00, if_pos (.inr hm)]
    have hr2 : readT T n at' many = ByteArray.empty := if_neg (by rw [hr]; decide)
    clear h00 hdt
    go_wp2_with fail
    go_returns
    rw [hr2, hr]
    exact ⟨rfl, Turn.refl _ _⟩
   ·have hr : readE T n at' many = 0 := by unfold readE; rw [if_neg h00, if_neg (by omega)]
    have hr2 : readT T n at' many = readB p.data at'.toNat many.toNat := by unfold readT; rw [if_pos hr, hdt]
    clear h00 hdt
    obtain ⟨A, rfl⟩ : ∃ A : Nat, at' = A := ⟨at'.toNat, by omega⟩
    obtain ⟨M, rfl⟩ : ∃ M : Nat, many = M := ⟨many.toNat, by omega⟩
    obtain ⟨x, hx⟩ : ∃ x, p.data = x := ⟨_, rfl⟩
    rw [hx] at c1 hsz hr2
    clear hx
    go_wp2_with fail
    obtain ⟨a, haa⟩ : ∃ a : Nat, min A x.size = a := ⟨_, rfl⟩
    obtain ⟨r, hrr⟩ : ∃ r : Nat, x.size - a = r := ⟨_, rfl⟩
    obtain ⟨k, hkk⟩ : ∃ k : Nat, min M r = k := ⟨_, rfl⟩
    obtain ⟨hi, hhi⟩ : ∃ hi : Nat, a + k = hi := ⟨_, rfl⟩
    have e1 : min (A : Int) (x.size : Int) = a := by omega
    have q1 : IntKind.i64.wrap ((x.size : Int) - a) = r := by rw [IntWalk.i64_in _ (by omega)]; omega
    have q2 : min (M : Int) (r : Int) = k := by omega
    have q3 : IntKind.i64.wrap ((a : Int) + k) = hi := by rw [IntWalk.i64_in _ (by omega)]; omega
    have q4 : a ≤ hi := by omega
    have q5 : hi ≤ x.size := by omega
    have HFin : Hid (x.extract a hi = readT T n A M) := hid (by
     rw [hr2]
     unfold readB
     simp only [Int.toNat_natCast]
     rw [haa, hrr, hkk, hhi])
    simp only [e1]
    clear hr2 haa hrr hkk hhi e1
    go_quiet (fail)
    go_wp2_with fail
    go_returns
    rw [hr]
    exact ⟨by rw [HFin.out]; rfl, (Turn.refl _ _).drewN _⟩
theorem TreeTo.also {w3 : World} (h : TreeTo tb F w w1 T1) (t : Turn (fun _ => False) w1 w3) : TreeTo tb F w w3 T1 := by
 obtain ⟨F', a, b, c⟩ := h
 exact ⟨F', a.turned t (fun _ _ => id), b.trans' t (fun k _ h => h.elim), c⟩
def setDataT (T : PT) (n : Int) (x : ByteArray) : PT := (mget T n).elim T fun p => mput T n { p with data := x }
theorem setDataT_is (hn : mget T n = some p) (x : ByteArray) : setDataT T n x = mput T n { p with data := x } := by unfold setDataT; rw [hn]; rfl
def writeE (T : PT) (n at' : Int) (s : ByteArray) : Int := if fileE T n ≠ 0 then fileE T n else if at' < 0 then 2 else if 200 < s.size ∨ 200 - (s.size : Int) < at' then 4 else 0
def writeT (T : PT) (n at' : Int) (s : ByteArray) : PT := if writeE T n at' s = 0 ∧ s.size ≠ 0 then setDataT T n (writeB (dataT T n) at'.toNat s) else T
theorem write_nums {x s y : ByteArray} {a : Nat} (hy : padB x a = y) (hsz : x.size ≤ 200) (hl : s.size ≤ 200) (hl2 : a + s.size ≤ 200) :
  ∃ hi lo : Nat, IntKind.i64.wrap ((a : Int) + s.size) = hi ∧ wrap64 ((a : Int) + s.size) = hi ∧ min (hi : Int) (y.size : Int) = lo ∧ a ≤ y.size ∧ lo ≤ y.size ∧ (writeB x a s).size ≤ 200 ∧ y.extract 0 a ++ s ++ y.extract lo y.size = writeB x a s ∧ a + s.size ≤ 1000 ∧ a + s.size + (y.size - lo) ≤ 1000 := by
 have hys := padB_size x a
 rw [hy] at hys
 have q3 : a ≤ y.size := by rw [hys]; exact Nat.le_max_right _ _
 have hy2 : y.size ≤ 200 := by rw [hys]; exact Nat.max_le.2 ⟨hsz, by omega⟩
 clear hys
 refine ⟨a + s.size, min (a + s.size) y.size, by rw [IntWalk.i64_in _ (by omega)]; omega, by rw [IntWalk.wrap64_in _ (by omega)]; omega, by omega, q3, Nat.min_le_right _ _, ?_, ?_, ?_, ?_⟩
 ·rw [writeB_size]; exact Nat.max_le.2 ⟨Nat.max_le.2 ⟨hsz, by omega⟩, hl2⟩
 ·unfold writeB putB; rw [hy]
 ·omega
 ·omega
set_option maxHeartbeats 4000000 in
set_option maxRecDepth 100000 in
theorem write_is (h : TreeIs w tb T F) (n at' : Int) (s : ByteArray) (hss : s.size ≤ 4294967281) :
  Calls Tryz.prog 142 #[.pointer (some ⟨tb, 0, none⟩), .int .i64 n, .int .i64 at', .string s] w fun e w' => e = .returned (TErr (writeE T n at' s)) ∧ TreeTo tb F w w' (writeT T n at' s) := by
 have HI := hid h
 obtain ⟨nm, B, D, hin, hok, rfl⟩ := h
 have H := hid hin
 have HOk := hid hok
 have HF := hid (file_is hin n)
 clear hin hok
 go_enter Tryz.func142, Tryz.ntmps142
 go_wp2_with fail
 refine HF.out.mono ?_
 rintro e w1 ⟨⟨hz, rfl⟩ | ⟨p, hn, hd, hz, rfl⟩, hw⟩ <;> subst w1
 ·have te := TErr_of hz
  have hr : writeE T n at' s = fileE T n := if_pos hz
  have hr2 : writeT T n at' s = T := if_neg (fun e => by rw [hr] at e; exact hz e.1)
  clear hz hss
  go_wp2_with fail
  go_returns
  rw [hr2, hr]
  exact ⟨congrArg Ending.returned te.symm, TreeTo.same HI.out (Turn.refl _ _)⟩
 ·have nd := H.out.nd n p hn
  have c1 := nd.c1
  have f1 := nd.fz 1
  have hdt : dataT T n = p.data := by unfold dataT; rw [hn]; rfl
  have hsz := HOk.out.data n p hn
  have h00 : ¬ (fileE T n ≠ 0) := fun e => e hz
  have HN := hid hn
  clear hn hz nd
  by_cases ha : at' < 0
  ·have hr : writeE T n at' s = 2 := by unfold writeE; rw [if_neg h00, if_pos ha]
   have hr2 : writeT T n at' s = T := if_neg (fun e => by rw [hr] at e; cases e.1)
   clear h00 hdt hss
   go_wp2_with fail
   go_returns
   rw [hr2, hr]
   exact ⟨rfl, TreeTo.same HI.out (Turn.refl _ _)⟩
  ·obtain ⟨a, rfl⟩ : ∃ a : Nat, at' = a := ⟨at'.toNat, by omega⟩
   by_cases hl : 200 < s.size
   ·have hr : writeE T n a s = 4 := by unfold writeE; rw [if_neg h00, if_neg ha, if_pos (.inl hl)]
    have hr2 : writeT T n a s = T := if_neg (fun e => by rw [hr] at e; cases e.1)
    have hl' : (200 : Int) < s.size := by omega
    clear h00 hdt hss
    go_wp2_with fail
    go_returns
    rw [hr2, hr]
    exact ⟨rfl, TreeTo.same HI.out (Turn.refl _ _)⟩
   ·have hl' : ¬ (200 : Int) < s.size := by omega
    have hw0 : wrap64 (200 - (s.size : Int)) = 200 - s.size := IntWalk.wrap64_in _ (by omega)
    by_cases hl2 : 200 - (s.size : Int) < a
    ·have hr : writeE T n a s = 4 := by unfold writeE; rw [if_neg h00, if_neg ha, if_pos (.inr hl2)]
     have hr2 : writeT T n a s = T := if_neg (fun e => by rw [hr] at e; cases e.1)
     clear h00 hdt hss
     go_wp2_with fail
     go_returns
     rw [hr2, hr]
     exact ⟨rfl, TreeTo.same HI.out (Turn.refl _ _)⟩
    ·have hr : writeE T n a s = 0 := by unfold writeE; rw [if_neg h00, if_neg ha, if_neg (fun e => e.elim hl hl2)]
     by_cases h0 : s.size = 0
     ·have hr2 : writeT T n a s = T := if_neg (fun e => e.2 h0)
      have he : s.toList.isEmpty = true := by rw [toList_empty]; exact decide_eq_true h0
      clear h00 hdt hss
      go_wp2_with fail
      go_returns
      rw [hr2, hr]
      exact ⟨rfl, TreeTo.same HI.out (Turn.refl _ _)⟩
     ·have he : s.toList.isEmpty = false := by rw [toList_empty]; exact decide_eq_false h0
      obtain ⟨x, hx⟩ : ∃ x, p.data = x := ⟨_, rfl⟩
      have hr2 : writeT T n a s = setDataT T n (writeB x a s) := by unfold writeT; rw [if_pos ⟨hr, h0⟩, hdt, hx]; rfl
      rw [hx] at c1 hsz
      have HR2 := hid hr2
      clear h00 hdt hss hx hr2 h0
      go_upto_if 48 with fail
      obtain ⟨y, hy⟩ : ∃ y, padB x a = y := ⟨_, rfl⟩
      have HY := hid hy
      have hys := padB_size x a
      rw [hy] at hys
      have HYs := hid hys
      have HNm := hid (write_nums (s := s) hy hsz (by omega) (by omega))
      clear hy hys
      go_cut [11] (fun v wx => v = .string y ∧ Hid (Turn (fun _ => False) w wx))
      case first =>
       by_cases hp : x.size < a
       ·have hp' : (x.size : Int) < a := by omega
        have hsub : wrap64 ((a : Int) - x.size) = ((a - x.size : Nat) : Int) := by rw [IntWalk.wrap64_in _ (by omega)]; omega
        have hRp := repeat_is (a - x.size) (by omega) w
        have hcast : ((a - x.size : Nat) : Int) = (a : Int) - x.size := by omega
        have hyy : y = x ++ zerosB (a - x.size) := by rw [← HY.out]; exact if_pos hp
        have HYY := hid hyy
        obtain ⟨k, hk⟩ : ∃ k, a - x.size = k := ⟨_, rfl⟩
        rw [hcast] at hRp
        rw [hk] at hRp HYY
        have HRp := hid hRp
        have hzs : x.size + (zerosB k).size ≤ 200 := by rw [zerosB_size, ← hk]; omega
        clear hyy hp hk hsub hcast hRp
        go_wp2_with fail
        refine HRp.out.mono ?_
        rintro e w2 ⟨rfl, t2⟩
        have HT2 := hid t2
        clear t2
        go_wp2_with fail
        go_meet
        exact ⟨by rw [HYY.out], HT2⟩
       ·have hp' : ¬ (x.size : Int) < a := by omega
        have hyy : y = x := by rw [← HY.out]; exact if_neg hp
        clear hp
        go_wp2_with fail
        go_meet
        exact ⟨by rw [hyy], hid (Turn.refl _ _)⟩
      case rest =>
       obtain ⟨rfl, hT⟩ := hcut
       have c1' := (hT.out.cell (a := ⟨B n, 1, none⟩) (lt_of_cell c1) id).trans c1
       have f1' := (hT.out.frozen (a := ⟨B n, 1, none⟩) (lt_of_cell c1) id).trans f1
       obtain ⟨hi, lo, q1, q1', q2, q3, q4, hle, hfin, hO, hO2⟩ := HNm.out
       have HLe := hid hle
       have HFin := hid hfin
       clear c1 f1 hle hfin hsz hw0 hl hl2 hl' ha HNm HYs
       go_wp2_with fail
       go_region
       all_goals
        go_wp2_with fail
        go_returns
        rw [HR2.out, hr, HFin.out]
        refine ⟨rfl, ?_⟩
        rw [setDataT_is HN.out]
        exact ((H.out.turned hT.out (fun _ _ => id)).to (HOk.out.upd (p' := { p with data := writeB x a s }) HN.out rfl rfl rfl HLe.out) HN.out rfl (((H.out.turned hT.out (fun _ _ => id)).nd n p HN.out).setData (H.out.apart HN.out) _) ((Turn.refl _ _).setCell _ _ (fun _ => .inl rfl))).also (Turn.refl _ _).drew |>.before hT.out
end
end Go.Proofs.YtamleilijmgoeaaGreatDoor
namespace Go.Proofs.YtamleilijmgoeaaGreatDoor
open Go.RowKit
set_option linter.unusedVariables false
section
variable {w w' w1 w2 w3 : World} {tb nm b d c dn : Nat} {T T1 T2 : PT} {B D : Int → Nat} {F : Nat → Prop} {p p' q nn : PN} {n k : Int} {s : ByteArray}
theorem TreeIn.name (h : TreeIn w tb nm T B D) (hd : mget T k = some p) (hdir : p.isDir = true) {ds : List (ByteArray × Int)} (hm : MapIs w' (D k) .string encS encI ds) (t : Turn (fun j => j = D k) w w') : TreeIn w' tb nm (mput T k { p with ds := ds }) B D :=
 h.put hd rfl ((h.nd k p hd).setDs hdir hm t (h.apart hd hdir)) (t.mono (fun _ _ e => .inr ⟨hdir, e⟩))
theorem TreeIn.count (h : TreeIn w tb nm T B D) (hn : mget T n = some q) {z : Int} {c : Nat} (hz : z = c) : TreeIn (w.setCell ⟨B n, 2, none⟩ (.int .i64 z)) tb nm (mput T n { q with names := c }) B D :=
 h.put hn rfl ((h.nd n q hn).setNames (h.apart hn) hz) ((Turn.refl _ _).setCell _ _ (fun _ => .inl rfl))
end
end Go.Proofs.YtamleilijmgoeaaGreatDoor
