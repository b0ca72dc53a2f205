/- Several texts of ours in one, in build order (TreePlain, TreeOk). Conditions: each theorem's own premises. -/
import Derived.Test.YtiohpmcedfbcgacGreatDoorPaths
import Derived.Test.YtiohpmcedfbcgacGreatDoorMaps
/- A tree of files, plain: where names lead, what may not be. No program in sight. Conditions: each theorem's own premises. -/
namespace Go.Proofs.YtiohpmcedfbcgacGreatDoor
open Go.RowKit
set_option linter.unusedVariables false

/-- A node: a directory (its names lead to numbers), or a file's bytes; how many names lead to it, how often it is held. -/
structure PN where
  isDir : Bool
  ds : List (ByteArray × Int)
  data : ByteArray
  names : Nat
  held : Nat
abbrev PT := List (Int × PN)
/-- Where names lead from a node on: the error, and the node. -/
def walkT (T : PT) : Int → List ByteArray → Int × Int
  | n, [] => (0, n)
  | n, s :: l => (mget T n).elim (7, 0) fun p => if p.isDir then (mget p.ds s).elim (7, 0) fun m => walkT T m l else (6, 0)
theorem walkT_nil (T : PT) (n : Int) : walkT T n [] = (0, n) := rfl
theorem walkT_cons (T : PT) (n : Int) (s : ByteArray) (l : List ByteArray) : walkT T n (s :: l) = (mget T n).elim (7, 0) fun p => if p.isDir then (mget p.ds s).elim (7, 0) fun m => walkT T m l else (6, 0) := rfl
theorem walkT_file {T : PT} {n : Int} {p : PN} (h : mget T n = some p) (hd : p.isDir = false) (s : ByteArray) (l : List ByteArray) : walkT T n (s :: l) = (6, 0) := by
  rw [walkT_cons, h]; show (if p.isDir then _ else _) = _; rw [hd]; rfl
theorem walkT_miss {T : PT} {n : Int} {p : PN} (h : mget T n = some p) (hd : p.isDir = true) {s : ByteArray} (hs : mget p.ds s = none) (l : List ByteArray) : walkT T n (s :: l) = (7, 0) := by
  rw [walkT_cons, h]; show (if p.isDir then _ else _) = _; rw [hd, hs]; rfl
theorem walkT_hit {T : PT} {n m : Int} {p : PN} (h : mget T n = some p) (hd : p.isDir = true) {s : ByteArray} (hs : mget p.ds s = some m) (l : List ByteArray) : walkT T n (s :: l) = walkT T m l := by
  rw [walkT_cons, h]; show (if p.isDir then _ else _) = _; rw [hd, hs]; rfl
/-- What is at a path: the error, and the node. -/
def findT (T : PT) (path : ByteArray) : Int × Int := (namesOf path).elim (1, 0) (walkT T 0)
def isDirT (T : PT) (n : Int) : Bool := (mget T n).elim false (·.isDir)
/-- Where a path's last name stands: the error, the directory, the name. -/
def placeT (T : PT) (path : ByteArray) : Int × Int × ByteArray :=
  (namesOf path).elim (1, 0, ByteArray.empty) fun l =>
    if l = [] then (1, 0, ByteArray.empty)
    else if (walkT T 0 l.dropLast).1 ≠ 0 then ((walkT T 0 l.dropLast).1, 0, ByteArray.empty)
    else if isDirT T (walkT T 0 l.dropLast).2 then (0, (walkT T 0 l.dropLast).2, l.getLastD ByteArray.empty) else (6, 0, ByteArray.empty)
/-- How many names lead to a node. -/
def linksIn (n : Int) (ds : List (ByteArray × Int)) : Nat := (ds.filter fun e => decide (e.2 = n)).length
def linksT (n : Int) : PT → Nat
  | [] => 0
  | t :: T => linksIn n t.2.ds + linksT n T
structure TOk (T : PT) : Prop where
  root : ∃ p, mget T 0 = some p ∧ p.isDir = true
  nd : MNodup T
  keys : ∀ n p, mget T n = some p → 0 ≤ n ∧ n < 60
  link : ∀ n p, mget T n = some p → ∀ s m, mget p.ds s = some m → ∃ q, mget T m = some q
  file : ∀ n p, mget T n = some p → p.isDir = false → p.ds = []
  cnt : ∀ n p, mget T n = some p → p.names = (if n = 0 then 1 else 0) + linksT n T
  dnd : ∀ n p, mget T n = some p → MNodup p.ds
  data : ∀ n p, mget T n = some p → p.data.size ≤ 200
  size : T.length ≤ 60
  nms : ∀ n p, mget T n = some p → ∀ e ∈ p.ds, okName e.1 = true
theorem walkT_there {T : PT} (h : TOk T) : ∀ (l : List ByteArray) (n : Int) (p : PN), mget T n = some p → (walkT T n l).1 = 0 → ∃ q, mget T (walkT T n l).2 = some q
  | [], n, p, hn, _ => ⟨p, hn⟩
  | s :: l, n, p, hn, hz => by
    cases hd : p.isDir with
    | false => rw [walkT_file hn hd] at hz; cases hz
    | true =>
      cases hs : mget p.ds s with
      | none => rw [walkT_miss hn hd hs] at hz; cases hz
      | some m =>
        obtain ⟨q, hq⟩ := h.link n p hn s m hs
        rw [walkT_hit hn hd hs] at hz ⊢
        exact walkT_there h l m q hq hz
theorem walkT_err {T : PT} : ∀ (l : List ByteArray) (n : Int), (walkT T n l).1 = 0 ∨ (walkT T n l = (6, 0) ∨ walkT T n l = (7, 0))
  | [], n => .inl rfl
  | s :: l, n => by
    cases hn : mget T n with
    | none => right; right; rw [walkT_cons, hn]; rfl
    | some p =>
      cases hd : p.isDir with
      | false => rw [walkT_file hn hd]; exact .inr (.inl rfl)
      | true =>
        cases hs : mget p.ds s with
        | none => rw [walkT_miss hn hd hs]; exact .inr (.inr rfl)
        | some m => rw [walkT_hit hn hd hs]; exact walkT_err l m
theorem linksT_put (n : Int) : ∀ {T : PT} {k : Int} {p p' : PN}, MNodup T → mget T k = some p → linksT n (mput T k p') + linksIn n p.ds = linksT n T + linksIn n p'.ds := by
  intro T k p p' hn hk
  have hmp : mput T k p' = mupd T k p' := by unfold mput; rw [hk]; rfl
  rw [hmp]
  induction T with
  | nil => cases hk
  | cons t T ih =>
    have hn' : MNodup T := (List.nodup_cons.1 hn).2
    have hcons : mupd (t :: T) k p' = (if t.1 = k then (t.1, p') else t) :: mupd T k p' := rfl
    rw [hcons]
    by_cases e : t.1 = k
    · have h1 : mget (t :: T) k = some t.2 := mget_mem hn (by rw [← e]; exact List.mem_cons_self)
      rw [h1] at hk
      have hk := Option.some.inj hk
      have hno : ∀ q ∈ T, q.1 ≠ k := fun q hq e2 => (List.nodup_cons.1 hn).1 (List.mem_map.2 ⟨q, hq, by rw [e2, e]⟩)
      have hsame : mupd T k p' = T := by
        unfold mupd
        conv => rhs; rw [← List.map_id T]
        exact List.map_congr_left fun q hq => by rw [if_neg (hno q hq)]; rfl
      rw [if_pos e, hsame]
      show linksIn n p'.ds + linksT n T + linksIn n p.ds = linksIn n t.2.ds + linksT n T + linksIn n p'.ds
      rw [hk]
      omega
    · have h1 : mget T k = some p := by
        have h2 := mem_of_mget hk
        rcases List.mem_cons.1 h2 with h3 | h3
        · exact absurd (by rw [← h3]) e
        · exact mget_mem hn' h3
      have h2 := ih hn' h1 (by unfold mput; rw [h1]; rfl)
      rw [if_neg e]
      show linksIn n t.2.ds + linksT n (mupd T k p') + linksIn n p.ds = linksIn n t.2.ds + linksT n T + linksIn n p'.ds
      omega
theorem linksT_append (n : Int) : ∀ (T : PT) (t : Int × PN), linksT n (T ++ [t]) = linksT n T + linksIn n t.2.ds
  | [], t => by show linksIn n t.2.ds + 0 = 0 + linksIn n t.2.ds; omega
  | s :: T, t => by
    show linksIn n s.2.ds + linksT n (T ++ [t]) = linksIn n s.2.ds + linksT n T + linksIn n t.2.ds
    rw [linksT_append n T t]
    omega
theorem linksT_new (n : Int) {T : PT} {k : Int} {p : PN} (hk : mget T k = none) : linksT n (mput T k p) = linksT n T + linksIn n p.ds := by
  unfold mput
  rw [hk]
  exact linksT_append n T (k, p)
theorem linksT_del (n : Int) : ∀ {T : PT} {k : Int} {p : PN}, MNodup T → mget T k = some p → linksT n (mdel T k) + linksIn n p.ds = linksT n T
  | [], k, p, _, hk => by cases hk
  | t :: T, k, p, hn, hk => by
    have hn' : MNodup T := (List.nodup_cons.1 hn).2
    have hcons : mdel (t :: T) k = if t.1 = k then mdel T k else t :: mdel T k := by
      unfold mdel
      rw [List.filter_cons]
      by_cases e : t.1 = k
      · rw [if_pos e, if_neg (by simp [e])]
      · rw [if_neg e, if_pos (by simp [e])]
    rw [hcons]
    by_cases e : t.1 = k
    · have h1 : mget (t :: T) k = some t.2 := mget_mem hn (by rw [← e]; exact List.mem_cons_self)
      rw [h1] at hk
      have hk := Option.some.inj hk
      have hno : mget T k = none := mget_none (fun q hq e2 => (List.nodup_cons.1 hn).1 (List.mem_map.2 ⟨q, hq, by rw [e2, e]⟩))
      rw [if_pos e, mdel_none hno, ← hk]
      show linksT n T + linksIn n t.2.ds = linksIn n t.2.ds + linksT n T
      omega
    · have h1 : mget T k = some p := by
        have h2 := mem_of_mget hk
        rcases List.mem_cons.1 h2 with h3 | h3
        · exact absurd (by rw [← h3]) e
        · exact mget_mem hn' h3
      have h2 := linksT_del n hn' h1
      rw [if_neg e]
      show linksIn n t.2.ds + linksT n (mdel T k) + linksIn n p.ds = linksIn n t.2.ds + linksT n T
      omega
theorem linksIn_put {n m : Int} {ds : List (ByteArray × Int)} {s : ByteArray} (hs : mget ds s = none) : linksIn n (mput ds s m) = linksIn n ds + if m = n then 1 else 0 := by
  unfold mput linksIn
  rw [hs]
  simp only [Option.isSome_none, Bool.false_eq_true, if_false, List.filter_append, List.length_append]
  by_cases e : m = n <;> simp [e]
theorem linksIn_del {n m : Int} : ∀ {ds : List (ByteArray × Int)} {s : ByteArray}, MNodup ds → mget ds s = some m → linksIn n (mdel ds s) + (if m = n then 1 else 0) = linksIn n ds
  | [], s, _, h => by cases h
  | t :: ds, s, hn, h => by
    have hn' : MNodup ds := (List.nodup_cons.1 hn).2
    have hcons : mdel (t :: ds) s = if t.1 = s then mdel ds s else t :: mdel ds s := by
      unfold mdel
      rw [List.filter_cons]
      by_cases e : t.1 = s
      · rw [if_pos e, if_neg (by simp [e])]
      · rw [if_neg e, if_pos (by simp [e])]
    have hc : ∀ l : List (ByteArray × Int), linksIn n (t :: l) = linksIn n l + if t.2 = n then 1 else 0 := fun l => by
      unfold linksIn
      rw [List.filter_cons]
      by_cases e : t.2 = n
      · rw [if_pos (decide_eq_true e), if_pos e]; rfl
      · rw [if_neg (by simp [e]), if_neg e]; rfl
    rw [hcons, hc]
    by_cases e : t.1 = s
    · have h1 : mget (t :: ds) s = some t.2 := mget_mem hn (by rw [← e]; exact List.mem_cons_self)
      rw [h1] at h
      have h := Option.some.inj h
      have hno : mget ds s = none := mget_none (fun q hq e2 => (List.nodup_cons.1 hn).1 (List.mem_map.2 ⟨q, hq, by rw [e2, e]⟩))
      rw [if_pos e, mdel_none hno, ← h]
    · have h1 : mget ds s = some m := by
        have h2 := mem_of_mget h
        rcases List.mem_cons.1 h2 with h3 | h3
        · exact absurd (by rw [← h3]) e
        · exact mget_mem hn' h3
      have h2 := linksIn_del (n := n) hn' h1
      rw [if_neg e, hc]
      omega
theorem placeT_name {T : PT} {path : ByteArray} {d : Int} {s : ByteArray} (h : placeT T path = (0, d, s)) : okName s = true := by
  unfold placeT at h
  cases hn : namesOf path with
  | none => rw [hn] at h; cases h
  | some l =>
    rw [hn] at h
    replace h : (if l = [] then ((1, 0, ByteArray.empty) : Int × Int × ByteArray) else if (walkT T 0 l.dropLast).1 ≠ 0 then ((walkT T 0 l.dropLast).1, 0, ByteArray.empty) else if isDirT T (walkT T 0 l.dropLast).2 then (0, (walkT T 0 l.dropLast).2, l.getLastD ByteArray.empty) else (6, 0, ByteArray.empty)) = (0, d, s) := h
    split at h
    · cases h
    · rename_i hl
      split at h
      · rename_i hz
        exact absurd (congrArg Prod.fst h) hz
      · split at h
        · have h2 : l.getLastD ByteArray.empty = s := congrArg (fun x => x.2.2) h
          rw [← h2]
          refine namesOf_names hn _ ?_
          rw [List.getLastD_eq_getLast?, List.getLast?_eq_some_getLast hl]
          exact List.getLast_mem hl
        · cases h
theorem mem_mput {ds : List (ByteArray × Int)} {s : ByteArray} {n : Int} {e : ByteArray × Int} (h : e ∈ mput ds s n) : e.1 = s ∨ ∃ e' ∈ ds, e'.1 = e.1 := by
  unfold mput at h
  split at h
  · unfold mupd at h
    obtain ⟨x, hx, rfl⟩ := List.mem_map.1 h
    split
    · exact .inr ⟨x, hx, rfl⟩
    · exact .inr ⟨x, hx, rfl⟩
  · rcases List.mem_append.1 h with h1 | h1
    · exact .inr ⟨e, h1, rfl⟩
    · rw [List.mem_singleton.1 h1]; exact .inl rfl
theorem mem_mdel {ds : List (ByteArray × Int)} {s : ByteArray} {e : ByteArray × Int} (h : e ∈ mdel ds s) : e ∈ ds := (List.mem_filter.1 h).1
end Go.Proofs.YtiohpmcedfbcgacGreatDoor
/- A tree of files, plain: what each change keeps. No program in sight. Conditions: each theorem's own premises. -/
namespace Go.Proofs.YtiohpmcedfbcgacGreatDoor
open Go.RowKit
set_option linter.unusedVariables false

section
variable {T : PT} {n m d e k : Int} {p p' q q' : PN} {s s' : ByteArray}
theorem linksIn_some {n : Int} : ∀ {ds : List (ByteArray × Int)}, 0 < linksIn n ds → ∃ s, (s, n) ∈ ds := by
  intro ds h
  unfold linksIn at h
  obtain ⟨a, ha⟩ := List.exists_mem_of_length_pos h
  have h1 := List.mem_filter.1 ha
  have h2 := of_decide_eq_true h1.2
  exact ⟨a.1, by rw [← h2]; exact h1.1⟩
theorem linksIn_none {n : Int} {ds : List (ByteArray × Int)} (h : ∀ s, ¬ (s, n) ∈ ds) : linksIn n ds = 0 := by
  by_cases e : 0 < linksIn n ds
  · obtain ⟨s, hs⟩ := linksIn_some e
    exact absurd hs (h s)
  · omega
theorem linksIn_nil (n : Int) : linksIn n [] = 0 := rfl
theorem linksT_some {n : Int} : ∀ {T : PT}, 0 < linksT n T → ∃ t ∈ T, 0 < linksIn n t.2.ds
  | [], h => absurd h (Nat.lt_irrefl _)
  | t :: T, h => by
    by_cases e : 0 < linksIn n t.2.ds
    · exact ⟨t, List.mem_cons_self, e⟩
    · have h1 : 0 < linksIn n t.2.ds + linksT n T := h
      obtain ⟨t', h2, h3⟩ := linksT_some (T := T) (n := n) (by omega)
      exact ⟨t', List.mem_cons_of_mem _ h2, h3⟩
theorem linksT_ge {n : Int} : ∀ {T : PT} {t : Int × PN}, t ∈ T → linksIn n t.2.ds ≤ linksT n T
  | [], t, h => by cases h
  | s :: T, t, h => by
    show _ ≤ linksIn n s.2.ds + linksT n T
    rcases List.mem_cons.1 h with rfl | h
    · omega
    · have := linksT_ge (n := n) h; omega
theorem TOk.named (h : TOk T) (hd : mget T d = some p) (hs : mget p.ds s = some n) : 0 < linksT n T := by
  have h1 := linksT_ge (n := n) (mem_of_mget hd)
  have h2 := mem_of_mget hs
  have h3 : 0 < linksIn n p.ds := by
    unfold linksIn
    exact List.length_pos_of_mem (List.mem_filter.2 ⟨h2, decide_eq_true rfl⟩)
  simp only at h1
  omega
theorem TOk.unnamed (h : TOk T) (hn : mget T n = none) : linksT n T = 0 := by
  by_cases e : 0 < linksT n T
  · obtain ⟨t, ht, h1⟩ := linksT_some e
    obtain ⟨s, hs⟩ := linksIn_some h1
    have h2 : mget T t.1 = some t.2 := mget_mem h.nd ht
    have h3 : mget t.2.ds s = some n := mget_mem (h.dnd _ _ h2) hs
    obtain ⟨q, hq⟩ := h.link _ _ h2 s n h3
    rw [hn] at hq; cases hq
  · omega
theorem mput_length_same (hn : mget T n = some p) : (mput T n p').length = T.length := by rw [mput_length, hn]; rfl
theorem mput_length_new (hn : mget T n = none) : (mput T n p').length = T.length + 1 := by rw [mput_length, hn]; rfl
/-- A node's bytes, or how often it is held, change. -/
theorem TOk.upd (h : TOk T) (hn : mget T n = some p) (h1 : p'.isDir = p.isDir) (h2 : p'.ds = p.ds) (h3 : p'.names = p.names) (h4 : p'.data.size ≤ 200) : TOk (mput T n p') := by
  have hlk : ∀ m, linksT m (mput T n p') = linksT m T := fun m => by
    have := linksT_put m (p' := p') h.nd hn
    rw [h2] at this
    omega
  have hget : ∀ m q, mget (mput T n p') m = some q → ∃ q0, mget T m = some q0 ∧ q.isDir = q0.isDir ∧ q.ds = q0.ds ∧ q.names = q0.names ∧ q.data.size ≤ 200 := fun m q hq => by
    rw [mget_mput] at hq
    by_cases e : m = n
    · rw [if_pos e] at hq
      cases hq
      exact ⟨p, by rw [e]; exact hn, h1, h2, h3, h4⟩
    · rw [if_neg e] at hq
      exact ⟨q, hq, rfl, rfl, rfl, h.data m q hq⟩
  have hhas : ∀ m q0, mget T m = some q0 → ∃ q, mget (mput T n p') m = some q := fun m q0 hm => by
    rw [mget_mput]
    by_cases e : m = n
    · rw [if_pos e]; exact ⟨_, rfl⟩
    · rw [if_neg e]; exact ⟨_, hm⟩
  refine ⟨?_, mput_nodup h.nd _ _, fun m q hq => ?_, fun m q hq s k hs => ?_, fun m q hq hf => ?_, fun m q hq => ?_, fun m q hq => ?_, fun m q hq => ?_, by rw [mput_length_same hn]; exact h.size, fun m q hq => by
    obtain ⟨q0, hq0, _, e2, _⟩ := hget m q hq
    rw [e2]
    exact h.nms m q0 hq0⟩
  · obtain ⟨p0, hp0, hd0⟩ := h.root
    obtain ⟨q, hq⟩ := hhas 0 p0 hp0
    obtain ⟨q0, hq0, e1, _⟩ := hget 0 q hq
    rw [hp0] at hq0
    cases hq0
    exact ⟨q, hq, e1.trans hd0⟩
  · obtain ⟨q0, hq0, _⟩ := hget m q hq
    exact h.keys m q0 hq0
  · obtain ⟨q0, hq0, _, e2, _⟩ := hget m q hq
    rw [e2] at hs
    obtain ⟨q1, hq1⟩ := h.link m q0 hq0 s k hs
    exact hhas k q1 hq1
  · obtain ⟨q0, hq0, e1, e2, _⟩ := hget m q hq
    rw [e2]
    exact h.file m q0 hq0 (by rw [← e1]; exact hf)
  · obtain ⟨q0, hq0, _, _, e3, _⟩ := hget m q hq
    rw [e3, hlk]
    exact h.cnt m q0 hq0
  · obtain ⟨q0, hq0, _, e2, _⟩ := hget m q hq
    rw [e2]
    exact h.dnd m q0 hq0
  · obtain ⟨q0, hq0, _, _, _, e4⟩ := hget m q hq
    exact e4
theorem TOk.del (h : TOk T) (hn : mget T n = some p) (h1 : p.names = 0) (h2 : p.ds = []) : TOk (mdel T n) := by
  have hc := h.cnt n p hn
  rw [h1] at hc
  have hn0 : n ≠ 0 := fun e => by rw [if_pos e] at hc; omega
  rw [if_neg hn0] at hc
  have hlk : ∀ m, linksT m (mdel T n) = linksT m T := fun m => by
    have := linksT_del m h.nd hn
    rw [h2, linksIn_nil] at this
    omega
  have hget : ∀ m q, mget (mdel T n) m = some q → mget T m = some q ∧ m ≠ n := fun m q hq => by
    rw [mget_mdel] at hq
    by_cases e : m = n
    · rw [if_pos e] at hq; cases hq
    · rw [if_neg e] at hq; exact ⟨hq, e⟩
  have hhas : ∀ m q, mget T m = some q → m ≠ n → mget (mdel T n) m = some q := fun m q hm e => by rw [mget_mdel, if_neg e]; exact hm
  refine ⟨?_, mdel_nodup h.nd _, fun m q hq => h.keys m q (hget m q hq).1, fun m q hq s k hs => ?_, fun m q hq hf => h.file m q (hget m q hq).1 hf, fun m q hq => by rw [hlk]; exact h.cnt m q (hget m q hq).1, fun m q hq => h.dnd m q (hget m q hq).1, fun m q hq => h.data m q (hget m q hq).1, ?_, fun m q hq => h.nms m q (hget m q hq).1⟩
  · obtain ⟨p0, hp0, hd0⟩ := h.root
    exact ⟨p0, hhas 0 p0 hp0 (fun e => hn0 e.symm), hd0⟩
  · have h3 := (hget m q hq).1
    have h4 := h.named h3 hs
    obtain ⟨q1, hq1⟩ := h.link m q h3 s k hs
    exact ⟨q1, hhas k q1 hq1 (fun e => by rw [e] at h4; omega)⟩
  · have := mdel_length h.nd hn
    have := h.size
    omega
/-- Two nodes change: a directory's names, and how many names another one has. -/
theorem TOk.two (h : TOk T) (hd : mget T d = some p) (hdir : p.isDir = true) (hn : mget T n = some q) (hne : n ≠ d) {ds : List (ByteArray × Int)} {c : Nat} (hnd : MNodup ds) (hnm : ∀ e ∈ ds, okName e.1 = true) (hsub : ∀ s m, mget ds s = some m → m = n ∨ mget p.ds s = some m)
    (hc : ∀ m, m ≠ n → linksIn m ds = linksIn m p.ds) (hcn : c + linksIn n p.ds = q.names + linksIn n ds) : TOk (mput (mput T d { p with ds := ds }) n { q with names := c }) := by
  have hd2 : mget (mput T d { p with ds := ds }) n = some q := by rw [mget_mput, if_neg hne]; exact hn
  have hlk : ∀ m, linksT m (mput (mput T d { p with ds := ds }) n { q with names := c }) + linksIn m p.ds = linksT m T + linksIn m ds := fun m => by
    have e1 := linksT_put m (p' := { p with ds := ds }) h.nd hd
    have e2 := linksT_put m (p' := { q with names := c }) (mput_nodup h.nd _ _) hd2
    simp only at e1 e2
    omega
  have hget : ∀ m r, mget (mput (mput T d { p with ds := ds }) n { q with names := c }) m = some r → (m = n ∧ r = { q with names := c }) ∨ (m ≠ n ∧ m = d ∧ r = { p with ds := ds }) ∨ (m ≠ n ∧ m ≠ d ∧ mget T m = some r) := fun m r hr => by
    rw [mget_mput, mget_mput] at hr
    by_cases e1 : m = n
    · rw [if_pos e1] at hr; cases hr; exact .inl ⟨e1, rfl⟩
    · rw [if_neg e1] at hr
      by_cases e2 : m = d
      · rw [if_pos e2] at hr; cases hr; exact .inr (.inl ⟨e1, e2, rfl⟩)
      · rw [if_neg e2] at hr; exact .inr (.inr ⟨e1, e2, hr⟩)
  have hhas : ∀ m r, mget T m = some r → ∃ r', mget (mput (mput T d { p with ds := ds }) n { q with names := c }) m = some r' ∧ r'.isDir = r.isDir := fun m r hm => by
    rw [mget_mput, mget_mput]
    by_cases e1 : m = n
    · rw [if_pos e1]; rw [e1, hn] at hm; cases hm; exact ⟨_, rfl, rfl⟩
    · rw [if_neg e1]
      by_cases e2 : m = d
      · rw [if_pos e2]; rw [e2, hd] at hm; cases hm; exact ⟨_, rfl, rfl⟩
      · rw [if_neg e2]; exact ⟨r, hm, rfl⟩
  refine ⟨?_, mput_nodup (mput_nodup h.nd _ _) _ _, fun m r hr => ?_, fun m r hr s k hs => ?_, fun m r hr hf => ?_, fun m r hr => ?_, fun m r hr => ?_, fun m r hr => ?_, ?_, fun m r hr => by
    rcases hget m r hr with ⟨rfl, rfl⟩ | ⟨_, rfl, rfl⟩ | ⟨_, _, h3⟩
    · exact h.nms m q hn
    · exact hnm
    · exact h.nms m r h3⟩
  · obtain ⟨p0, hp0, hd0⟩ := h.root
    obtain ⟨r, hr, e⟩ := hhas 0 p0 hp0
    exact ⟨r, hr, e.trans hd0⟩
  · rcases hget m r hr with ⟨rfl, rfl⟩ | ⟨_, rfl, rfl⟩ | ⟨_, _, h3⟩
    · exact h.keys m q hn
    · exact h.keys m p hd
    · exact h.keys m r h3
  · have there : ∃ r1, mget T k = some r1 := by
      rcases hget m r hr with ⟨rfl, rfl⟩ | ⟨_, rfl, rfl⟩ | ⟨_, _, h3⟩
      · exact h.link m q hn s k hs
      · rcases hsub s k hs with rfl | h4
        · exact ⟨q, hn⟩
        · exact h.link m p hd s k h4
      · exact h.link m r h3 s k hs
    obtain ⟨r1, hr1⟩ := there
    obtain ⟨r2, hr2, _⟩ := hhas k r1 hr1
    exact ⟨r2, hr2⟩
  · rcases hget m r hr with ⟨rfl, rfl⟩ | ⟨_, rfl, rfl⟩ | ⟨_, _, h3⟩
    · exact h.file m q hn hf
    · rw [show ({ p with ds := ds } : PN).isDir = p.isDir from rfl, hdir] at hf; cases hf
    · exact h.file m r h3 hf
  · have e := hlk m
    rcases hget m r hr with ⟨rfl, rfl⟩ | ⟨e1, rfl, rfl⟩ | ⟨e1, _, h3⟩
    · have e3 := h.cnt m q hn
      simp only
      omega
    · have e3 := h.cnt m p hd
      have e4 := hc m e1
      simp only
      omega
    · have e3 := h.cnt m r h3
      have e4 := hc m e1
      omega
  · rcases hget m r hr with ⟨rfl, rfl⟩ | ⟨_, rfl, rfl⟩ | ⟨_, _, h3⟩
    · exact h.dnd m q hn
    · exact hnd
    · exact h.dnd m r h3
  · rcases hget m r hr with ⟨rfl, rfl⟩ | ⟨_, rfl, rfl⟩ | ⟨_, _, h3⟩
    · exact h.data m q hn
    · exact h.data m p hd
    · exact h.data m r h3
  · rw [mput_length_same hd2, mput_length_same hd]
    exact h.size
theorem linksIn_putm {n m : Int} {ds : List (ByteArray × Int)} {s : ByteArray} (hs : mget ds s = none) (h : n ≠ m) : linksIn n (mput ds s m) = linksIn n ds := by
  rw [linksIn_put hs, if_neg (fun e => h e.symm)]; rfl
theorem linksIn_delm {n m : Int} {ds : List (ByteArray × Int)} {s : ByteArray} (hn : MNodup ds) (hs : mget ds s = some m) (h : n ≠ m) : linksIn n (mdel ds s) = linksIn n ds := by
  have := linksIn_del (n := n) hn hs
  rw [if_neg (fun e => h e.symm)] at this
  omega
theorem TOk.link_ (h : TOk T) (hd : mget T d = some p) (hdir : p.isDir = true) (hn : mget T n = some q) (hq : q.isDir = false) (hs : mget p.ds s = none) (hsn : okName s = true) :
    TOk (mput (mput T d { p with ds := mput p.ds s n }) n { q with names := q.names + 1 }) := by
  have hne : n ≠ d := fun e => by rw [e, hd] at hn; cases hn; rw [hdir] at hq; cases hq
  refine h.two hd hdir hn hne (mput_nodup (h.dnd d p hd) _ _) (fun e he => (mem_mput he).elim (fun e2 => by rw [e2]; exact hsn) (fun ⟨e', h1, h2⟩ => by rw [← h2]; exact h.nms d p hd e' h1)) (fun s' m hm => ?_) (fun m hm => linksIn_putm hs hm) ?_
  · rw [mget_mput] at hm
    split at hm
    · cases hm; exact .inl rfl
    · exact .inr hm
  · rw [linksIn_put hs, if_pos rfl]; omega
theorem TOk.unlink_ (h : TOk T) (hd : mget T d = some p) (hdir : p.isDir = true) (hn : mget T n = some q) (hne : n ≠ d) (hs : mget p.ds s = some n) :
    TOk (mput (mput T d { p with ds := mdel p.ds s }) n { q with names := q.names - 1 }) := by
  have h1 := h.named hd hs
  have h2 := h.cnt n q hn
  have h3 := linksIn_del (n := n) (h.dnd d p hd) hs
  rw [if_pos rfl] at h3
  refine h.two hd hdir hn hne (mdel_nodup (h.dnd d p hd) _) (fun e he => h.nms d p hd e (mem_mdel he)) (fun s' m hm => ?_) (fun m hm => linksIn_delm (h.dnd d p hd) hs hm) (by omega)
  rw [mget_mdel] at hm
  split at hm
  · cases hm
  · exact .inr hm
theorem TOk.make_ (h : TOk T) (hd : mget T d = some p) (hdir : p.isDir = true) (hk : mget T k = none) (hk0 : 1 ≤ k ∧ k < 60) (hsz : T.length < 60) (hs : mget p.ds s = none) (hsn : okName s = true) (b : Bool) :
    TOk (mput (mput T k ⟨b, [], ByteArray.empty, 1, 0⟩) d { p with ds := mput p.ds s k }) := by
  have hne : k ≠ d := fun e => by rw [e, hd] at hk; cases hk
  have hd2 : mget (mput T k (⟨b, [], ByteArray.empty, 1, 0⟩ : PN)) d = some p := by rw [mget_mput, if_neg (fun e => hne e.symm)]; exact hd
  have hlk : ∀ m, linksT m (mput (mput T k ⟨b, [], ByteArray.empty, 1, 0⟩) d { p with ds := mput p.ds s k }) = linksT m T + if k = m then 1 else 0 := fun m => by
    have e1 := linksT_new m (p := ⟨b, [], ByteArray.empty, 1, 0⟩) hk
    have e2 := linksT_put m (p' := { p with ds := mput p.ds s k }) (mput_nodup h.nd _ _) hd2
    have e3 := linksIn_put (n := m) (m := k) hs
    simp only [linksIn_nil] at e1 e2
    omega
  have hget : ∀ m r, mget (mput (mput T k ⟨b, [], ByteArray.empty, 1, 0⟩) d { p with ds := mput p.ds s k }) m = some r → (m = d ∧ m ≠ k ∧ r = { p with ds := mput p.ds s k }) ∨ (m ≠ d ∧ m = k ∧ r = ⟨b, [], ByteArray.empty, 1, 0⟩) ∨ (m ≠ d ∧ m ≠ k ∧ mget T m = some r) := fun m r hr => by
    rw [mget_mput, mget_mput] at hr
    by_cases e1 : m = d
    · rw [if_pos e1] at hr; cases hr; exact .inl ⟨e1, fun e => hne (by rw [← e, e1]), rfl⟩
    · rw [if_neg e1] at hr
      by_cases e2 : m = k
      · rw [if_pos e2] at hr; cases hr; exact .inr (.inl ⟨e1, e2, rfl⟩)
      · rw [if_neg e2] at hr; exact .inr (.inr ⟨e1, e2, hr⟩)
  have hhas : ∀ m r, mget T m = some r → ∃ r', mget (mput (mput T k ⟨b, [], ByteArray.empty, 1, 0⟩) d { p with ds := mput p.ds s k }) m = some r' ∧ r'.isDir = r.isDir := fun m r hm => by
    rw [mget_mput, mget_mput]
    by_cases e1 : m = d
    · rw [if_pos e1]; rw [e1, hd] at hm; cases hm; exact ⟨_, rfl, rfl⟩
    · rw [if_neg e1, if_neg (fun e => by rw [e, hk] at hm; cases hm)]; exact ⟨r, hm, rfl⟩
  have hun := h.unnamed hk
  refine ⟨?_, mput_nodup (mput_nodup h.nd _ _) _ _, fun m r hr => ?_, fun m r hr s' k' hs' => ?_, fun m r hr hf => ?_, fun m r hr => ?_, fun m r hr => ?_, fun m r hr => ?_, ?_, fun m r hr => by
    rcases hget m r hr with ⟨rfl, _, rfl⟩ | ⟨_, rfl, rfl⟩ | ⟨_, _, h3⟩
    · exact fun e he => (mem_mput he).elim (fun e2 => by rw [e2]; exact hsn) (fun ⟨e', h1, h2⟩ => by rw [← h2]; exact h.nms m p hd e' h1)
    · intro e he; cases he
    · exact h.nms m r h3⟩
  · obtain ⟨p0, hp0, hd0⟩ := h.root
    obtain ⟨r, hr, e⟩ := hhas 0 p0 hp0
    exact ⟨r, hr, e.trans hd0⟩
  · rcases hget m r hr with ⟨rfl, _, rfl⟩ | ⟨_, rfl, rfl⟩ | ⟨_, _, h3⟩
    · exact h.keys m p hd
    · exact ⟨by omega, hk0.2⟩
    · exact h.keys m r h3
  · have there : k' = k ∨ ∃ r1, mget T k' = some r1 := by
      rcases hget m r hr with ⟨rfl, _, rfl⟩ | ⟨_, rfl, rfl⟩ | ⟨_, _, h3⟩
      · simp only [mget_mput] at hs'
        split at hs'
        · cases hs'; exact .inl rfl
        · exact .inr (h.link m p hd s' k' hs')
      · cases hs'
      · exact .inr (h.link m r h3 s' k' hs')
    rcases there with rfl | ⟨r1, hr1⟩
    · rw [mget_mput, if_neg hne, mget_mput, if_pos rfl]; exact ⟨_, rfl⟩
    · obtain ⟨r2, hr2, _⟩ := hhas k' r1 hr1
      exact ⟨r2, hr2⟩
  · rcases hget m r hr with ⟨rfl, _, rfl⟩ | ⟨_, rfl, rfl⟩ | ⟨_, _, h3⟩
    · rw [show ({ p with ds := mput p.ds s k } : PN).isDir = p.isDir from rfl, hdir] at hf; cases hf
    · rfl
    · exact h.file m r h3 hf
  · rw [hlk m]
    rcases hget m r hr with ⟨rfl, e1, rfl⟩ | ⟨_, rfl, rfl⟩ | ⟨_, e1, h3⟩
    · have := h.cnt m p hd
      have e5 : (if k = m then 1 else 0) = 0 := if_neg (fun e => e1 e.symm)
      rw [e5]
      simp only
      omega
    · rw [if_neg (by omega), hun, if_pos rfl]
    · have e5 : (if k = m then 1 else 0) = 0 := if_neg (fun e => e1 e.symm)
      rw [e5]
      exact h.cnt m r h3
  · rcases hget m r hr with ⟨rfl, _, rfl⟩ | ⟨_, rfl, rfl⟩ | ⟨_, _, h3⟩
    · exact mput_nodup (h.dnd m p hd) _ _
    · exact List.nodup_nil
    · exact h.dnd m r h3
  · rcases hget m r hr with ⟨rfl, _, rfl⟩ | ⟨_, rfl, rfl⟩ | ⟨_, _, h3⟩
    · exact h.data m p hd
    · exact Nat.zero_le _
    · exact h.data m r h3
  · rw [mput_length_same hd2, mput_length_new hk]
    omega
/-- A name moves from one directory to another one, or within one. -/
theorem TOk.move_ (h : TOk T) (hd : mget T d = some p) (hdir : p.isDir = true) (hs : mget p.ds s = some n) (he : mget (mput T d { p with ds := mdel p.ds s }) e = some q) (hed : q.isDir = true) (hs' : mget q.ds s' = none) (hsn : okName s' = true) :
    TOk (mput (mput T d { p with ds := mdel p.ds s }) e { q with ds := mput q.ds s' n }) := by
  have hlk : ∀ m, linksT m (mput (mput T d { p with ds := mdel p.ds s }) e { q with ds := mput q.ds s' n }) = linksT m T := fun m => by
    have e1 := linksT_put m (p' := { p with ds := mdel p.ds s }) h.nd hd
    have e2 := linksT_put m (p' := { q with ds := mput q.ds s' n }) (mput_nodup h.nd _ _) he
    have e3 := linksIn_put (n := m) (m := n) hs'
    have e4 := linksIn_del (n := m) (h.dnd d p hd) hs
    simp only at e1 e2
    by_cases e5 : n = m
    · rw [if_pos e5] at e3 e4; omega
    · rw [if_neg e5] at e3 e4; omega
  -- what each node was
  have hold : ∀ m r, mget (mput (mput T d { p with ds := mdel p.ds s }) e { q with ds := mput q.ds s' n }) m = some r → ∃ r0, mget T m = some r0 ∧ r.isDir = r0.isDir ∧ r.names = r0.names ∧ r.data = r0.data ∧ MNodup r.ds ∧ (r0.isDir = false → r.ds = r0.ds) ∧ ∀ s2 k2, mget r.ds s2 = some k2 → k2 = n ∨ mget r0.ds s2 = some k2 := by
    have h1 : ∀ m r, mget (mput T d { p with ds := mdel p.ds s }) m = some r → ∃ r0, mget T m = some r0 ∧ r.isDir = r0.isDir ∧ r.names = r0.names ∧ r.data = r0.data ∧ MNodup r.ds ∧ (r0.isDir = false → r.ds = r0.ds) ∧ ∀ s2 k2, mget r.ds s2 = some k2 → mget r0.ds s2 = some k2 := fun m r hr => by
      rw [mget_mput] at hr
      by_cases e1 : m = d
      · rw [if_pos e1] at hr; cases hr
        exact ⟨p, by rw [e1]; exact hd, rfl, rfl, rfl, mdel_nodup (h.dnd d p hd) _, (fun hf => by rw [hdir] at hf; cases hf), (fun s2 k2 h2 => by
          simp only [mget_mdel] at h2
          split at h2
          · cases h2
          · exact h2)⟩
      · rw [if_neg e1] at hr
        exact ⟨r, hr, rfl, rfl, rfl, h.dnd m r hr, fun _ => rfl, fun _ _ h => h⟩
    intro m r hr
    rw [mget_mput] at hr
    by_cases e1 : m = e
    · rw [if_pos e1] at hr; cases hr
      obtain ⟨r0, a0, a1, a2, a3, a4, a5, a6⟩ := h1 e q he
      refine ⟨r0, by rw [e1]; exact a0, a1, a2, a3, mput_nodup a4 _ _, (fun hf => by rw [← a1, hed] at hf; cases hf), fun s2 k2 h2 => ?_⟩
      simp only [mget_mput] at h2
      split at h2
      · cases h2; exact .inl rfl
      · exact .inr (a6 s2 k2 h2)
    · rw [if_neg e1] at hr
      obtain ⟨r0, a0, a1, a2, a3, a4, a5, a6⟩ := h1 m r hr
      exact ⟨r0, a0, a1, a2, a3, a4, a5, fun s2 k2 h2 => .inr (a6 s2 k2 h2)⟩
  have hhas : ∀ m r, mget T m = some r → ∃ r', mget (mput (mput T d { p with ds := mdel p.ds s }) e { q with ds := mput q.ds s' n }) m = some r' := fun m r hm => by
    rw [mget_mput, mget_mput]
    by_cases e1 : m = e
    · rw [if_pos e1]; exact ⟨_, rfl⟩
    · rw [if_neg e1]
      by_cases e2 : m = d
      · rw [if_pos e2]; exact ⟨_, rfl⟩
      · rw [if_neg e2]; exact ⟨r, hm⟩
  obtain ⟨nn, hnn⟩ := h.link d p hd s n hs
  refine ⟨?_, mput_nodup (mput_nodup h.nd _ _) _ _, fun m r hr => ?_, fun m r hr s2 k2 hs2 => ?_, fun m r hr hf => ?_, fun m r hr => ?_, fun m r hr => ?_, fun m r hr => ?_, ?_, fun m r hr e he => ?_⟩
  · obtain ⟨p0, hp0, hd0⟩ := h.root
    obtain ⟨r, hr⟩ := hhas 0 p0 hp0
    obtain ⟨r0, a0, a1, _⟩ := hold 0 r hr
    rw [hp0] at a0; cases a0
    exact ⟨r, hr, a1.trans hd0⟩
  · obtain ⟨r0, a0, _⟩ := hold m r hr
    exact h.keys m r0 a0
  · obtain ⟨r0, a0, _, _, _, _, _, a6⟩ := hold m r hr
    rcases a6 s2 k2 hs2 with rfl | h3
    · exact hhas k2 nn hnn
    · obtain ⟨r1, hr1⟩ := h.link m r0 a0 s2 k2 h3
      exact hhas k2 r1 hr1
  · obtain ⟨r0, a0, a1, _, _, _, a5, _⟩ := hold m r hr
    rw [a5 (by rw [← a1]; exact hf)]
    exact h.file m r0 a0 (by rw [← a1]; exact hf)
  · obtain ⟨r0, a0, _, a2, _⟩ := hold m r hr
    rw [a2, hlk]
    exact h.cnt m r0 a0
  · obtain ⟨r0, _, _, _, _, a4, _⟩ := hold m r hr
    exact a4
  · obtain ⟨r0, a0, _, _, a3, _⟩ := hold m r hr
    rw [a3]
    exact h.data m r0 a0
  · rw [mput_length_same he, mput_length_same hd]
    exact h.size
  · have h1 : ∀ m r, mget (mput T d { p with ds := mdel p.ds s }) m = some r → ∀ e ∈ r.ds, okName e.1 = true := fun m r hr => by
      rw [mget_mput] at hr
      by_cases e1 : m = d
      · rw [if_pos e1] at hr; cases hr
        exact fun e he => h.nms d p hd e (mem_mdel he)
      · rw [if_neg e1] at hr
        exact h.nms m r hr
    rw [mget_mput] at hr
    split at hr
    · cases hr
      rcases mem_mput he with e2 | ⟨e', h2, h3⟩
      · rw [e2]; exact hsn
      · rw [← h3]; exact h1 _ q ‹_› e' h2
    · exact h1 m r hr e he
end
end Go.Proofs.YtiohpmcedfbcgacGreatDoor
