/- A tree of files, plain: where names lead, what may not be. No program in sight. Conditions: each theorem's own premises. -/
import Derived.Test.YtiohpmcedfbcgacGreatDoorPaths
import Derived.Test.YtiohpmcedfbcgacGreatDoorMaps
namespace Go.Proofs.YtiohpmcedfbcgacGreatDoor
open Go.RowKit
set_option linter.unusedVariables false

/-- A node: a directory (its names lead to numbers), or a file's bytes; how many names lead to it, how often it is held. -/
structure PN where
  isDir : Bool
  ds : List (ByteArray × Int)
  data : ByteArray
  names : Nat
  held : Nat
abbrev PT := List (Int × PN)
/-- Where names lead from a node on: the error, and the node. -/
def walkT (T : PT) : Int → List ByteArray → Int × Int
  | n, [] => (0, n)
  | n, s :: l => (mget T n).elim (7, 0) fun p => if p.isDir then (mget p.ds s).elim (7, 0) fun m => walkT T m l else (6, 0)
theorem walkT_nil (T : PT) (n : Int) : walkT T n [] = (0, n) := rfl
theorem walkT_cons (T : PT) (n : Int) (s : ByteArray) (l : List ByteArray) : walkT T n (s :: l) = (mget T n).elim (7, 0) fun p => if p.isDir then (mget p.ds s).elim (7, 0) fun m => walkT T m l else (6, 0) := rfl
theorem walkT_file {T : PT} {n : Int} {p : PN} (h : mget T n = some p) (hd : p.isDir = false) (s : ByteArray) (l : List ByteArray) : walkT T n (s :: l) = (6, 0) := by
  rw [walkT_cons, h]; show (if p.isDir then _ else _) = _; rw [hd]; rfl
theorem walkT_miss {T : PT} {n : Int} {p : PN} (h : mget T n = some p) (hd : p.isDir = true) {s : ByteArray} (hs : mget p.ds s = none) (l : List ByteArray) : walkT T n (s :: l) = (7, 0) := by
  rw [walkT_cons, h]; show (if p.isDir then _ else _) = _; rw [hd, hs]; rfl
theorem walkT_hit {T : PT} {n m : Int} {p : PN} (h : mget T n = some p) (hd : p.isDir = true) {s : ByteArray} (hs : mget p.ds s = some m) (l : List ByteArray) : walkT T n (s :: l) = walkT T m l := by
  rw [walkT_cons, h]; show (if p.isDir then _ else _) = _; rw [hd, hs]; rfl
/-- What is at a path: the error, and the node. -/
def findT (T : PT) (path : ByteArray) : Int × Int := (namesOf path).elim (1, 0) (walkT T 0)
def isDirT (T : PT) (n : Int) : Bool := (mget T n).elim false (·.isDir)
/-- Where a path's last name stands: the error, the directory, the name. -/
def placeT (T : PT) (path : ByteArray) : Int × Int × ByteArray :=
  (namesOf path).elim (1, 0, ByteArray.empty) fun l =>
    if l = [] then (1, 0, ByteArray.empty)
    else if (walkT T 0 l.dropLast).1 ≠ 0 then ((walkT T 0 l.dropLast).1, 0, ByteArray.empty)
    else if isDirT T (walkT T 0 l.dropLast).2 then (0, (walkT T 0 l.dropLast).2, l.getLastD ByteArray.empty) else (6, 0, ByteArray.empty)
/-- How many names lead to a node. -/
def linksIn (n : Int) (ds : List (ByteArray × Int)) : Nat := (ds.filter fun e => decide (e.2 = n)).length
def linksT (n : Int) : PT → Nat
  | [] => 0
  | t :: T => linksIn n t.2.ds + linksT n T
structure TOk (T : PT) : Prop where
  root : ∃ p, mget T 0 = some p ∧ p.isDir = true
  nd : MNodup T
  keys : ∀ n p, mget T n = some p → 0 ≤ n ∧ n < 60
  link : ∀ n p, mget T n = some p → ∀ s m, mget p.ds s = some m → ∃ q, mget T m = some q
  file : ∀ n p, mget T n = some p → p.isDir = false → p.ds = []
  cnt : ∀ n p, mget T n = some p → p.names = (if n = 0 then 1 else 0) + linksT n T
  dnd : ∀ n p, mget T n = some p → MNodup p.ds
  data : ∀ n p, mget T n = some p → p.data.size ≤ 200
  size : T.length ≤ 60
  nms : ∀ n p, mget T n = some p → ∀ e ∈ p.ds, okName e.1 = true
theorem walkT_there {T : PT} (h : TOk T) : ∀ (l : List ByteArray) (n : Int) (p : PN), mget T n = some p → (walkT T n l).1 = 0 → ∃ q, mget T (walkT T n l).2 = some q
  | [], n, p, hn, _ => ⟨p, hn⟩
  | s :: l, n, p, hn, hz => by
    cases hd : p.isDir with
    | false => rw [walkT_file hn hd] at hz; cases hz
    | true =>
      cases hs : mget p.ds s with
      | none => rw [walkT_miss hn hd hs] at hz; cases hz
      | some m =>
        obtain ⟨q, hq⟩ := h.link n p hn s m hs
        rw [walkT_hit hn hd hs] at hz ⊢
        exact walkT_there h l m q hq hz
theorem walkT_err {T : PT} : ∀ (l : List ByteArray) (n : Int), (walkT T n l).1 = 0 ∨ (walkT T n l = (6, 0) ∨ walkT T n l = (7, 0))
  | [], n => .inl rfl
  | s :: l, n => by
    cases hn : mget T n with
    | none => right; right; rw [walkT_cons, hn]; rfl
    | some p =>
      cases hd : p.isDir with
      | false => rw [walkT_file hn hd]; exact .inr (.inl rfl)
      | true =>
        cases hs : mget p.ds s with
        | none => rw [walkT_miss hn hd hs]; exact .inr (.inr rfl)
        | some m => rw [walkT_hit hn hd hs]; exact walkT_err l m
theorem linksT_put (n : Int) : ∀ {T : PT} {k : Int} {p p' : PN}, MNodup T → mget T k = some p → linksT n (mput T k p') + linksIn n p.ds = linksT n T + linksIn n p'.ds := by
  intro T k p p' hn hk
  have hmp : mput T k p' = mupd T k p' := by unfold mput; rw [hk]; rfl
  rw [hmp]
  induction T with
  | nil => cases hk
  | cons t T ih =>
    have hn' : MNodup T := (List.nodup_cons.1 hn).2
    have hcons : mupd (t :: T) k p' = (if t.1 = k then (t.1, p') else t) :: mupd T k p' := rfl
    rw [hcons]
    by_cases e : t.1 = k
    · have h1 : mget (t :: T) k = some t.2 := mget_mem hn (by rw [← e]; exact List.mem_cons_self)
      rw [h1] at hk
      have hk := Option.some.inj hk
      have hno : ∀ q ∈ T, q.1 ≠ k := fun q hq e2 => (List.nodup_cons.1 hn).1 (List.mem_map.2 ⟨q, hq, by rw [e2, e]⟩)
      have hsame : mupd T k p' = T := by
        unfold mupd
        conv => rhs; rw [← List.map_id T]
        exact List.map_congr_left fun q hq => by rw [if_neg (hno q hq)]; rfl
      rw [if_pos e, hsame]
      show linksIn n p'.ds + linksT n T + linksIn n p.ds = linksIn n t.2.ds + linksT n T + linksIn n p'.ds
      rw [hk]
      omega
    · have h1 : mget T k = some p := by
        have h2 := mem_of_mget hk
        rcases List.mem_cons.1 h2 with h3 | h3
        · exact absurd (by rw [← h3]) e
        · exact mget_mem hn' h3
      have h2 := ih hn' h1 (by unfold mput; rw [h1]; rfl)
      rw [if_neg e]
      show linksIn n t.2.ds + linksT n (mupd T k p') + linksIn n p.ds = linksIn n t.2.ds + linksT n T + linksIn n p'.ds
      omega
theorem linksT_append (n : Int) : ∀ (T : PT) (t : Int × PN), linksT n (T ++ [t]) = linksT n T + linksIn n t.2.ds
  | [], t => by show linksIn n t.2.ds + 0 = 0 + linksIn n t.2.ds; omega
  | s :: T, t => by
    show linksIn n s.2.ds + linksT n (T ++ [t]) = linksIn n s.2.ds + linksT n T + linksIn n t.2.ds
    rw [linksT_append n T t]
    omega
theorem linksT_new (n : Int) {T : PT} {k : Int} {p : PN} (hk : mget T k = none) : linksT n (mput T k p) = linksT n T + linksIn n p.ds := by
  unfold mput
  rw [hk]
  exact linksT_append n T (k, p)
theorem linksT_del (n : Int) : ∀ {T : PT} {k : Int} {p : PN}, MNodup T → mget T k = some p → linksT n (mdel T k) + linksIn n p.ds = linksT n T
  | [], k, p, _, hk => by cases hk
  | t :: T, k, p, hn, hk => by
    have hn' : MNodup T := (List.nodup_cons.1 hn).2
    have hcons : mdel (t :: T) k = if t.1 = k then mdel T k else t :: mdel T k := by
      unfold mdel
      rw [List.filter_cons]
      by_cases e : t.1 = k
      · rw [if_pos e, if_neg (by simp [e])]
      · rw [if_neg e, if_pos (by simp [e])]
    rw [hcons]
    by_cases e : t.1 = k
    · have h1 : mget (t :: T) k = some t.2 := mget_mem hn (by rw [← e]; exact List.mem_cons_self)
      rw [h1] at hk
      have hk := Option.some.inj hk
      have hno : mget T k = none := mget_none (fun q hq e2 => (List.nodup_cons.1 hn).1 (List.mem_map.2 ⟨q, hq, by rw [e2, e]⟩))
      rw [if_pos e, mdel_none hno, ← hk]
      show linksT n T + linksIn n t.2.ds = linksIn n t.2.ds + linksT n T
      omega
    · have h1 : mget T k = some p := by
        have h2 := mem_of_mget hk
        rcases List.mem_cons.1 h2 with h3 | h3
        · exact absurd (by rw [← h3]) e
        · exact mget_mem hn' h3
      have h2 := linksT_del n hn' h1
      rw [if_neg e]
      show linksIn n t.2.ds + linksT n (mdel T k) + linksIn n p.ds = linksIn n t.2.ds + linksT n T
      omega
theorem linksIn_put {n m : Int} {ds : List (ByteArray × Int)} {s : ByteArray} (hs : mget ds s = none) : linksIn n (mput ds s m) = linksIn n ds + if m = n then 1 else 0 := by
  unfold mput linksIn
  rw [hs]
  simp only [Option.isSome_none, Bool.false_eq_true, if_false, List.filter_append, List.length_append]
  by_cases e : m = n <;> simp [e]
theorem linksIn_del {n m : Int} : ∀ {ds : List (ByteArray × Int)} {s : ByteArray}, MNodup ds → mget ds s = some m → linksIn n (mdel ds s) + (if m = n then 1 else 0) = linksIn n ds
  | [], s, _, h => by cases h
  | t :: ds, s, hn, h => by
    have hn' : MNodup ds := (List.nodup_cons.1 hn).2
    have hcons : mdel (t :: ds) s = if t.1 = s then mdel ds s else t :: mdel ds s := by
      unfold mdel
      rw [List.filter_cons]
      by_cases e : t.1 = s
      · rw [if_pos e, if_neg (by simp [e])]
      · rw [if_neg e, if_pos (by simp [e])]
    have hc : ∀ l : List (ByteArray × Int), linksIn n (t :: l) = linksIn n l + if t.2 = n then 1 else 0 := fun l => by
      unfold linksIn
      rw [List.filter_cons]
      by_cases e : t.2 = n
      · rw [if_pos (decide_eq_true e), if_pos e]; rfl
      · rw [if_neg (by simp [e]), if_neg e]; rfl
    rw [hcons, hc]
    by_cases e : t.1 = s
    · have h1 : mget (t :: ds) s = some t.2 := mget_mem hn (by rw [← e]; exact List.mem_cons_self)
      rw [h1] at h
      have h := Option.some.inj h
      have hno : mget ds s = none := mget_none (fun q hq e2 => (List.nodup_cons.1 hn).1 (List.mem_map.2 ⟨q, hq, by rw [e2, e]⟩))
      rw [if_pos e, mdel_none hno, ← h]
    · have h1 : mget ds s = some m := by
        have h2 := mem_of_mget h
        rcases List.mem_cons.1 h2 with h3 | h3
        · exact absurd (by rw [← h3]) e
        · exact mget_mem hn' h3
      have h2 := linksIn_del (n := n) hn' h1
      rw [if_neg e, hc]
      omega
theorem placeT_name {T : PT} {path : ByteArray} {d : Int} {s : ByteArray} (h : placeT T path = (0, d, s)) : okName s = true := by
  unfold placeT at h
  cases hn : namesOf path with
  | none => rw [hn] at h; cases h
  | some l =>
    rw [hn] at h
    replace h : (if l = [] then ((1, 0, ByteArray.empty) : Int × Int × ByteArray) else if (walkT T 0 l.dropLast).1 ≠ 0 then ((walkT T 0 l.dropLast).1, 0, ByteArray.empty) else if isDirT T (walkT T 0 l.dropLast).2 then (0, (walkT T 0 l.dropLast).2, l.getLastD ByteArray.empty) else (6, 0, ByteArray.empty)) = (0, d, s) := h
    split at h
    · cases h
    · rename_i hl
      split at h
      · rename_i hz
        exact absurd (congrArg Prod.fst h) hz
      · split at h
        · have h2 : l.getLastD ByteArray.empty = s := congrArg (fun x => x.2.2) h
          rw [← h2]
          refine namesOf_names hn _ ?_
          rw [List.getLastD_eq_getLast?, List.getLast?_eq_some_getLast hl]
          exact List.getLast_mem hl
        · cases h
theorem mem_mput {ds : List (ByteArray × Int)} {s : ByteArray} {n : Int} {e : ByteArray × Int} (h : e ∈ mput ds s n) : e.1 = s ∨ ∃ e' ∈ ds, e'.1 = e.1 := by
  unfold mput at h
  split at h
  · unfold mupd at h
    obtain ⟨x, hx, rfl⟩ := List.mem_map.1 h
    split
    · exact .inr ⟨x, hx, rfl⟩
    · exact .inr ⟨x, hx, rfl⟩
  · rcases List.mem_append.1 h with h1 | h1
    · exact .inr ⟨e, h1, rfl⟩
    · rw [List.mem_singleton.1 h1]; exact .inl rfl
theorem mem_mdel {ds : List (ByteArray × Int)} {s : ByteArray} {e : ByteArray × Int} (h : e ∈ mdel ds s) : e ∈ ds := (List.mem_filter.1 h).1
end Go.Proofs.YtiohpmcedfbcgacGreatDoor
