/- Several texts of ours in one, in build order (Tree, TreeFind, RefNames). Conditions: each theorem's own premises. -/
import Derived.Test.YtiohpmcedfbcgacGreatDoorSplit
import Derived.Test.YtiohpmcedfbcgacGreatDoorTreePlain
import Derived.Deep.LoopGhost
import Derived.Deep.DeepCutAuto
import Derived.Deep.CutBlock
import Derived.Outline
import Derived.Handy
/- Package tree: what a tree is in memory; parts, walk, Find, place, file. Conditions: each theorem's own premises. -/
namespace Go.Proofs.YtiohpmcedfbcgacGreatDoor
open Go.RowKit
set_option linter.unusedVariables false

def TErr (z : Int) : Value := if z = 0 then .nilIface else .iface 45 (.int .i64 z)
theorem TErr_of {z : Int} (h : z ≠ 0) : TErr z = .iface 45 (.int .i64 z) := if_neg h
structure NdAt (w : World) (b d : Nat) (p : PN) : Prop where
  c0 : w.cell? ⟨b, 0, none⟩ = some (.map (if p.isDir then some d else none))
  c1 : w.cell? ⟨b, 1, none⟩ = some (.string p.data)
  c2 : w.cell? ⟨b, 2, none⟩ = some (.int .i64 (p.names : Int))
  c3 : w.cell? ⟨b, 3, none⟩ = some (.int .i64 (p.held : Int))
  fz : ∀ i, w.frozen? ⟨b, i, none⟩ = false
  dir : p.isDir = true → MapIs w d .string encS encI p.ds
def ptrV (b : Nat) : Value := .pointer (some ⟨b, 0, none⟩)
def keysB (B : Int → Nat) (T : PT) : List (Int × Nat) := T.map fun t => (t.1, B t.1)
structure TreeIn (w : World) (tb nm : Nat) (T : PT) (B D : Int → Nat) : Prop where
  hdr : w.cell? ⟨tb, 0, none⟩ = some (.map (some nm))
  mp : MapIs w nm (.int .i64) encI ptrV (keysB B T)
  nd : ∀ n p, mget T n = some p → NdAt w (B n) (D n) p
  bb : ∀ n m p q, mget T n = some p → mget T m = some q → n ≠ m → B n ≠ B m
  dd : ∀ n m p q, mget T n = some p → mget T m = some q → p.isDir = true → q.isDir = true → n ≠ m → D n ≠ D m
  bd : ∀ n m p q, mget T n = some p → mget T m = some q → q.isDir = true → B n ≠ D m
  own : ∀ n p, mget T n = some p → (B n ≠ tb ∧ B n ≠ nm) ∧ (p.isDir = true → D n ≠ tb ∧ D n ≠ nm)
  ne : tb ≠ nm
def TrFoot (tb nm : Nat) (T : PT) (B D : Int → Nat) (k : Nat) : Prop := k = tb ∨ k = nm ∨ ∃ n p, mget T n = some p ∧ (k = B n ∨ (p.isDir = true ∧ k = D n))
/-- A tree in block tb, on the blocks F. -/
def TreeIs (w : World) (tb : Nat) (T : PT) (F : Nat → Prop) : Prop := ∃ nm B D, TreeIn w tb nm T B D ∧ TOk T ∧ F = TrFoot tb nm T B D
theorem keysB_get (B : Int → Nat) : ∀ (T : PT) (n : Int), mget (keysB B T) n = (mget T n).map fun _ => B n := by
  intro T n
  unfold mget keysB
  induction T with
  | nil => rfl
  | cons t T ih =>
    rw [List.map_cons, List.find?_cons, List.find?_cons]
    by_cases e : t.1 = n
    · simp only [e, decide_true]; rfl
    · simp only [e, decide_false]; exact ih
section
variable {w w' : World} {tb nm b d : Nat} {T : PT} {B D : Int → Nat} {F : Nat → Prop} {p : PN} {n : Int}
theorem NdAt.lt (h : NdAt w b d p) : b < w.heap.size := lt_of_cell h.c0
theorem NdAt.turned {S : Nat → Prop} (h : NdAt w b d p) (t : Turn S w w') (hb : ¬ S b) (hd : p.isDir = true → ¬ S d) : NdAt w' b d p :=
  ⟨(t.cell (a := ⟨b, 0, none⟩) h.lt hb).trans h.c0, (t.cell (a := ⟨b, 1, none⟩) h.lt hb).trans h.c1, (t.cell (a := ⟨b, 2, none⟩) h.lt hb).trans h.c2, (t.cell (a := ⟨b, 3, none⟩) h.lt hb).trans h.c3, fun i => (t.frozen (a := ⟨b, i, none⟩) h.lt hb).trans (h.fz i), fun e => (h.dir e).turned t (hd e)⟩
theorem TreeIn.turned {S : Nat → Prop} (h : TreeIn w tb nm T B D) (t : Turn S w w') (hn : ∀ k, TrFoot tb nm T B D k → ¬ S k) : TreeIn w' tb nm T B D :=
  { h with
    hdr := (t.cell (a := ⟨tb, 0, none⟩) (lt_of_cell h.hdr) (hn tb (.inl rfl))).trans h.hdr
    mp := h.mp.turned t (hn nm (.inr (.inl rfl)))
    nd := fun n p hp => (h.nd n p hp).turned t (hn _ (.inr (.inr ⟨n, p, hp, .inl rfl⟩))) (fun e => hn _ (.inr (.inr ⟨n, p, hp, .inr ⟨e, rfl⟩⟩))) }
theorem TreeIs.turned {S : Nat → Prop} (h : TreeIs w tb T F) (t : Turn S w w') (hn : ∀ k, F k → ¬ S k) : TreeIs w' tb T F := by
  obtain ⟨nm, B, D, h1, h2, rfl⟩ := h
  exact ⟨nm, B, D, h1.turned t hn, h2, rfl⟩
theorem TreeIn.foot_lt (h : TreeIn w tb nm T B D) (k : Nat) (hk : TrFoot tb nm T B D k) : k < w.heap.size := by
  rcases hk with rfl | rfl | ⟨n, p, hp, rfl | ⟨e, rfl⟩⟩
  · exact lt_of_cell h.hdr
  · exact h.mp.lt
  · exact (h.nd n p hp).lt
  · exact ((h.nd n p hp).dir e).lt
theorem TreeIs.foot_lt (h : TreeIs w tb T F) (k : Nat) (hk : F k) : k < w.heap.size := by
  obtain ⟨nm, B, D, h1, _, rfl⟩ := h
  exact h1.foot_lt k hk
theorem TreeIs.ok (h : TreeIs w tb T F) : TOk T := by obtain ⟨_, _, _, _, h2, _⟩ := h; exact h2
theorem zeroNode (w : World) : (zeroValue 165).run Tryz.prog w = .ok (.pointer none) w := by kernel_rfl
theorem zeroInt (w : World) : (zeroValue 3).run Tryz.prog w = .ok (.int .i64 0) w := by kernel_rfl
def nodeV (T : PT) (B : Int → Nat) (n : Int) : Value := (mget T n).elim (.pointer none) fun _ => ptrV (B n)
theorem look_node (h : TreeIn w tb nm T B D) (n : Int) : (Instr.lookup 169 (.map (some nm)) (.int .i64 n) false).run Tryz.prog w = .ok (nodeV T B n) w := by
  have h1 := h.mp.run_lookup keyI Tryz.underlying169 Tryz.underlying3 (zeroNode w) n false
  refine h1.trans ?_
  rw [keysB_get]
  unfold nodeV
  cases mget T n <;> rfl
theorem look_name {ds : List (ByteArray × Int)} (h : MapIs w d .string encS encI ds) (s : ByteArray) : (Instr.lookup 166 (.map (some d)) (.string s) true).run Tryz.prog w = .ok (.tuple #[.int .i64 ((mget ds s).getD 0), .bool (mget ds s).isSome]) w := by
  have h1 := h.run_lookup keyS Tryz.underlying166 Tryz.underlying9 (zeroInt w) s true
  refine h1.trans ?_
  cases mget ds s <;> rfl
/-- Texts in memory, one behind the other. -/
def StrsIn (w : World) (a : Option Addr) (l : List ByteArray) : Prop := l = [] ∨ ∃ g off, a = some ⟨g, off, none⟩ ∧ g < w.heap.size ∧ ∀ (j : Nat) s, l[j]? = some s → w.cell? ⟨g, off + j, none⟩ = some (.string s)
theorem StrsIn.turned {S : Nat → Prop} {a : Option Addr} {l : List ByteArray} (h : StrsIn w a l) (t : Turn S w w') (hn : ∀ x, a = some x → ¬ S x.block) : StrsIn w' a l := by
  rcases h with h | ⟨g, off, rfl, hg, hc⟩
  · exact .inl h
  · exact .inr ⟨g, off, rfl, Nat.lt_of_lt_of_le hg t.size, fun j s hs => (t.cell (a := ⟨g, off + j, none⟩) hg (hn ⟨g, off, none⟩ rfl)).trans (hc j s hs)⟩
theorem StrsIn.take {a : Option Addr} {l : List ByteArray} (h : StrsIn w a l) (k : Nat) : StrsIn w a (l.take k) := by
  rcases h with h | ⟨g, off, rfl, hg, hc⟩
  · exact .inl (by rw [h]; simp)
  · refine .inr ⟨g, off, rfl, hg, fun j s hs => hc j s ?_⟩
    rw [List.getElem?_take] at hs
    split at hs
    · exact hs
    · cases hs
/-- What parts hands back. -/
def PartsIs (path : ByteArray) (w : World) (e : Ending) (w' : World) : Prop :=
  ((namesOf path = none ∧ e = .returned (.tuple #[.slice none 0 0, .iface 45 (.int .i64 1)])) ∨ ∃ l a cap, namesOf path = some l ∧ e = .returned (.tuple #[.slice a l.length cap, .nilIface]) ∧ StrsIn w' a l ∧ (l ≠ [] → l.length ≤ cap)) ∧ Turn (fun _ => False) w w'
theorem toList_empty {s : ByteArray} : s.toList.isEmpty = decide (s.size = 0) := by
  rw [ByteArray.toList_eq, Go.Lib.size_eq]
  cases s.data.toList <;> rfl
theorem okName_false {s : ByteArray} (h : okName s = false) : s.toList.isEmpty = true ∨ (12 < s.size ∨ ((s.toList == [46]) = true ∨ (s.toList == [46, 46]) = true)) := by
  unfold okName at h
  by_cases h1 : 1 ≤ s.size
  · by_cases h2 : s.size ≤ 12
    · rw [decide_eq_true h1, decide_eq_true h2] at h
      cases h3 : (s.toList == [46]) with
      | true => exact .inr (.inr (.inl rfl))
      | false =>
        cases h4 : (s.toList == [46, 46]) with
        | true => exact .inr (.inr (.inr rfl))
        | false => rw [h3, h4] at h; cases h
    · exact .inr (.inl (by omega))
  · refine .inl ?_
    have h2 : s.size = 0 := by omega
    rw [toList_empty]; exact decide_eq_true h2
theorem okName_true {s : ByteArray} (h : okName s = true) : s.toList.isEmpty = false ∧ s.size ≤ 12 ∧ (s.toList == [46]) = false ∧ (s.toList == [46, 46]) = false := by
  unfold okName at h
  rw [Bool.and_eq_true, Bool.and_eq_true, Bool.and_eq_true, Bool.not_eq_true', Bool.not_eq_true'] at h
  obtain ⟨⟨⟨h1, h2⟩, h3⟩, h4⟩ := h
  have h1 := of_decide_eq_true h1
  exact ⟨by rw [toList_empty]; exact decide_eq_false (by omega), of_decide_eq_true h2, h3, h4⟩
set_option maxHeartbeats 2000000 in
set_option maxRecDepth 100000 in
theorem parts_is (path : ByteArray) (hs : path.size < 4294967281) (w : World) : Calls Tryz.prog 114 #[.string path] w (PartsIs path w) := by
  cases hl : led path with
  | false =>
    have hn := namesOf_unled hl
    have HC := hid (cutSlash_no hl w)
    go_enter Tryz.func114, Tryz.ntmps114
    go_wp2_with fail
    refine HC.out.mono ?_
    rintro e w' ⟨rfl, hw⟩; subst w'
    go_wp2_with fail
    go_ret2
    exact ⟨.inl ⟨hn, rfl⟩, Turn.refl _ _⟩
  | true =>
    have HC := hid (cutSlash_yes hl w)
    have hsz := extract_size path 1 path.size (Nat.le_refl _)
    have hl1 := led_size hl
    obtain ⟨r, hr⟩ : ∃ r, path.extract 1 path.size = r := ⟨_, rfl⟩
    rw [hr] at HC hsz
    by_cases h1 : path.size = 1
    · have hn := namesOf_root hl h1
      have he : r.toList.isEmpty = true := by rw [toList_empty]; exact decide_eq_true (by omega)
      clear hsz hl1 hr h1 hl hs
      go_enter Tryz.func114, Tryz.ntmps114
      go_wp2_with fail
      refine HC.out.mono ?_
      rintro e w' ⟨rfl, hw⟩; subst w'
      go_wp2_with fail
      go_ret2
      exact ⟨.inr ⟨[], none, 0, hn, rfl, .inl rfl, fun h => absurd rfl h⟩, Turn.refl _ _⟩
    · have he : r.toList.isEmpty = false := by rw [toList_empty]; exact decide_eq_false (by omega)
      have HSp := hid (split_is r (by omega) w)
      obtain ⟨l, hpl⟩ : ∃ l, piecesOf r = l := ⟨_, rfl⟩
      have hlen := pieces_le r
      have HOk : Hid (l.all okName = true → namesOf path = some l) := hid (fun h => by
        have h2 := namesOf_ok hl h1 (by rw [hr, hpl]; exact h)
        rw [hr, hpl] at h2
        exact h2)
      have HBad : Hid (l.all okName = false → namesOf path = none) := hid (fun h => namesOf_bad hl h1 (by rw [hr, hpl]; exact h))
      rw [hpl] at HSp hlen
      have hll : l.length ≤ 4294967281 := by omega
      clear hsz hl1 hr h1 hl hs hpl hlen
      go_enter Tryz.func114, Tryz.ntmps114
      go_wp2_with fail
      refine HC.out.mono ?_
      rintro e w' ⟨rfl, hw⟩; subst w'
      go_wp2_with fail
      refine HSp.out.mono ?_
      rintro e w1 ⟨rfl, hw1⟩
      have HT : Hid (Turn (fun _ => False) w w1) := hid (by rw [hw1]; exact (Turn.refl _ _).alloc _)
      have HCe : Hid (StrsIn w1 (some ⟨w.heap.size, 0, none⟩) l) := hid (.inr ⟨w.heap.size, 0, rfl, by rw [hw1, World.size_alloc]; omega, fun j s hj => by
        rw [hw1, Nat.zero_add]
        exact (World.cell?_alloc_new _ _ _ _).trans (by simp [hj])⟩)
      obtain ⟨g, hg⟩ : ∃ g, w.heap.size = g := ⟨_, rfl⟩
      rw [hg] at HCe
      rw [hg]
      clear hw1 HSp HC hg
      go_wp2_with fail
      go_loopg [23] l.length (fun gl i wr => ∃ k : Nat, k + gl = l.length ∧ i = .int .i64 k ∧ wr = w1 ∧ Hid ((l.take k).all okName = true))
      case atStart => exact ⟨0, by omega, rfl, rfl, hid rfl⟩
      case round =>
        obtain ⟨k, hk, rfl, rfl, hA⟩ := hrel
        by_cases hkl : k < l.length
        · have hkl' : (k : Int) < l.length := by omega
          obtain ⟨s, hs⟩ : ∃ s, l[k]? = some s := ⟨_, List.getElem?_eq_getElem hkl⟩
          have hc : wr.cell? ⟨g, k, none⟩ = some (.string s) := by
            rcases HCe.out with h | ⟨g', off, e, _, h⟩
            · rw [h] at hkl; simp at hkl
            · cases e
              have := h k s hs
              rwa [Nat.zero_add] at this
          cases hok : okName s with
          | false =>
            have hno : namesOf path = none := HBad.out (by
              rw [List.all_eq_false]
              exact ⟨s, List.mem_of_getElem? hs, by rw [hok]; exact Bool.false_ne_true⟩)
            have HNo := hid hno
            have HOr := hid (okName_false hok)
            clear hs hok hno
            rcases HOr.out with h1 | h1 | h1 | h1
            · go_wp2_with fail
              go_ret2
              exact ⟨.inl ⟨HNo.out, rfl⟩, HT.out⟩
            · have h1' : (12 : Int) < s.size := by omega
              have h2 : s.toList.isEmpty = false := by rw [toList_empty]; exact decide_eq_false (by omega)
              go_wp2_with fail
              go_ret2
              exact ⟨.inl ⟨HNo.out, rfl⟩, HT.out⟩
            · have hz : s.toList = [46] := beq_iff_eq.1 h1
              have hz2 : s.size = 1 := by rw [Go.Lib.size_eq, ← ByteArray.toList_eq, hz]; rfl
              have h1' : ¬ (12 : Int) < s.size := by omega
              have h2 : s.toList.isEmpty = false := by rw [hz]; rfl
              clear hz hz2
              go_wp2_with fail
              go_ret2
              exact ⟨.inl ⟨HNo.out, rfl⟩, HT.out⟩
            · have hz : s.toList = [46, 46] := beq_iff_eq.1 h1
              have hz2 : s.size = 2 := by rw [Go.Lib.size_eq, ← ByteArray.toList_eq, hz]; rfl
              have h1' : ¬ (12 : Int) < s.size := by omega
              have h2 : s.toList.isEmpty = false := by rw [hz]; rfl
              have h3 : (s.toList == [46]) = false := by rw [hz]; rfl
              clear hz hz2
              go_wp2_with fail
              go_ret2
              exact ⟨.inl ⟨HNo.out, rfl⟩, HT.out⟩
          | true =>
            obtain ⟨h1, h2, h3, h4⟩ := okName_true hok
            have h2' : ¬ (12 : Int) < s.size := by omega
            have hA2 : (l.take (k + 1)).all okName = true := by
              rw [List.take_add_one, hs, List.all_append, hA.out]
              simp [hok]
            have HA2 := hid hA2
            clear hs hok hA2
            go_wp2_with fail
            go_roundg (gk - 1)
            case measure => omega
            case rel => exact ⟨k + 1, by omega, by go_num, rfl, HA2⟩
        · have hkl' : ¬ (k : Int) < l.length := by omega
          obtain rfl : k = l.length := by omega
          have hn := HOk.out (by have := hA.out; rwa [List.take_length] at this)
          go_wp2_with fail
          go_ret2
          exact ⟨.inr ⟨l, _, _, hn, rfl, HCe.out, fun _ => Nat.le_refl _⟩, HT.out⟩
end
end Go.Proofs.YtiohpmcedfbcgacGreatDoor
/- Package tree: walk, Find, place, file, Nodes. Conditions: each theorem's own premises. -/
namespace Go.Proofs.YtiohpmcedfbcgacGreatDoor
open Go.RowKit
set_option linter.unusedVariables false

section
variable {w w' : World} {tb nm b d : Nat} {T : PT} {B D : Int → Nat} {F : Nat → Prop} {p : PN} {n : Int}
theorem TreeIn.look (h : TreeIn w tb nm T B D) (hn : mget T n = some p) : (Instr.lookup 169 (.map (some nm)) (.int .i64 n) false).run Tryz.prog w = .ok (.pointer (some ⟨B n, 0, none⟩)) w := by
  have h1 := look_node h n
  unfold nodeV at h1
  rw [hn] at h1
  exact h1
theorem TreeIn.looknone (h : TreeIn w tb nm T B D) (hn : mget T n = none) : (Instr.lookup 169 (.map (some nm)) (.int .i64 n) false).run Tryz.prog w = .ok (.pointer none) w := by
  have h1 := look_node h n
  unfold nodeV at h1
  rw [hn] at h1
  exact h1
theorem map_some_nil (d : Nat) (w : World) : (Go.binOp BinOp.eql 166 (.map (some d)) (.map none)).run Tryz.prog w = .ok (.bool false) w := by kernel_rfl
theorem map_nil_nil (w : World) : (Go.binOp BinOp.eql 166 (.map none) (.map none)).run Tryz.prog w = .ok (.bool true) w := by kernel_rfl
theorem map_some_ne (d : Nat) (w : World) : (Go.binOp BinOp.neq 166 (.map (some d)) (.map none)).run Tryz.prog w = .ok (.bool true) w := by kernel_rfl
theorem map_nil_ne (w : World) : (Go.binOp BinOp.neq 166 (.map none) (.map none)).run Tryz.prog w = .ok (.bool false) w := by kernel_rfl
set_option maxHeartbeats 2000000 in
set_option maxRecDepth 100000 in
theorem walk_is (h : TreeIn w tb nm T B D) (hok : TOk T) {a : Option Addr} {l : List ByteArray} (cap : Nat) (hl : StrsIn w a l) (hn : l.length ≤ 4294967281) :
    Calls Tryz.prog 115 #[.pointer (some ⟨tb, 0, none⟩), .slice a l.length cap] w fun e w' => e = .returned (.tuple #[.int .i64 (walkT T 0 l).2, TErr (walkT T 0 l).1]) ∧ w' = w := by
  have H := hid h
  have HOk := hid hok
  have HL := hid hl
  have hh := h.hdr
  obtain ⟨p0, hp0, _⟩ := hok.root
  have HP0 := hid hp0
  obtain ⟨R, hR⟩ : ∃ R, walkT T 0 l = R := ⟨_, rfl⟩
  rw [hR]
  have HR := hid hR
  clear h hok hl hp0 hR
  go_enter Tryz.func115, Tryz.ntmps115
  go_wp2_with fail
  go_loopg [6, 14] l.length (fun gl at_ i wr => ∃ (k : Nat) (m : Int) (p : PN), k + gl = l.length ∧ i = .int .i64 k ∧ at_ = .int .i64 m ∧ Hid (mget T m = some p) ∧ Hid (walkT T m (l.drop k) = R) ∧ wr = w)
  case atStart => exact ⟨0, 0, p0, by omega, rfl, rfl, HP0, hid (by rw [List.drop_zero]; exact HR.out), rfl⟩
  case round =>
    obtain ⟨k, m, p, hk, rfl, rfl, hm, hw, hwr⟩ := hrel
    subst wr
    by_cases hkl : k < l.length
    · have hkl' : (k : Int) < l.length := by omega
      obtain ⟨s, hs⟩ : ∃ s, l[k]? = some s := ⟨_, List.getElem?_eq_getElem hkl⟩
      have hdr : l.drop k = s :: l.drop (k + 1) := by
        rw [List.drop_eq_getElem_cons hkl]
        congr 1
        rw [List.getElem?_eq_getElem hkl] at hs
        exact Option.some.inj hs
      obtain ⟨g, off, rfl, _, hc0⟩ := HL.out.resolve_left (by rintro rfl; simp at hkl)
      have hc := hc0 k s hs
      have lk := H.out.look hm.out
      have nd := H.out.nd m p hm.out
      have c0 := nd.c0
      have mno := map_some_nil (D m) w
      have myes := map_nil_nil w
      cases hd : p.isDir with
      | false =>
        have hf : R = (6, 0) := by
          have h1 := hw.out
          rw [hdr, walkT_file hm.out hd] at h1
          exact h1.symm
        rw [hd] at c0
        simp only [Bool.false_eq_true, if_false] at c0
        subst hf
        clear nd hc0 hs hdr hd
        go_wp2_with fail
        go_ret2
        exact ⟨rfl, rfl⟩
      | true =>
        rw [hd] at c0
        simp only [if_true] at c0
        have ln := look_name (nd.dir hd) s
        cases hms : mget p.ds s with
        | none =>
          have hf : R = (7, 0) := by
            have h1 := hw.out
            rw [hdr, walkT_miss hm.out hd hms] at h1
            exact h1.symm
          rw [hms] at ln
          simp only [Option.getD_none, Option.isSome_none] at ln
          subst hf
          clear nd hc0 hs hdr hd hms
          go_wp2_with fail
          go_ret2
          exact ⟨rfl, rfl⟩
        | some m2 =>
          have hf := hw.out
          rw [hdr, walkT_hit hm.out hd hms] at hf
          rw [hms] at ln
          simp only [Option.getD_some, Option.isSome_some] at ln
          obtain ⟨q, hq⟩ := HOk.out.link m p hm.out s m2 hms
          have HF := hid hf
          have HQ := hid hq
          clear nd hc0 hs hdr hd hms hf hq
          go_wp2_with fail
          go_roundg (gk - 1)
          case measure => omega
          case rel => exact ⟨k + 1, m2, q, by omega, by go_num, rfl, HQ, HF, rfl⟩
    · have hkl' : ¬ (k : Int) < l.length := by omega
      obtain rfl : k = l.length := by omega
      have hf : R = (0, m) := by
        have h1 := hw.out
        rw [List.drop_length] at h1
        exact h1.symm
      subst hf
      go_wp2_with fail
      go_ret2
      exact ⟨rfl, rfl⟩
theorem findT_some {path : ByteArray} {l : List ByteArray} (h : namesOf path = some l) : findT T path = walkT T 0 l := by unfold findT; rw [h]; rfl
theorem findT_none {path : ByteArray} (h : namesOf path = none) : findT T path = (1, 0) := by unfold findT; rw [h]; rfl
set_option maxRecDepth 100000 in
theorem find_is (h : TreeIs w tb T F) (path : ByteArray) (hs : path.size < 4294967281) :
    Calls Tryz.prog 38 #[.pointer (some ⟨tb, 0, none⟩), .string path] w fun e w' => e = .returned (.tuple #[.int .i64 (findT T path).2, TErr (findT T path).1]) ∧ Turn (fun _ => False) w w' := by
  have H := hid h
  have HP := hid (parts_is path hs w)
  clear h
  go_enter Tryz.func38, Tryz.ntmps38
  go_wp2_with fail
  refine HP.out.mono ?_
  rintro e w1 ⟨⟨hn, rfl⟩ | ⟨l, a, cap, hn, rfl, hl, _⟩, t1⟩
  · have hf := findT_none (T := T) hn
    have HT := hid t1
    clear t1 hn
    go_wp2_with fail
    go_ret2
    rw [hf]
    exact ⟨rfl, HT.out⟩
  · have hf := findT_some (T := T) hn
    have hlen := namesOf_length hn
    have HT := hid t1
    obtain ⟨nm, B, D, hin, hok, _⟩ := H.out.turned t1 (fun _ _ => id)
    have HW := hid (walk_is hin hok cap hl (by omega))
    clear t1 hn hl hin hok hlen hs
    go_wp2_with fail
    refine HW.out.mono ?_
    rintro e w2 ⟨rfl, hw⟩; subst w2
    go_wp2_with fail
    go_ret2
    rw [hf]
    exact ⟨rfl, HT.out⟩
/-- What place hands back. -/
def PlaceIs (T : PT) (D : Int → Nat) (path : ByteArray) (w : World) (e : Ending) (w' : World) : Prop :=
  (((placeT T path).1 ≠ 0 ∧ e = .returned (.tuple #[.map none, .string ByteArray.empty, TErr (placeT T path).1])) ∨
    ∃ d p s, placeT T path = (0, d, s) ∧ mget T d = some p ∧ p.isDir = true ∧ e = .returned (.tuple #[.map (some (D d)), .string s, .nilIface])) ∧ Turn (fun _ => False) w w'
theorem placeT_none {path : ByteArray} (h : namesOf path = none) : placeT T path = (1, 0, ByteArray.empty) := by unfold placeT; rw [h]; rfl
theorem placeT_root {path : ByteArray} (h : namesOf path = some []) : placeT T path = (1, 0, ByteArray.empty) := by unfold placeT; rw [h]; rfl
theorem placeT_err {path : ByteArray} {l : List ByteArray} (h : namesOf path = some l) (hl : l ≠ []) {z : Int} {m : Int} (hw : walkT T 0 l.dropLast = (z, m)) (hz : z ≠ 0) : placeT T path = (z, 0, ByteArray.empty) := by
  unfold placeT; rw [h]
  show (if l = [] then _ else _) = _
  rw [if_neg hl, hw, if_pos hz]
theorem placeT_file {path : ByteArray} {l : List ByteArray} (h : namesOf path = some l) (hl : l ≠ []) {m : Int} (hw : walkT T 0 l.dropLast = (0, m)) (hd : isDirT T m = false) : placeT T path = (6, 0, ByteArray.empty) := by
  unfold placeT; rw [h]
  show (if l = [] then _ else _) = _
  rw [if_neg hl, hw, if_neg (by simp), if_neg (by simp [hd])]
theorem placeT_dir {path : ByteArray} {l : List ByteArray} (h : namesOf path = some l) (hl : l ≠ []) {m : Int} (hw : walkT T 0 l.dropLast = (0, m)) (hd : isDirT T m = true) : placeT T path = (0, m, l.getLastD ByteArray.empty) := by
  unfold placeT; rw [h]
  show (if l = [] then _ else _) = _
  rw [if_neg hl, hw, if_neg (by simp), if_pos hd]
set_option maxHeartbeats 2000000 in
set_option maxRecDepth 100000 in
theorem place_is (h : TreeIn w tb nm T B D) (hok : TOk T) (path : ByteArray) (hs : path.size < 4294967281) :
    Calls Tryz.prog 113 #[.pointer (some ⟨tb, 0, none⟩), .string path] w (PlaceIs T D path w) := by
  have H := hid h
  have HOk := hid hok
  have HP := hid (parts_is path hs w)
  clear h hok
  go_enter Tryz.func113, Tryz.ntmps113
  go_wp2_with fail
  refine HP.out.mono ?_
  rintro e w1 ⟨⟨hn, rfl⟩ | ⟨l, a, cap, hn, rfl, hl, hcap⟩, t1⟩
  · have hp := placeT_none (T := T) hn
    have HT := hid t1
    clear t1 hn
    go_wp2_with fail
    go_returns
    unfold PlaceIs
    rw [hp]
    exact ⟨.inl ⟨by simp, rfl⟩, HT.out⟩
  · have HT := hid t1
    by_cases h0 : l = []
    · subst h0
      have hp := placeT_root (T := T) hn
      clear t1 hn hl
      go_wp2_with fail
      go_returns
      unfold PlaceIs
      rw [hp]
      exact ⟨.inl ⟨by simp, rfl⟩, HT.out⟩
    · have hlen := namesOf_length hn
      have h1 : 1 ≤ l.length := List.length_pos_iff.2 h0
      have hcp := hcap h0
      have hin := H.out.turned t1 (fun _ _ => id)
      have HIn := hid hin
      have htk : l.take (l.length - 1) = l.dropLast := List.dropLast_eq_take.symm
      have hl2 := hl.take (l.length - 1)
      rw [htk] at hl2
      obtain ⟨R, hR⟩ : ∃ R, walkT T 0 l.dropLast = R := ⟨_, rfl⟩
      have HR := hid hR
      have HW : Hid (∀ cap, Calls Tryz.prog 115 #[.pointer (some ⟨tb, 0, none⟩), .slice a (l.length - 1 : Nat) cap] w1 fun e w' => e = .returned (.tuple #[.int .i64 R.2, TErr R.1]) ∧ w' = w1) := hid (fun cap => by
        have h3 := walk_is hin HOk.out cap hl2 (by rw [List.length_dropLast]; omega)
        rw [hR, List.length_dropLast] at h3
        exact h3)
      obtain ⟨g, off, rfl, _, hc0⟩ := hl.resolve_left h0
      have hlast : ∃ s, l[l.length - 1]? = some s ∧ l.getLastD ByteArray.empty = s := ⟨_, List.getElem?_eq_getElem (by omega), by rw [List.getLastD_eq_getLast?, List.getLast?_eq_getElem?, List.getElem?_eq_getElem (by omega)]; rfl⟩
      obtain ⟨s, hs1, hs2⟩ := hlast
      have hc := hc0 _ s hs1
      have h0' : ((l.length : Int) == 0) = false := beq_eq_false_iff_ne.2 (by omega)
      have HN := hid hn
      have HS2 := hid hs2
      obtain ⟨k, hk⟩ : ∃ k, l.length - 1 = k := ⟨_, rfl⟩
      have hk1 : l.length = k + 1 := by omega
      have hsub : wrap64 ((l.length : Int) - 1) = k := by rw [IntWalk.wrap64_in _ (by omega)]; omega
      rw [hk] at HW hc
      have h00 := hid h0
      clear hl hl2 hc0 hs1 hs2 htk hR hin t1 hn h0 hk hcap
      go_wp2_with fail
      refine (HW.out cap).mono ?_
      rintro e w2 ⟨rfl, hw⟩; subst w2
      obtain ⟨z, m⟩ := R
      by_cases hz : z = 0
      · subst hz
        have hwk := HR.out
        obtain ⟨p0, hp0, _⟩ := HOk.out.root
        obtain ⟨q, hq⟩ := walkT_there HOk.out _ 0 p0 hp0 (by rw [hwk])
        rw [hwk] at hq
        simp only at hq
        have nd := HIn.out.nd m q hq
        have c0 := nd.c0
        have hh := HIn.out.hdr
        have lk := HIn.out.look hq
        have mno := map_some_nil (D m) w1
        have myes := map_nil_nil w1
        have te : TErr 0 = .nilIface := rfl
        have HQ := hid hq
        cases hd : q.isDir with
        | false =>
          rw [hd] at c0
          simp only [Bool.false_eq_true, if_false] at c0
          have hpl := placeT_file HN.out h00.out hwk (by unfold isDirT; rw [hq]; exact hd)
          have HPl := hid hpl
          clear nd hq hwk hp0 hpl hd
          go_wp2_with fail
          go_returns
          unfold PlaceIs
          rw [HPl.out]
          exact ⟨.inl ⟨by simp, rfl⟩, HT.out⟩
        | true =>
          rw [hd] at c0
          simp only [if_true] at c0
          have hpl := placeT_dir HN.out h00.out hwk (by unfold isDirT; rw [hq]; exact hd)
          rw [HS2.out] at hpl
          have HPl := hid hpl
          have HD := hid hd
          clear nd hq hwk hp0 hpl hd
          go_wp2_with fail
          have hq1 : (k : Int) < ((k + 1 : Nat) : Int) := by omega
          have hq2 : IntKind.i64.wrap (((k + 1 : Nat) : Int) - 1) = (k : Int) := by rw [IntWalk.i64_in _ (by omega)]; omega
          generalize hkk : k + 1 = N at *
          have hkn : k < N := by omega
          have hk0 : ¬ (k : Int) < 0 := by omega
          clear hsub h1 hcp hlen hkk
          go_quiet (fail)
          go_wp2_with fail
          go_returns
          exact ⟨.inr ⟨m, q, s, HPl.out, HQ.out, HD.out, rfl⟩, HT.out.drewN _⟩
      · have te := TErr_of hz
        have hpl := placeT_err HN.out h00.out HR.out hz
        have HPl := hid hpl
        have HZ := hid hz
        clear hpl hz
        go_wp2_with fail
        go_returns
        unfold PlaceIs
        rw [HPl.out]
        exact ⟨.inl ⟨HZ.out, by rw [TErr_of HZ.out]; rfl⟩, HT.out⟩
/-- A file, or what is wrong. -/
def fileE (T : PT) (n : Int) : Int := (mget T n).elim 7 fun p => if p.isDir then 6 else 0
theorem fileE_none (h : mget T n = none) : fileE T n = 7 := by unfold fileE; rw [h]; rfl
theorem fileE_dir (h : mget T n = some p) (hd : p.isDir = true) : fileE T n = 6 := by unfold fileE; rw [h]; show (if p.isDir then _ else _) = _; rw [hd]; rfl
theorem fileE_file (h : mget T n = some p) (hd : p.isDir = false) : fileE T n = 0 := by unfold fileE; rw [h]; show (if p.isDir then _ else _) = _; rw [hd]; rfl
/-- What file hands back. -/
def FileIs (T : PT) (B : Int → Nat) (n : Int) (w : World) (e : Ending) (w' : World) : Prop :=
  ((fileE T n ≠ 0 ∧ e = .returned (.tuple #[.pointer none, TErr (fileE T n)])) ∨ ∃ p, mget T n = some p ∧ p.isDir = false ∧ fileE T n = 0 ∧ e = .returned (.tuple #[.pointer (some ⟨B n, 0, none⟩), .nilIface])) ∧ w' = w
theorem file_is (h : TreeIn w tb nm T B D) (n : Int) : Calls Tryz.prog 96 #[.pointer (some ⟨tb, 0, none⟩), .int .i64 n] w (FileIs T B n w) := by
  have hh := h.hdr
  cases hn : mget T n with
  | none =>
    have lk := h.looknone hn
    have hf := fileE_none hn
    clear h hn
    go_enter Tryz.func96, Tryz.ntmps96
    go_wp2_with fail
    go_returns
    unfold FileIs
    rw [hf]
    exact ⟨.inl ⟨by simp, rfl⟩, rfl⟩
  | some p =>
    have lk := h.look hn
    have c0 := (h.nd n p hn).c0
    have mno := fun d => map_some_nil d w
    have myes := map_nil_nil w
    have mno2 := map_some_ne (D n) w
    have myes2 := map_nil_ne w
    cases hd : p.isDir with
    | true =>
      rw [hd] at c0
      simp only [if_true] at c0
      have hf := fileE_dir hn hd
      clear h hn hd
      go_enter Tryz.func96, Tryz.ntmps96
      go_wp2_with fail
      go_returns
      unfold FileIs
      rw [hf]
      exact ⟨.inl ⟨by simp, rfl⟩, rfl⟩
    | false =>
      rw [hd] at c0
      simp only [Bool.false_eq_true, if_false] at c0
      have hf := fileE_file hn hd
      clear h
      go_enter Tryz.func96, Tryz.ntmps96
      go_wp2_with fail
      go_returns
      exact ⟨.inr ⟨p, hn, hd, hf, rfl⟩, rfl⟩
theorem nodes_is (h : TreeIs w tb T F) : Calls Tryz.prog 35 #[.pointer (some ⟨tb, 0, none⟩)] w fun e w' => e = .returned (.int .i64 (T.length : Int)) ∧ w' = w := by
  obtain ⟨nm, B, D, hin, hok, _⟩ := h
  have hh := hin.hdr
  have hl : ∀ ty, (Builtin.len_ #[169] ty #[.map (some nm)]).run Tryz.prog w = .ok (.int .i64 T.length) w := fun ty => by
    have h1 := hin.mp.run_len Tryz.underlying169 ty
    unfold keysB at h1
    rw [List.length_map] at h1
    exact h1
  have hsz := hok.size
  clear hin hok
  go_enter Tryz.func35, Tryz.ntmps35
  go_wp2_with fail
  go_returns
  exact ⟨rfl, rfl⟩
end
end Go.Proofs.YtiohpmcedfbcgacGreatDoor
/- The document's tree: which names a path has. Conditions: each theorem's own premises. -/
namespace Go.Proofs.YtiohpmcedfbcgacGreatDoor
open Go.RowKit
set_option linter.unusedVariables false
/-- What Names hands back. -/
def NamesIs (path : ByteArray) (w : World) (e : Ending) (w' : World) : Prop :=
  ((namesOf path = none ∧ e = .returned (.tuple #[.slice none 0 0, .bool false])) ∨ ∃ l a cap, namesOf path = some l ∧ e = .returned (.tuple #[.slice a l.length cap, .bool true]) ∧ StrsIn w' a l ∧ (l ≠ [] → l.length ≤ cap)) ∧ Turn (fun _ => False) w w'
theorem inR_yes (n lo hi : Int) (h1 : lo ≤ n) (h2 : n ≤ hi) (w : World) : Calls Tryz.prog 168 #[.int .i64 n, .int .i64 lo, .int .i64 hi] w fun e w' => e = .returned (.bool true) ∧ w' = w := by
  go_enter Tryz.func168, Tryz.ntmps168
  go_wp2
  go_ret
  exact ⟨rfl, rfl⟩
theorem inR_no (n lo hi : Int) (h : ¬ (lo ≤ n ∧ n ≤ hi)) (w : World) : Calls Tryz.prog 168 #[.int .i64 n, .int .i64 lo, .int .i64 hi] w fun e w' => e = .returned (.bool false) ∧ w' = w := by
  by_cases h1 : lo ≤ n
  · have h2 : ¬ n ≤ hi := fun h2 => h ⟨h1, h2⟩
    clear h
    go_enter Tryz.func168, Tryz.ntmps168
    go_wp2
    go_ret
    exact ⟨by simp; try omega, rfl⟩
  · clear h
    go_enter Tryz.func168, Tryz.ntmps168
    go_wp2
    go_ret
    exact ⟨by simp; try omega, rfl⟩
theorem root_led {path : ByteArray} (h : (path.toList == [47]) = true) : namesOf path = some [] := by
  have h1 : path.toList = [47] := beq_iff_eq.1 h
  have h2 : path.data.toList = [47] := by rw [← ByteArray.toList_eq]; exact h1
  exact namesOf_root (by unfold led Go.Lib.hasPrefix; rw [h2]; rfl) (by rw [Go.Lib.size_eq, h2]; rfl)
theorem unroot_led {path : ByteArray} (h : (path.toList == [47]) = false) (hl : led path = true) : path.size ≠ 1 := fun hs => by
  have h1 : path.data.toList.length = 1 := by rw [← Go.Lib.size_eq]; exact hs
  unfold led Go.Lib.hasPrefix at hl
  rw [ByteArray.toList_eq] at h
  cases e : path.data.toList with
  | nil => rw [e] at h1; cases h1
  | cons a t =>
    rw [e] at h1 hl h
    have ht : t = [] := List.length_eq_zero_iff.1 (by simpa using h1)
    subst ht
    have ha : 47 = a := by simpa using hl
    rw [← ha] at h
    exact absurd h (by decide)
set_option maxHeartbeats 2000000 in
set_option maxRecDepth 100000 in
theorem names_is (path : ByteArray) (hs : path.size < 4294967281) (w : World) : Calls Tryz.prog 212 #[.string path] w (NamesIs path w) := by
  cases hr : (path.toList == [47]) with
  | true =>
    have hn := root_led hr
    go_enter Tryz.func212, Tryz.ntmps212
    go_wp2_with fail
    go_ret2
    exact ⟨.inr ⟨[], none, 0, hn, rfl, .inl rfl, fun h => absurd rfl h⟩, Turn.refl _ _⟩
  | false =>
    have HSp := hid (split_is path hs w)
    obtain ⟨L, hL⟩ : ∃ L, piecesOf path = L := ⟨_, rfl⟩
    have hlen := pieces_le path
    rw [hL] at HSp hlen
    cases hl : led path with
    | false =>
      have hn := namesOf_unled hl
      obtain ⟨x, l, hxl, hx⟩ := pieces_unled hl
      rw [hL] at hxl
      subst hxl
      have HN := hid hn
      by_cases h1 : 2 ≤ (x :: l).length
      · have hxs : x.toList.isEmpty = false := by
          rw [toList_empty]
          exact decide_eq_false (by rcases hx with hx | hx; omega; rw [hx] at h1; simp at h1)
        have h1' : ¬ ((x :: l).length : Int) < 2 := by omega
        clear hn hl hx hL
        go_enter Tryz.func212, Tryz.ntmps212
        go_wp2_with fail
        refine HSp.out.mono ?_
        rintro e w1 ⟨rfl, hw1⟩
        have HT : Hid (Turn (fun _ => False) w w1) := hid (by rw [hw1]; exact (Turn.refl _ _).alloc _)
        have hc : w1.cell? ⟨w.heap.size, 0, none⟩ = some (.string x) := by rw [hw1]; exact World.cell?_alloc_new _ _ _ _
        clear hw1
        obtain ⟨LL, hLL⟩ : ∃ LL, (x :: l).length = LL := ⟨_, rfl⟩
        rw [hLL] at h1 h1' ⊢
        clear hLL
        go_wp2_with fail
        go_ret2
        exact ⟨.inl ⟨HN.out, rfl⟩, HT.out⟩
      · have h1' : ((x :: l).length : Int) < 2 := by omega
        clear hn hl hx hL
        go_enter Tryz.func212, Tryz.ntmps212
        go_wp2_with fail
        refine HSp.out.mono ?_
        rintro e w1 ⟨rfl, hw1⟩
        have HT : Hid (Turn (fun _ => False) w w1) := hid (by rw [hw1]; exact (Turn.refl _ _).alloc _)
        clear hw1
        obtain ⟨LL, hLL⟩ : ∃ LL, (x :: l).length = LL := ⟨_, rfl⟩
        rw [hLL] at h1 h1' ⊢
        clear hLL
        go_wp2_with fail
        go_ret2
        exact ⟨.inl ⟨HN.out, rfl⟩, HT.out⟩
    | true =>
      have h1 := unroot_led hr hl
      obtain ⟨l, hpl⟩ : ∃ l, piecesOf (path.extract 1 path.size) = l := ⟨_, rfl⟩
      have hLl : L = ByteArray.empty :: l := by rw [← hL, pieces_led hl, hpl]
      have hne : l ≠ [] := by rw [← hpl]; exact pieces_ne _
      have hl1 : 1 ≤ l.length := by cases l with | nil => exact absurd rfl hne | cons a t => simp
      have HOk : Hid (l.all okName = true → namesOf path = some l) := hid (fun h => by
        have h2 := namesOf_ok hl h1 (by rw [hpl]; exact h)
        rw [hpl] at h2
        exact h2)
      have HBad : Hid (l.all okName = false → namesOf path = none) := hid (fun h => namesOf_bad hl h1 (by rw [hpl]; exact h))
      subst hLl
      have hll : (ByteArray.empty :: l).length = l.length + 1 := rfl
      rw [hll] at HSp hlen
      have hlen' : l.length + 1 ≤ 4294967282 := by omega
      clear h1 hpl hL hl hlen
      have hne2 : ¬ l = [] := hne
      go_enter Tryz.func212, Tryz.ntmps212
      go_wp2_with fail
      refine HSp.out.mono ?_
      rintro e w1 ⟨rfl, hw1⟩
      have HT : Hid (Turn (fun _ => False) w w1) := hid (by rw [hw1]; exact (Turn.refl _ _).alloc _)
      have hc0 : w1.cell? ⟨w.heap.size, 0, none⟩ = some (.string ByteArray.empty) := by rw [hw1]; exact World.cell?_alloc_new _ _ _ _
      have HCe : Hid (∀ (j : Nat) s, l[j]? = some s → w1.cell? ⟨w.heap.size, 1 + j, none⟩ = some (.string s)) := hid (fun j s hj => by
        rw [hw1]
        exact (World.cell?_alloc_new _ _ _ _).trans (by rw [Nat.add_comm]; simp [hj]))
      have HLt : Hid (w.heap.size < w1.heap.size) := hid (by rw [hw1, World.size_alloc]; omega)
      obtain ⟨g, hg⟩ : ∃ g, w.heap.size = g := ⟨_, rfl⟩
      rw [hg] at HCe hc0 HLt
      rw [hg]
      have hemp : ByteArray.empty.toList.isEmpty = true := by rw [toList_empty]; rfl
      clear hw1 HSp hg
      go_wp2_with fail
      go_loopg [23] l.length (fun gl i wr => ∃ k : Nat, k + gl = l.length ∧ i = .int .i64 k ∧ wr = w1 ∧ Hid ((l.take k).all okName = true))
      case atStart => exact ⟨0, by omega, rfl, rfl, hid rfl⟩
      case round =>
        obtain ⟨k, hk, rfl, rfl, hA⟩ := hrel
        by_cases hkl : k < l.length
        · have hkl' : (k : Int) < l.length := by omega
          obtain ⟨s, hs⟩ : ∃ s, l[k]? = some s := ⟨_, List.getElem?_eq_getElem hkl⟩
          have hc := HCe.out k s hs
          cases hok : okName s with
          | false =>
            have hno : namesOf path = none := HBad.out (by
              rw [List.all_eq_false]
              exact ⟨s, List.mem_of_getElem? hs, by rw [hok]; exact Bool.false_ne_true⟩)
            have HNo := hid hno
            have HOr := hid (okName_false hok)
            clear hs hok hno
            by_cases hin : (1 : Int) ≤ s.size ∧ (s.size : Int) ≤ 12
            · have HIn := hid (inR_yes (s.size : Int) 1 12 hin.1 hin.2 wr)
              have h34 : (s.toList == [46]) = true ∨ ((s.toList == [46]) = false ∧ (s.toList == [46, 46]) = true) := by
                rcases HOr.out with h1 | h1 | h1 | h1
                · rw [toList_empty] at h1
                  have := of_decide_eq_true h1
                  omega
                · omega
                · exact .inl h1
                · cases h2 : (s.toList == [46]) with
                  | true => exact .inl rfl
                  | false => exact .inr ⟨rfl, h1⟩
              clear hin
              rcases h34 with h3 | ⟨h3, h4⟩
              · go_wp2_with fail
                refine HIn.out.mono ?_
                rintro e w5 ⟨rfl, rfl⟩
                go_wp2_with fail
                go_ret2
                exact ⟨.inl ⟨HNo.out, rfl⟩, HT.out⟩
              · go_wp2_with fail
                refine HIn.out.mono ?_
                rintro e w5 ⟨rfl, rfl⟩
                go_wp2_with fail
                go_ret2
                exact ⟨.inl ⟨HNo.out, rfl⟩, HT.out⟩
            · have HIn := hid (inR_no (s.size : Int) 1 12 hin wr)
              clear hin
              go_wp2_with fail
              refine HIn.out.mono ?_
              rintro e w5 ⟨rfl, rfl⟩
              go_wp2_with fail
              go_ret2
              exact ⟨.inl ⟨HNo.out, rfl⟩, HT.out⟩
          | true =>
            obtain ⟨h1, h2, h3, h4⟩ := okName_true hok
            have hsz1 : 1 ≤ s.size := by
              rw [toList_empty] at h1
              have := of_decide_eq_false h1
              omega
            have HIn := hid (inR_yes (s.size : Int) 1 12 (by omega) (by omega) wr)
            have hA2 : (l.take (k + 1)).all okName = true := by
              rw [List.take_add_one, hs, List.all_append, hA.out]
              simp [hok]
            have HA2 := hid hA2
            clear hs hok hA2 h1 h2 hsz1
            go_wp2_with fail
            refine HIn.out.mono ?_
            rintro e w5 ⟨rfl, rfl⟩
            go_wp2_with fail
            go_roundg (gk - 1)
            case measure => omega
            case rel => exact ⟨k + 1, by omega, by go_num, rfl, HA2⟩
        · have hkl' : ¬ (k : Int) < l.length := by omega
          obtain rfl : k = l.length := by omega
          have hn := HOk.out (by have := hA.out; rwa [List.take_length] at this)
          have HN := hid hn
          clear hn
          go_wp2_with fail
          go_ret2
          refine ⟨.inr ⟨l, _, _, HN.out, rfl, .inr ⟨g, 1, rfl, HLt.out, HCe.out⟩, fun _ => ?_⟩, HT.out⟩
          omega
end Go.Proofs.YtiohpmcedfbcgacGreatDoor
