/- The document's tree in memory (the same plain tree); lead, Find, place. Conditions: each theorem's own premises. -/
import Derived.Test.YtiohpmcedfbcgacGreatDoorTree
import Derived.Test.YtiohpmcedfbcgacGreatDoorTreePlain
namespace Go.Proofs.YtiohpmcedfbcgacGreatDoor
open Go.RowKit
set_option linter.unusedVariables false
def rnodeV (x : Nat × PN) : Value := .agg #[.map (if x.2.isDir then some x.1 else none), .bool x.2.isDir, .string x.2.data, .int .i64 (x.2.held : Int)]
def rlist (D : Int → Nat) (T : PT) : List (Int × (Nat × PN)) := T.map fun t => (t.1, (D t.1, t.2))
structure RTreeIn (w : World) (rb nm : Nat) (T : PT) (D : Int → Nat) : Prop where
  hdr : w.cell? ⟨rb, 0, none⟩ = some (.map (some nm))
  mp : MapIs w nm (.int .i64) encI rnodeV (rlist D T)
  dir : ∀ n p, mget T n = some p → p.isDir = true → MapIs w (D n) .string encS encI p.ds
  dd : ∀ n m p q, mget T n = some p → mget T m = some q → p.isDir = true → q.isDir = true → n ≠ m → D n ≠ D m
  own : ∀ n p, mget T n = some p → p.isDir = true → D n ≠ rb ∧ D n ≠ nm
  ne : rb ≠ nm
def RFoot (rb nm : Nat) (T : PT) (D : Int → Nat) (k : Nat) : Prop := k = rb ∨ k = nm ∨ ∃ n p, mget T n = some p ∧ p.isDir = true ∧ k = D n
theorem rlist_get (D : Int → Nat) : ∀ (T : PT) (n : Int), mget (rlist D T) n = (mget T n).map fun p => (D n, p) := by
  intro T n
  unfold mget rlist
  induction T with
  | nil => rfl
  | cons t T ih =>
    rw [List.map_cons, List.find?_cons, List.find?_cons]
    by_cases e : t.1 = n
    · simp only [e, decide_true]; rfl
    · simp only [e, decide_false]; exact ih
section
variable {w w' : World} {rb nm : Nat} {T : PT} {D : Int → Nat} {p : PN} {n : Int}
theorem RTreeIn.turned {S : Nat → Prop} (h : RTreeIn w rb nm T D) (t : Turn S w w') (hn : ∀ k, RFoot rb nm T D k → ¬ S k) : RTreeIn w' rb nm T D :=
  { h with
    hdr := (t.cell (a := ⟨rb, 0, none⟩) (lt_of_cell h.hdr) (hn rb (.inl rfl))).trans h.hdr
    mp := h.mp.turned t (hn nm (.inr (.inl rfl)))
    dir := fun n p hp hd => (h.dir n p hp hd).turned t (hn _ (.inr (.inr ⟨n, p, hp, hd, rfl⟩))) }
theorem zeroRNode (w : World) : (zeroValue 179).run Tryz.prog w = .ok (.agg #[.map none, .bool false, .string ⟨#[]⟩, .int .i64 0]) w := by kernel_rfl
theorem RTreeIn.look (h : RTreeIn w rb nm T D) (hn : mget T n = some p) : (Instr.lookup 61 (.map (some nm)) (.int .i64 n) false).run Tryz.prog w = .ok (.agg #[.map (if p.isDir then some (D n) else none), .bool p.isDir, .string p.data, .int .i64 (p.held : Int)]) w := by
  have h1 := h.mp.run_lookup keyI Tryz.underlying61 Tryz.underlying3 (zeroRNode w) n false
  refine h1.trans ?_
  rw [rlist_get, hn]
  rfl
theorem RTreeIn.looknone (h : RTreeIn w rb nm T D) (hn : mget T n = none) : (Instr.lookup 61 (.map (some nm)) (.int .i64 n) false).run Tryz.prog w = .ok (.agg #[.map none, .bool false, .string ⟨#[]⟩, .int .i64 0]) w := by
  have h1 := h.mp.run_lookup keyI Tryz.underlying61 Tryz.underlying3 (zeroRNode w) n false
  refine h1.trans ?_
  rw [rlist_get, hn]
  rfl
theorem rfld0 (a : Option Nat) (b : Bool) (c : ByteArray) (d : Int) (w : World) : (Instr.field 179 (.agg #[.map a, .bool b, .string c, .int .i64 d]) 0).run Tryz.prog w = .ok (.map a) w := by kernel_rfl
theorem rfld1 (a : Option Nat) (b : Bool) (c : ByteArray) (d : Int) (w : World) : (Instr.field 179 (.agg #[.map a, .bool b, .string c, .int .i64 d]) 1).run Tryz.prog w = .ok (.bool b) w := by kernel_rfl
theorem rlook_name {ds : List (ByteArray × Int)} {d : Nat} (h : MapIs w d .string encS encI ds) (s : ByteArray) : (Instr.lookup 166 (.map (some d)) (.string s) true).run Tryz.prog w = .ok (.tuple #[.int .i64 ((mget ds s).getD 0), .bool (mget ds s).isSome]) w := look_name h s
set_option maxHeartbeats 2000000 in
set_option maxRecDepth 100000 in
theorem lead_is (h : RTreeIn w rb nm T D) (hok : TOk T) {a : Option Addr} {l : List ByteArray} (cap : Nat) (hl : StrsIn w a l) (hn : l.length ≤ 4294967281) :
    Calls Tryz.prog 213 #[.pointer (some ⟨rb, 0, none⟩), .slice a l.length cap] w fun e w' => e = .returned (.tuple #[.int .i64 (walkT T 0 l).2, .int .i64 (walkT T 0 l).1]) ∧ w' = w := by
  have H := hid h
  have HOk := hid hok
  have HL := hid hl
  have hh := h.hdr
  obtain ⟨p0, hp0, _⟩ := hok.root
  have HP0 := hid hp0
  obtain ⟨R, hR⟩ : ∃ R, walkT T 0 l = R := ⟨_, rfl⟩
  rw [hR]
  have HR := hid hR
  have f0 := @rfld0
  have f1 := @rfld1
  clear h hok hl hp0 hR
  go_enter Tryz.func213, Tryz.ntmps213
  go_wp2_with fail
  go_loopg [6, 13] l.length (fun gl at_ i wr => ∃ (k : Nat) (m : Int) (p : PN), k + gl = l.length ∧ i = .int .i64 k ∧ at_ = .int .i64 m ∧ Hid (mget T m = some p) ∧ Hid (walkT T m (l.drop k) = R) ∧ wr = w)
  case atStart => exact ⟨0, 0, p0, by omega, rfl, rfl, HP0, hid (by rw [List.drop_zero]; exact HR.out), rfl⟩
  case round =>
    obtain ⟨k, m, p, hk, rfl, rfl, hm, hw, hwr⟩ := hrel
    subst wr
    by_cases hkl : k < l.length
    · have hkl' : (k : Int) < l.length := by omega
      obtain ⟨s, hs⟩ : ∃ s, l[k]? = some s := ⟨_, List.getElem?_eq_getElem hkl⟩
      have hdr : l.drop k = s :: l.drop (k + 1) := by
        rw [List.drop_eq_getElem_cons hkl]
        congr 1
        rw [List.getElem?_eq_getElem hkl] at hs
        exact Option.some.inj hs
      obtain ⟨g, off, rfl, _, hc0⟩ := HL.out.resolve_left (by rintro rfl; simp at hkl)
      have hc := hc0 k s hs
      have lk := H.out.look hm.out
      cases hd : p.isDir with
      | false =>
        have hf : R = (6, 0) := by
          have h1 := hw.out
          rw [hdr, walkT_file hm.out hd] at h1
          exact h1.symm
        rw [hd] at lk
        simp only [Bool.false_eq_true, if_false] at lk
        subst hf
        clear hc0 hs hdr hd
        go_wp2_with fail
        go_ret2
        exact ⟨rfl, rfl⟩
      | true =>
        rw [hd] at lk
        simp only [if_true] at lk
        have ln := look_name (H.out.dir m p hm.out hd) s
        cases hms : mget p.ds s with
        | none =>
          have hf : R = (7, 0) := by
            have h1 := hw.out
            rw [hdr, walkT_miss hm.out hd hms] at h1
            exact h1.symm
          rw [hms] at ln
          simp only [Option.getD_none, Option.isSome_none] at ln
          subst hf
          clear hc0 hs hdr hd hms
          go_wp2_with fail
          go_ret2
          exact ⟨rfl, rfl⟩
        | some m2 =>
          have hf := hw.out
          rw [hdr, walkT_hit hm.out hd hms] at hf
          rw [hms] at ln
          simp only [Option.getD_some, Option.isSome_some] at ln
          obtain ⟨q, hq⟩ := HOk.out.link m p hm.out s m2 hms
          have HF := hid hf
          have HQ := hid hq
          clear hc0 hs hdr hd hms hf hq
          go_wp2_with fail
          go_roundg (gk - 1)
          case measure => omega
          case rel => exact ⟨k + 1, m2, q, by omega, by go_num, rfl, HQ, HF, rfl⟩
    · have hkl' : ¬ (k : Int) < l.length := by omega
      obtain rfl : k = l.length := by omega
      have hf : R = (0, m) := by
        have h1 := hw.out
        rw [List.drop_length] at h1
        exact h1.symm
      subst hf
      go_wp2_with fail
      go_ret2
      exact ⟨rfl, rfl⟩
theorem names_len {path : ByteArray} {l : List ByteArray} (h : namesOf path = some l) (hs : path.size < 4294967281) : l.length ≤ 4294967281 := by
  have := namesOf_length h
  omega
set_option maxRecDepth 100000 in
theorem rfind_is (h : RTreeIn w rb nm T D) (hok : TOk T) (path : ByteArray) (hs : path.size < 4294967281) :
    Calls Tryz.prog 98 #[.pointer (some ⟨rb, 0, none⟩), .string path] w fun e w' => e = .returned (.tuple #[.int .i64 (findT T path).2, .int .i64 (findT T path).1]) ∧ Turn (fun _ => False) w w' := by
  have HN := hid (names_is path hs w)
  have H := hid h
  have HOk := hid hok
  clear h hok
  go_enter Tryz.func98, Tryz.ntmps98
  go_wp2_with fail
  refine HN.out.mono ?_
  rintro e w1 ⟨⟨hno, rfl⟩ | ⟨l, a, cap, hl, rfl, hin, hcap⟩, t1⟩
  · have HE : Hid (findT T path = (1, 0)) := hid (by unfold findT; rw [hno]; rfl)
    have HT1 := hid t1
    clear t1 hno
    go_wp2_with fail
    go_ret2
    rw [HE.out]
    exact ⟨rfl, HT1.out⟩
  · have HLd := hid (lead_is (H.out.turned t1 (fun _ _ => id)) HOk.out cap hin (names_len hl hs))
    have HE : Hid (findT T path = walkT T 0 l) := hid (by unfold findT; rw [hl]; rfl)
    have HT1 := hid t1
    clear t1 hin hl
    go_wp2_with fail
    refine HLd.out.mono ?_
    rintro e w2 ⟨rfl, rfl⟩
    go_wp2_with fail
    go_ret2
    rw [HE.out]
    exact ⟨rfl, HT1.out⟩
end
end Go.Proofs.YtiohpmcedfbcgacGreatDoor
