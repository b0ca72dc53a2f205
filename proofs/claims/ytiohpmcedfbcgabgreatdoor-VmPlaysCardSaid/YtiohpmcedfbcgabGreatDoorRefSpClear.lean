/- Several texts of ours in one, in build order (RefSpClear, RefMemNew, VmJoint, VmBoth). Conditions: each theorem's own premises. -/
import Derived.Test.YtiohpmcedfbcgabGreatDoorVmAll
import Derived.Test.YtiohpmcedfbcgabGreatDoorMapRange
/- The document's spaces: Clear, NewMem. Conditions: each theorem's own premises. -/
namespace Go.Proofs.YtiohpmcedfbcgabGreatDoor
open Go.RowKit Go.MapKept
set_option linter.unusedVariables false

section
variable {κ β : Type} [DecidableEq κ] {d : TypeDesc} {enc : κ → Value} {val : β → Value} {w : World} {mb r cnt : Nat} {m : List (κ × β)} {P : Program} {seenK : κ → Prop} {ops : Array Oper} {rest : List Oper} {o : Oper} {a : Act} {Q : Exit → Act → World → Prop}
theorem wpList_rangedel (hg : o.guard = none) (mo x : Operand) (T kt et : TypeId) (hop : o.op = Op.call { callee := Callee.builtin Builtin.delete, args := #[mo, x], argTypes := #[T, kt] }) (hT : P.underlying T = some (.map kt et)) (hd : P.underlying kt = some d) (K : KeyEnc d enc)
    (hm : a.eval mo = .map (some mb)) (h : RangeOf w mb r enc val m seenK cnt) (k : κ) (hx : a.eval x = enc k) (v0 : β) (hk : mget m k = some v0) (hs : seenK k)
    (hK : ∀ w', RangeOf w' mb r enc val (mdel m k) seenK cnt → MapIs w' mb d enc val (mdel m k) → Turn (fun j => j = mb) w w' → wpList P ops Q rest (a.put o.dst (.tuple #[])) w') : wpList P ops Q (o :: rest) a w := by
  refine wpList_plain hg fun K' hK' => ?_
  obtain ⟨w', hrun, r1, r2, r3⟩ := h.run_delete (ty := o.type) K hT hd k v0 hk hs
  unfold Oper.wp
  simp [execOp, hop, resolve, invoke, builtin, hm, hx, hrun, Result.andThen]
  exact hK' _ _ (hK w' r1 r2 r3)
end
section
variable {w w' w1 w2 w3 : World} {qm rb rm : Nat} {Q Q' : Int → Option Qg} {n nx : Int} {rl rl1 rl2 : List (Int × Nat)} {O : Int → Nat}
theorem setQ_none (ml : List (Int × Qg)) (i : Int) : setQ (mget ml) i none = mget (mdel ml i) := by
  funext j
  rw [mget_mdel]
  rfl
def RCleared (rb rm : Nat) (n nx : Int) (qm : Nat) (O : Int → Nat) (w : World) (e : Ending) (w' : World) : Prop :=
  e = .returned (.tuple #[]) ∧ ∃ rl', QAfter rb rm n nx qm O w w' (fun _ => none) rl'
set_option maxHeartbeats 2000000 in
set_option maxRecDepth 100000 in
theorem rclear_is (h : QOne w rb rm n nx rl qm Q O) :
    Calls Tryz.prog 23 #[.map (some qm), .pointer (some ⟨rb, 0, none⟩)] w (RCleared rb rm n nx qm O w) := by
  have H := hid h
  obtain ⟨pl, hpl, he⟩ := h.sp.pages
  have HPl := hid hpl
  have HE : Hid (mget pl = Q) := hid (funext he)
  clear h hpl he
  go_enter Tryz.func23, Tryz.ntmps23
  go_wp2_with (at_range; refine wpList_maprange rfl _ _ 3 147 rfl Tryz.underlying42 rfl HPl.out ?_; intro w2 hR2 t2 hs2; have HR2 := hid hR2; have HT2 := hid t2; clear hR2 t2 hs2)
  obtain ⟨r, hrr⟩ : ∃ r, w.heap.size = r := ⟨_, rfl⟩
  rw [hrr] at HR2
  rw [hrr]
  have HWr := hid hrr
  have HRne : Hid (r ≠ rb ∧ r ≠ rm ∧ r ≠ qm) := hid (by
    have h1 := lt_of_cell H.out.mem.c0
    have h2 := H.out.mem.refs.lt
    have h3 := HPl.out.lt
    simp only at h1
    exact ⟨by omega, by omega, by omega⟩)
  clear hrr
  go_frame
  go_loopg [] (pl.length) (fun g wr => ∃ (seenK : Int → Prop) (ml : List (Int × Qg)) (rl' : List (Int × Nat)), Hid (RangeOf wr qm r encI encQ ml seenK g) ∧ Hid (∀ i, seenK i → mget ml i = none) ∧ Hid (QAfter rb rm n nx qm O w wr (mget ml) rl'))
  case atStart => exact ⟨_, pl, rl, HR2, hid (fun i h => h.elim), hid (by rw [HE.out]; exact H.out.same HT2.out)⟩
  case round =>
    clear HR2 HT2
    obtain ⟨seenK, ml, rl', hRg, hSeen, hA⟩ := hrel
    have HND : Hid (MNodup ml) := hid (by obtain ⟨_, _, _, _, _, _, _, _, h4, _⟩ := hRg.out; exact h4)
    go_wp2_with (at_next; refine wpList_mapnext rfl _ rfl rfl hRg.out ?_ ?_)
    · intro hall
      have HNil : Hid (mget ml = fun _ => none) := hid (funext fun i => by
        cases e : mget ml i with
        | none => rfl
        | some q =>
          have h1 := mem_of_mget e
          have h2 := hSeen.out i (hall i q.1 q.2.1 q.2.2 h1)
          rw [e] at h2; cases h2)
      clear hall hRg hSeen
      go_wp2_with fail
      go_end0
      exact ⟨rfl, rl', by rw [← HNil.out]; exact hA.out⟩
    · intro i q1 qw f w5 cnt' hpm hns hR5 hlt5 t5 hsz5 hen
      (try simp only at hns hen)
      have HG : Hid (mget ml i = some (q1, qw, f)) := hid (mget_mem HND.out hpm)
      have TA := (t5.alloc (pageObj q1 qw f))
      have hq6 := hA.out.1.turned TA (fun e => HRne.out.1 e.symm) (fun e => HRne.out.2.1 e.symm) (fun e => HRne.out.2.2 e.symm)
      have HQ6 := hid hq6
      have HT6 := hid (hA.out.2.trans' TA (fun k hk e => by have := HWr.out; omega))
      have HR6 := hid (hR5.turned ((Turn.refl (fun _ => False) w5).alloc (pageObj q1 qw f)) id id)
      have HLs := hid (less_is hq6.mem f (fun h0 => hq6.held HG.out h0))
      unfold encQ at hen
      unfold pageObj at HQ6 HT6 HR6 HLs
      clear hpm hns hR5 t5 TA hq6 hRg hsz5
      go_wp2_with fail
      refine HLs.out.mono ?_
      rintro e w7 ⟨rfl, r7, hm7, hR7, t7⟩
      have HM7 := hid hm7
      have HRR := hid hR7
      have HT7 := hid t7
      have HR7 := hid (HR6.out.turned t7 HQ6.out.ne.2 HRne.out.2.1)
      clear hm7 hR7 t7 HLs
      go_wp2_with (at_delete; refine wpList_rangedel rfl _ _ 42 3 147 rfl Tryz.underlying42 Tryz.underlying3 keyI rfl HR7.out i rfl (q1, qw, f) HG.out (.inr rfl) ?_; intro w8 hr8 hm8 t8; have HR8 := hid hr8; have HM8 := hid hm8; have HT8 := hid t8; clear hr8 hm8 t8)
      go_roundg cnt'
      case measure => omega
      case rel =>
        have hl := HQ6.out.lost HG.out HM7.out HRR.out HT7.out HT8.out (fun _ => rfl) HM8.out
        rw [setQ_none] at hl
        refine ⟨_, mdel ml i, r7, HR8, hid (fun j hj => ?_), hid ⟨hl.1, HT6.out.trans hl.2⟩⟩
        rw [mget_mdel]
        by_cases e : j = i
        · rw [if_pos e]
        · rw [if_neg e]
          rcases hj with hj | hj
          · exact hSeen.out j hj
          · exact absurd hj e
end
end Go.Proofs.YtiohpmcedfbcgabGreatDoor
/- The document's frames: NewMem. Conditions: each theorem's own premises. -/
namespace Go.Proofs.YtiohpmcedfbcgabGreatDoor
open Go.RowKit Go.MapKept
set_option linter.unusedVariables false

section
variable {w w' : World} {rb rm : Nat} {n : Int}
theorem RSp.made (w : World) : RSp (w.alloc (.map #[] 0)) w.heap.size (fun _ => none) :=
  ⟨⟨[], MapIs.made w, fun i => rfl⟩, fun i q h => (by cases h), fun i q h => (by cases h)⟩
def RMade (n : Int) (w : World) (e : Ending) (w' : World) : Prop :=
  ∃ rb rm : Nat, e = .returned (.pointer (some ⟨rb, 0, none⟩)) ∧ w.heap.size ≤ rb ∧ w.heap.size ≤ rm ∧ RMem w' rb rm n 0 [] ∧ Turn (fun _ => False) w w'
set_option maxHeartbeats 1000000 in
theorem rnewMem_is (n : Int) (hn : n ≤ 256) (w : World) : Calls Tryz.prog 11 #[.int .i64 n] w (RMade n w) := by
  have hmm := @run_makeMap Tryz.prog
  go_enter Tryz.func11, Tryz.ntmps11
  go_wp2_with fail
  go_ret
  refine ⟨_, w.heap.size, rfl, by simp, Nat.le_refl _, ⟨by simp, by simp, by simp, by simp, (MapIs.made w).turned ((Turn.refl (fun _ => False) _).alloc _) id, fun f k h => (by cases h), fun f k h => (by cases h), by omega, by simp, hn⟩, ((Turn.refl _ _).alloc _).alloc _⟩
end
end Go.Proofs.YtiohpmcedfbcgabGreatDoor
/- Package vm's pages beside the document's: the plain relation (no program walked here). Conditions: each theorem's own premises. -/
namespace Go.Proofs.YtiohpmcedfbcgabGreatDoor
set_option linter.unusedVariables false

/-- One page beside the document's: what for, which frame (φ: from the document's numbers to the program's), its words. -/
def OneJ (φ : Int → Int) (m : Nat → Nat → Int) : Option Pg → Option Qg → Prop
  | none, none => True
  | some p, some q => p.1 = q.1 ∧ (q.2.2 = 0 → p.2 < 0 ∧ ∀ w, w < 8 → q.2.1 w = 0) ∧ (q.2.2 ≠ 0 → 0 ≤ p.2 ∧ p.2 = φ q.2.2 ∧ ∀ w, w < 8 → m p.2.toNat w = q.2.1 w)
  | _, _ => False
def PagesJ (φ : Int → Int) (m : Nat → Nat → Int) (P : Int → Option Pg) (Q : Int → Option Qg) : Prop := ∀ i, OneJ φ m (P i) (Q i)
theorem OneJ.some_iff {φ : Int → Int} {m : Nat → Nat → Int} {p : Option Pg} {q : Option Qg} (h : OneJ φ m p q) : p.isSome = q.isSome := by
  cases p <;> cases q <;> first | rfl | exact h.elim
theorem OneJ.prot {φ : Int → Int} {m : Nat → Nat → Int} {p : Option Pg} {q : Option Qg} (h : OneJ φ m p q) : p.map (·.1) = (q.map pgQ).map (·.1) := by
  cases p <;> cases q <;> first | rfl | exact h.elim | exact congrArg some h.1
/-- Where φ keeps the live frames apart, each frame of the document's is held as often as its image. -/
theorem PagesJ.count {φ : Int → Int} {m : Nat → Nat → Int} {P : Int → Option Pg} {Q : Int → Option Qg} (h : PagesJ φ m P Q) {g : Int} (hg : g ≠ 0) (hpos : 0 ≤ φ g)
    (hinj : ∀ i q, Q i = some q → q.2.2 ≠ 0 → φ q.2.2 = φ g → q.2.2 = g) : cntF P (φ g) = cntF (pgs Q) g := by
  refine sumN_congr fun i _ => ?_
  have h1 := h (i : Int)
  unfold pgs
  have h2 := hinj (i : Int)
  cases e1 : P (i : Int) with
  | none =>
    cases e2 : Q (i : Int) with
    | none => rfl
    | some q => rw [e1, e2] at h1; exact h1.elim
  | some p =>
    cases e2 : Q (i : Int) with
    | none => rw [e1, e2] at h1; exact h1.elim
    | some q =>
      rw [e1, e2] at h1
      rw [e2] at h2
      show (if p.2 = φ g then 1 else 0) = if q.2.2 = g then 1 else 0
      by_cases hz : q.2.2 = 0
      · have h3 := h1.2.1 hz
        rw [if_neg (by omega), if_neg (by omega)]
      · have h3 := h1.2.2 hz
        by_cases hq : q.2.2 = g
        · rw [if_pos hq, if_pos (by rw [h3.2.1, hq])]
        · rw [if_neg hq, if_neg (fun e => hq (h2 q rfl hz (by rw [← h3.2.1, e])))]
section
variable {φ : Int → Int} {m m' : Nat → Nat → Int} {P : Int → Option Pg} {Q : Int → Option Qg}
theorem PagesJ.isSome (h : PagesJ φ m P Q) (i : Int) : (P i).isSome = (pgs Q i).isSome := by
  have h1 := (h i).some_iff
  unfold pgs
  rw [h1]
  cases Q i <;> rfl
theorem PagesJ.there (h : PagesJ φ m P Q) (a : Int) (k : Nat) : thereN P a k = thereN (pgs Q) a k := by
  unfold thereN
  congr 1
  funext j
  exact h.isSome _
theorem PagesJ.mapE (h : PagesJ φ m P Q) (a k prot : Int) : mapE P a k prot = mapE (pgs Q) a k prot := by
  unfold Go.Proofs.YtiohpmcedfbcgabGreatDoor.mapE
  rw [h.there]
theorem PagesJ.protE (h : PagesJ φ m P Q) (a k prot : Int) : protE P a k prot = protE (pgs Q) a k prot := by
  unfold Go.Proofs.YtiohpmcedfbcgabGreatDoor.protE
  rw [h.there]
theorem PagesJ.unmapE (h : PagesJ φ m P Q) (a k : Int) : unmapE P a k = unmapE (pgs Q) a k := by
  unfold Go.Proofs.YtiohpmcedfbcgabGreatDoor.unmapE
  rw [h.there]
theorem PagesJ.accE (h : PagesJ φ m P Q) (a wd pr : Int) : accE P a wd pr = accE (pgs Q) a wd pr := by
  unfold Go.Proofs.YtiohpmcedfbcgabGreatDoor.accE pgs
  have h1 := h a
  cases e1 : P a with
  | none =>
    cases e2 : Q a with
    | none => rfl
    | some q => rw [e1, e2] at h1; exact h1.elim
  | some p =>
    cases e2 : Q a with
    | none => rw [e1, e2] at h1; exact h1.elim
    | some q =>
      rw [e1, e2] at h1
      have h2 : p.1 = (pgQ q).1 := h1.1
      show (if wd < 0 ∨ 7 < wd then (2 : Int) else if p.1 = 3 - pr then 13 else 0) = if wd < 0 ∨ 7 < wd then (2 : Int) else if (pgQ q).1 = 3 - pr then 13 else 0
      rw [h2]
/-- Map, Unmap, Protect keep it. -/
theorem PagesJ.map (h : PagesJ φ m P Q) (a k prot : Int) : PagesJ φ m (mapP P a k prot) (manyQ Q a k (mapQ prot)) := by
  intro i
  unfold mapP manyQ
  by_cases e : a ≤ i ∧ i < a + k
  · rw [if_pos e, if_pos e]
    exact ⟨rfl, fun _ => ⟨by show (-1 : Int) < 0; omega, fun _ _ => rfl⟩, fun h0 => absurd rfl h0⟩
  · rw [if_neg e, if_neg e]; exact h i
theorem PagesJ.unmap (h : PagesJ φ m P Q) (a k : Int) : PagesJ φ m (unmapP P a k) (manyQ Q a k (fun _ => none)) := by
  intro i
  unfold unmapP manyQ
  by_cases e : a ≤ i ∧ i < a + k
  · rw [if_pos e, if_pos e]; trivial
  · rw [if_neg e, if_neg e]; exact h i
theorem PagesJ.prot (h : PagesJ φ m P Q) (a k prot : Int) : PagesJ φ m (protP P a k prot) (manyQ Q a k (protQ prot)) := by
  intro i
  have h1 := h i
  unfold protP manyQ protQ
  by_cases e : a ≤ i ∧ i < a + k
  · rw [if_pos e, if_pos e]
    cases e1 : P i with
    | none =>
      cases e2 : Q i with
      | none => trivial
      | some q => rw [e1, e2] at h1; exact h1.elim
    | some p =>
      cases e2 : Q i with
      | none => rw [e1, e2] at h1; exact h1.elim
      | some q =>
        rw [e1, e2] at h1
        exact ⟨rfl, h1.2.1, h1.2.2⟩
  · rw [if_neg e, if_neg e]; exact h1
theorem PagesJ.len (h : PagesJ φ m P Q) : lenP P = rlenP Q := by
  unfold lenP rlenP
  exact sumN_congr fun i _ => by rw [(h (i : Int)).some_iff]
theorem PagesJ.res (h : PagesJ φ m P Q) (h0 : ∀ i q, Q i = some q → 0 ≤ q.2.2) : resP P = rresP Q := by
  unfold resP rresP
  refine sumN_congr fun i _ => ?_
  have h1 := h (i : Int)
  have h2 := h0 (i : Int)
  unfold resO
  cases e1 : P (i : Int) with
  | none =>
    cases e2 : Q (i : Int) with
    | none => rfl
    | some q => rw [e1, e2] at h1; exact h1.elim
  | some p =>
    cases e2 : Q (i : Int) with
    | none => rw [e1, e2] at h1; exact h1.elim
    | some q =>
      rw [e1, e2] at h1
      have h3 := h2 q e2
      show (if 0 ≤ p.2 then 1 else 0) = if 0 < q.2.2 then 1 else 0
      by_cases hz : q.2.2 = 0
      · have h4 := (h1.2.1 hz).1
        rw [if_neg (by omega), if_neg (by omega)]
      · have h4 := (h1.2.2 hz).1
        rw [if_pos h4, if_pos (by omega)]
/-- A word goes into a frame that the page alone has: of this space every other page keeps off it. -/
theorem PagesJ.own (h : PagesJ φ m P Q) {a wd v : Int} {q1 f : Int} {qw : Nat → Int} {g : Int} (hQ : Q a = some (q1, qw, g)) (hP : P a = some (q1, f)) (hg : g ≠ 0) (hoff : ∀ i p, P i = some p → i ≠ a → 0 ≤ p.2 → p.2.toNat ≠ f.toNat) (j : Nat) :
    PagesJ φ (memSet m f.toNat j v) P (setQ Q a (some (q1, updW qw j v, g))) := by
  intro i
  unfold setQ
  by_cases e : i = a
  · subst e
    rw [if_pos rfl, hP]
    have h1 := h i
    rw [hP, hQ] at h1
    refine ⟨rfl, fun h0 => absurd h0 hg, fun _ => ⟨(h1.2.2 hg).1, (h1.2.2 hg).2.1, fun w hw => ?_⟩⟩
    have h2 := (h1.2.2 hg).2.2 w hw
    show (if f.toNat = f.toNat ∧ w = j then v else m f.toNat w) = if w = j then v else qw w
    by_cases e2 : w = j
    · rw [if_pos ⟨rfl, e2⟩, if_pos e2]
    · rw [if_neg (fun h => e2 h.2), if_neg e2]; exact h2
  · rw [if_neg e]
    have h1 := h i
    cases e1 : P i with
    | none =>
      cases e2 : Q i with
      | none => trivial
      | some q => rw [e1, e2] at h1; exact h1.elim
    | some p =>
      cases e2 : Q i with
      | none => rw [e1, e2] at h1; exact h1.elim
      | some q =>
        rw [e1, e2] at h1
        refine ⟨h1.1, h1.2.1, fun hz => ⟨(h1.2.2 hz).1, (h1.2.2 hz).2.1, fun w hw => ?_⟩⟩
        have h3 := hoff i p e1 e (h1.2.2 hz).1
        show (if p.2.toNat = f.toNat ∧ w = j then v else m p.2.toNat w) = _
        rw [if_neg (fun h => h3 h.1)]
        exact (h1.2.2 hz).2.2 w hw
/-- A memory that is as it was at every frame that the space has keeps it; so does a numbering. -/
theorem PagesJ.keep (h : PagesJ φ m P Q) {φ' : Int → Int} (hm : ∀ i p, P i = some p → 0 ≤ p.2 → ∀ w, w < 8 → m' p.2.toNat w = m p.2.toNat w) (hφ : ∀ i q, Q i = some q → q.2.2 ≠ 0 → φ' q.2.2 = φ q.2.2) : PagesJ φ' m' P Q := by
  intro i
  have h1 := h i
  cases e1 : P i with
  | none =>
    cases e2 : Q i with
    | none => trivial
    | some q => rw [e1, e2] at h1; exact h1.elim
  | some p =>
    cases e2 : Q i with
    | none => rw [e1, e2] at h1; exact h1.elim
    | some q =>
      rw [e1, e2] at h1
      refine ⟨h1.1, h1.2.1, fun hz => ⟨(h1.2.2 hz).1, ?_, fun w hw => ?_⟩⟩
      · rw [hφ i q e2 hz]; exact (h1.2.2 hz).2.1
      · rw [hm i p e1 (h1.2.2 hz).1 w hw]; exact (h1.2.2 hz).2.2 w hw
theorem PagesJ.set (h : PagesJ φ m P Q) (a : Int) {p : Option Pg} {q : Option Qg} (h1 : OneJ φ m p q) : PagesJ φ m (setP P a p) (setQ Q a q) := by
  intro i
  unfold setP setQ
  by_cases e : i = a
  · rw [if_pos e, if_pos e]; exact h1
  · rw [if_neg e, if_neg e]; exact h i
theorem PagesJ.load (h : PagesJ φ m P Q) (a wd : Int) : loadV P m a wd = rloadV Q a wd := by
  unfold loadV rloadV
  rw [h.accE]
  by_cases h0 : Go.Proofs.YtiohpmcedfbcgabGreatDoor.accE (pgs Q) a wd 1 = 0
  · rw [if_pos h0, if_pos h0]
    rcases accE_or (pgs Q) a wd 1 with ⟨he, _⟩ | he | he | ⟨_, w0, w8, _⟩
    · omega
    · omega
    · omega
    · have h1 := h a
      cases e1 : P a with
      | none =>
        cases e2 : Q a with
        | none => unfold Go.Proofs.YtiohpmcedfbcgabGreatDoor.accE pgs at h0; rw [e2] at h0; cases h0
        | some q => rw [e1, e2] at h1; exact h1.elim
      | some p =>
        cases e2 : Q a with
        | none => rw [e1, e2] at h1; exact h1.elim
        | some q =>
          rw [e1, e2] at h1
          show wordV m p wd = q.2.1 wd.toNat
          unfold wordV
          by_cases hz : q.2.2 = 0
          · have h4 := h1.2.1 hz
            rw [if_pos h4.1]
            exact (h4.2 _ (by omega)).symm
          · have h4 := h1.2.2 hz
            rw [if_neg (by omega)]
            exact h4.2.2 _ (by omega)
  · rw [if_neg h0, if_neg h0]
/-- A store that takes the program's frame f2 and the document's number g (both fresh). -/
theorem PagesJ.fresh (h : PagesJ φ m P Q) {a wd v : Int} {q1 f f2 g : Int} {qw : Nat → Int} {g0 : Int} {j : Nat} (hQ : Q a = some (q1, qw, g0)) (hP : P a = some (q1, f)) (hg : g ≠ 0) (hf2 : 0 ≤ f2) (hj : wd.toNat = j)
    (hoff : ∀ i p, P i = some p → p.2 ≠ f2) (hnew : ∀ i q, Q i = some q → q.2.2 ≠ g) :
    PagesJ (fun x => if x = g then f2 else φ x) (newM m f f2 wd v) (setP P a (some (q1, f2))) (setQ Q a (some (q1, updW qw j v, g))) := by
  have hold : ∀ x w, x ≠ f2.toNat → newM m f f2 wd v x w = m x w := fun x w hx => by
    unfold newM
    show (if x = f2.toNat ∧ w = wd.toNat then v else (if f < 0 then memZero m f2.toNat else memCopy m f2.toNat f.toNat) x w) = _
    rw [if_neg (fun h => hx h.1)]
    by_cases e : f < 0
    · rw [if_pos e]; exact if_neg hx
    · rw [if_neg e]; exact if_neg hx
  have h1 := h a
  rw [hP, hQ] at h1
  refine PagesJ.set (h.keep (fun i p hp h0 w _ => hold _ _ (fun e => hoff i p hp (by omega))) (fun i q hq hz => if_neg (hnew i q hq))) a ?_
  refine ⟨rfl, fun h0 => absurd h0 hg, fun _ => ⟨hf2, (if_pos rfl).symm, fun w hw => ?_⟩⟩
  unfold newM
  show (if f2.toNat = f2.toNat ∧ w = wd.toNat then v else (if f < 0 then memZero m f2.toNat else memCopy m f2.toNat f.toNat) f2.toNat w) = if w = j then v else qw w
  by_cases e : w = j
  · rw [if_pos ⟨rfl, by omega⟩, if_pos e]
  · rw [if_neg (fun h => e (by omega)), if_neg e]
    by_cases hz : g0 = 0
    · have h4 := h1.2.1 hz
      rw [if_pos (show f < 0 from h4.1)]
      show (if f2.toNat = f2.toNat then (0 : Int) else _) = _
      rw [if_pos rfl]
      exact (h4.2 w hw).symm
    · have h4 := h1.2.2 hz
      have h5 : 0 ≤ f := h4.1
      rw [if_neg (by omega)]
      show (if f2.toNat = f2.toNat then m f.toNat w else _) = _
      rw [if_pos rfl]
      exact h4.2.2 w hw
end
theorem cntB_len (g : Nat → Bool) : ∀ n, cntB g n = ((List.range n).filter g).length
  | 0 => rfl
  | n + 1 => by
    rw [cntB_succ, cntB_len g n, List.range_succ, List.filter_append, List.length_append]
    congr 1
    rw [List.filter_cons]
    cases g n <;> rfl
/-- As many frames are used as the document's table has entries. -/
theorem used_len {φ : Int → Int} {rl : List (Int × Nat)} {R : Int → Nat} {n : Nat} (hn : MNodup rl) (hin : ∀ p ∈ rl, 0 ≤ φ p.1 ∧ φ p.1 < n ∧ 0 < R (φ p.1)) (hinj : ∀ p ∈ rl, ∀ q ∈ rl, φ p.1 = φ q.1 → p.1 = q.1)
    (hon : ∀ f : Int, 0 ≤ f → f < n → 0 < R f → ∃ p ∈ rl, φ p.1 = f) : rl.length = usedN R n := by
  unfold usedN
  rw [cntB_len]
  have h1 : ((rl.map fun p => (φ p.1).toNat).Perm ((List.range n).filter fun f => decide (0 < R (f : Int)))) := by
    refine (List.perm_ext_iff_of_nodup ?_ ?_).2 fun f => ?_
    · unfold MNodup at hn
      have h2 : ∀ l : List (Int × Nat), (l.map Prod.fst).Nodup → (∀ p ∈ l, p ∈ rl) → (l.map fun p => (φ p.1).toNat).Nodup := by
        intro l
        induction l with
        | nil => intro _ _; exact List.nodup_nil
        | cons a l ih =>
          intro hd hs
          rw [List.map_cons, List.nodup_cons] at hd
          rw [List.map_cons, List.nodup_cons]
          refine ⟨fun hm => ?_, ih hd.2 (fun p hp => hs p (List.mem_cons_of_mem _ hp))⟩
          obtain ⟨q, hq, he⟩ := List.mem_map.1 hm
          have ha := hin a (hs a List.mem_cons_self)
          have hb := hin q (hs q (List.mem_cons_of_mem _ hq))
          have := hinj q (hs q (List.mem_cons_of_mem _ hq)) a (hs a List.mem_cons_self) (by omega)
          exact hd.1 (List.mem_map.2 ⟨q, hq, this⟩)
      exact h2 rl hn (fun _ h => h)
    · exact List.nodup_range.filter _
    · rw [List.mem_map, List.mem_filter, List.mem_range, decide_eq_true_iff]
      constructor
      · rintro ⟨p, hp, rfl⟩
        have h3 := hin p hp
        refine ⟨by omega, ?_⟩
        rw [show (((φ p.1).toNat : Nat) : Int) = φ p.1 by omega]
        exact h3.2.2
      · rintro ⟨hf, hr⟩
        obtain ⟨p, hp, he⟩ := hon f (by omega) (by omega) hr
        exact ⟨p, hp, by omega⟩
  have := h1.length_eq
  rw [List.length_map] at this
  exact this
end Go.Proofs.YtiohpmcedfbcgabGreatDoor
/- All spaces of package vm beside the document's: the document's all, and the plain relation. No walk. Conditions: each theorem's own premises. -/
namespace Go.Proofs.YtiohpmcedfbcgabGreatDoor
open Go.RowKit
set_option linter.unusedVariables false

structure Qsp where
  qm : Nat
  Q : Int → Option Qg
def sumQ (L : List Qsp) (g : Int) : Nat := (L.map fun x => cntF (pgs x.Q) g).sum
theorem sumQ_erase {L : List Qsp} {k : Nat} {x : Qsp} (h : L[k]? = some x) (g : Int) : sumQ L g = sumQ (L.eraseIdx k) g + cntF (pgs x.Q) g := sum_erase (fun x : Qsp => cntF (pgs x.Q) g) L k x h
theorem sumQ_set {L : List Qsp} {k : Nat} {x y : Qsp} (h : L[k]? = some x) (g : Int) : sumQ (L.set k y) g = sumQ (L.eraseIdx k) g + cntF (pgs y.Q) g := by
  have hk : k < L.length := (List.getElem?_eq_some_iff.1 h).1
  have h1 := sumQ_erase (L := L.set k y) (k := k) (x := y) (by rw [List.getElem?_set_self hk]) g
  rw [erase_set] at h1
  exact h1
theorem sumQ_append (L : List Qsp) (x : Qsp) (g : Int) : sumQ (L ++ [x]) g = sumQ L g + cntF (pgs x.Q) g := by simp [sumQ]
theorem sumQ_pos {L : List Qsp} {k : Nat} {x : Qsp} (h : L[k]? = some x) (g : Int) : cntF (pgs x.Q) g ≤ sumQ L g := by rw [sumQ_erase h]; omega
theorem cntF_most (P : Int → Option Pg) (f : Int) : cntF P f ≤ 64 := by
  have h := sumN_max (c := fun i : Nat => hasF (P (i : Int)) f) (m := 1) (k := 64) (fun i _ => hasF_le _ _)
  unfold cntF
  omega
theorem sumQ_le (g : Int) : ∀ L : List Qsp, sumQ L g ≤ L.length * 64
  | [] => Nat.zero_le _
  | x :: L => by
    have h1 := sumQ_le g L
    have h2 := cntF_most (pgs x.Q) g
    unfold sumQ at *
    rw [List.map_cons, List.sum_cons, List.length_cons]
    omega
theorem sumQ_some {g : Int} : ∀ {L : List Qsp}, 0 < sumQ L g → ∃ (k : Nat) (x : Qsp), L[k]? = some x ∧ 0 < cntF (pgs x.Q) g
  | [], h => absurd h (Nat.lt_irrefl _)
  | x :: L, h => by
    by_cases e : 0 < cntF (pgs x.Q) g
    · exact ⟨0, x, rfl, e⟩
    · have h2 : 0 < cntF (pgs x.Q) g + sumQ L g := h
      obtain ⟨k, y, hk, hy⟩ := sumQ_some (L := L) (g := g) (by omega)
      exact ⟨k + 1, y, hk, hy⟩
theorem sumC_some {f : Int} : ∀ {l : List Spc}, 0 < sumC l f → ∃ (k : Nat) (x : Spc), l[k]? = some x ∧ 0 < cntF x.P f
  | [], h => absurd h (Nat.lt_irrefl _)
  | x :: l, h => by
    by_cases e : 0 < cntF x.P f
    · exact ⟨0, x, rfl, e⟩
    · have h2 : 0 < cntF x.P f + sumC l f := h
      obtain ⟨k, y, hk, hy⟩ := sumC_some (l := l) (f := f) (by omega)
      exact ⟨k + 1, y, hk, hy⟩
theorem set_get {α : Type} {l : List α} {k : Nat} {x x' : α} (hk : l[k]? = some x) (i : Nat) (y : α) (hi : (l.set k x')[i]? = some y) : (i = k ∧ y = x') ∨ (i ≠ k ∧ l[i]? = some y) := by
  have hkl : k < l.length := (List.getElem?_eq_some_iff.1 hk).1
  by_cases e : i = k
  · subst e
    rw [List.getElem?_set_self hkl] at hi
    exact .inl ⟨rfl, (Option.some.inj hi).symm⟩
  · rw [List.getElem?_set_ne (fun e2 => e e2.symm)] at hi
    exact .inr ⟨e, hi⟩
theorem app_get {α : Type} {l : List α} {x : α} (i : Nat) (y : α) (hi : (l ++ [x])[i]? = some y) : (i = l.length ∧ y = x) ∨ (i < l.length ∧ l[i]? = some y) := by
  by_cases e : i < l.length
  · rw [List.getElem?_append_left e] at hi; exact .inr ⟨e, hi⟩
  · rw [List.getElem?_append_right (by omega)] at hi
    have h3 : i - l.length = 0 := by
      by_cases e2 : i - l.length = 0
      · exact e2
      · rw [List.getElem?_eq_none (by simp; omega)] at hi; cases hi
    rw [h3] at hi
    simp only [List.getElem?_cons_zero, Option.some.injEq] at hi
    exact .inl ⟨by omega, hi.symm⟩
def QFoot (rb rm : Nat) (L : List Qsp) (k : Nat) : Prop := k = rb ∨ k = rm ∨ ∃ (i : Nat) (x : Qsp), L[i]? = some x ∧ k = x.qm
structure QAll (w : World) (rb rm : Nat) (n nx : Int) (rl : List (Int × Nat)) (L : List Qsp) : Prop where
  mem : RMem w rb rm n nx rl
  sps : ∀ (k : Nat) (x : Qsp), L[k]? = some x → RSp w x.qm x.Q
  off : ∀ (k : Nat) (x : Qsp), L[k]? = some x → x.qm ≠ rb ∧ x.qm ≠ rm
  ap : ∀ (i j : Nat) (x y : Qsp), L[i]? = some x → L[j]? = some y → i ≠ j → x.qm ≠ y.qm
  refs : ∀ g, 0 < g → RR rl g = sumQ L g
section
variable {w w' w1 w2 : World} {rb rm : Nat} {n nx nx' : Int} {rl rl' : List (Int × Nat)} {L : List Qsp} {k : Nat} {x : Qsp} {Q' : Int → Option Qg}
theorem QAll.turned {S : Nat → Prop} (h : QAll w rb rm n nx rl L) (tt : Turn S w w') (hS : ∀ k, QFoot rb rm L k → ¬ S k) : QAll w' rb rm n nx rl L :=
  ⟨h.mem.turned tt (hS _ (.inl rfl)) (hS _ (.inr (.inl rfl))), fun k x hk => (h.sps k x hk).turned tt (hS _ (.inr (.inr ⟨k, x, hk, rfl⟩))), h.off, h.ap, h.refs⟩
theorem QAll.foot_lt (h : QAll w rb rm n nx rl L) (k : Nat) (hk : QFoot rb rm L k) : k < w.heap.size := by
  rcases hk with rfl | rfl | ⟨i, x, hx, rfl⟩
  · exact lt_of_cell h.mem.c0
  · exact h.mem.refs.lt
  · exact (h.sps i x hx).lt
theorem QAll.at (h : QAll w rb rm n nx rl L) (hk : L[k]? = some x) : QOne w rb rm n nx rl x.qm x.Q (fun g => sumQ (L.eraseIdx k) g) :=
  ⟨h.mem, h.sps k x hk, h.off k x hk, fun g hg => (h.refs g hg).trans (sumQ_erase hk g)⟩
theorem QAll.after (h : QAll w rb rm n nx rl L) (hk : L[k]? = some x) (hA : QOne w' rb rm n nx' rl' x.qm Q' (fun g => sumQ (L.eraseIdx k) g)) (tt : Turn (fun j => j = x.qm ∨ j = rm ∨ j = rb) w w') :
    QAll w' rb rm n nx' rl' (L.set k ⟨x.qm, Q'⟩) := by
  have hold : ∀ (i : Nat) (y : Qsp), (L.set k ⟨x.qm, Q'⟩)[i]? = some y → ∃ y', L[i]? = some y' ∧ y'.qm = y.qm := fun i y hi => by
    rcases set_get hk i y hi with ⟨rfl, rfl⟩ | ⟨_, h2⟩
    · exact ⟨x, hk, rfl⟩
    · exact ⟨y, h2, rfl⟩
  refine ⟨hA.mem, fun i y hi => ?_, fun i y hi => ?_, fun i j y z hi hj hne => ?_, fun g hg => ?_⟩
  · rcases set_get hk i y hi with ⟨rfl, rfl⟩ | ⟨h1, h2⟩
    · exact hA.sp
    · have h3 := h.ap i k y x h2 hk h1
      have h4 := h.off i y h2
      exact (h.sps i y h2).turned tt (fun e => e.elim (fun e => h3 e) (fun e => e.elim (fun e => h4.2 e) (fun e => h4.1 e)))
  · obtain ⟨y', h1, h2⟩ := hold i y hi
    rw [← h2]
    exact h.off i y' h1
  · obtain ⟨y', h1, h2⟩ := hold i y hi
    obtain ⟨z', h4, h5⟩ := hold j z hj
    rw [← h2, ← h5]
    exact h.ap i j y' z' h1 h4 hne
  · rw [sumQ_set hk]
    exact hA.refs g hg
theorem QAll.forked (h : QAll w rb rm n nx rl L) (hk : L[k]? = some x) {tm : Nat} (h0 : w.heap.size ≤ tm) (hm : RMem w' rb rm n nx rl') (hs : RSp w' tm x.Q) (hR : ∀ g, 0 < g → RR rl' g = RR rl g + cntF (pgs x.Q) g) (tt : Turn (fun j => j = rm) w w') :
    QAll w' rb rm n nx rl' (L ++ [⟨tm, x.Q⟩]) := by
  refine ⟨hm, fun i y hi => ?_, fun i y hi => ?_, fun i j y z hi hj hne => ?_, fun g hg => ?_⟩
  · rcases app_get i y hi with ⟨_, rfl⟩ | ⟨_, h2⟩
    · exact hs
    · exact (h.sps i y h2).turned tt (h.off i y h2).2
  · rcases app_get i y hi with ⟨_, rfl⟩ | ⟨_, h2⟩
    · have h1 := h.foot_lt rb (.inl rfl)
      have h3 := h.foot_lt rm (.inr (.inl rfl))
      exact ⟨by simp only; omega, by simp only; omega⟩
    · exact h.off i y h2
  · rcases app_get i y hi with ⟨e1, rfl⟩ | ⟨_, h2⟩
    · rcases app_get j z hj with ⟨e2, rfl⟩ | ⟨_, h3⟩
      · omega
      · have := (h.sps j z h3).lt
        simp only; omega
    · rcases app_get j z hj with ⟨e2, rfl⟩ | ⟨_, h3⟩
      · have := (h.sps i y h2).lt
        simp only; omega
      · exact h.ap i j y z h2 h3 hne
  · rw [hR g hg, sumQ_append, h.refs g hg]
theorem QAll.first (hm : RMem w rb rm n nx []) {q : Nat} (hs : RSp w q (fun _ => none)) (ho : q ≠ rb ∧ q ≠ rm) : QAll w rb rm n nx [] [⟨q, fun _ => none⟩] := by
  have hget : ∀ (i : Nat) (y : Qsp), [(⟨q, fun _ => none⟩ : Qsp)][i]? = some y → i = 0 ∧ y = ⟨q, fun _ => none⟩ := fun i y hi => by
    cases i with
    | zero => exact ⟨rfl, (Option.some.inj hi).symm⟩
    | succ i => simp at hi
  refine ⟨hm, fun i y hi => ?_, fun i y hi => ?_, fun i j y z hi hj hne => ?_, fun g hg => ?_⟩
  · obtain ⟨_, rfl⟩ := hget i y hi; exact hs
  · obtain ⟨_, rfl⟩ := hget i y hi; exact ho
  · exact absurd ((hget i y hi).1.trans (hget j z hj).1.symm) hne
  · show 0 = cntF (fun _ => none) g + 0
    rw [show cntF (fun _ => none) g = 0 from sumN_zero (fun _ _ => rfl)]
end
/-- The document's frames that a page has. -/
def LiveQ (L : List Qsp) (g : Int) : Prop := g ≠ 0 ∧ ∃ (k : Nat) (y : Qsp) (i : Int) (q : Qg), L[k]? = some y ∧ y.Q i = some q ∧ q.2.2 = g
structure Jn (m : Nat → Nat → Int) (φ : Int → Int) (l : List Spc) (L : List Qsp) : Prop where
  len : l.length = L.length
  pj : ∀ (k : Nat) (x : Spc) (y : Qsp), l[k]? = some x → L[k]? = some y → PagesJ φ m x.P y.Q
  inj : ∀ g g', LiveQ L g → LiveQ L g' → φ g = φ g' → g = g'
theorem sum_both {α β : Type} (c : α → Nat) (d : β → Nat) : ∀ (l : List α) (L : List β), l.length = L.length → (∀ (k : Nat) x y, l[k]? = some x → L[k]? = some y → c x = d y) → (l.map c).sum = (L.map d).sum
  | [], [], _, _ => rfl
  | [], _ :: _, h, _ => by simp at h
  | _ :: _, [], h, _ => by simp at h
  | x :: l, y :: L, h, hc => by
    have h1 := sum_both c d l L (by simpa using h) (fun k x y hx hy => hc (k + 1) x y hx hy)
    have h2 := hc 0 x y rfl rfl
    rw [List.map_cons, List.map_cons, List.sum_cons, List.sum_cons, h1, h2]
section
variable {w w' wq : World} {s : SB} {n : Nat} {t t' : St} {l : List Spc} {rb rm : Nat} {nq nx : Int} {rl : List (Int × Nat)} {L : List Qsp} {φ : Int → Int} {m m' : Nat → Nat → Int} {k : Nat} {x : Spc} {y : Qsp}
theorem Jn.other (h : Jn m φ l L) {k : Nat} {y : Qsp} (hy : L[k]? = some y) : ∃ x, l[k]? = some x := by
  have := (List.getElem?_eq_some_iff.1 hy).1
  exact ⟨_, List.getElem?_eq_getElem (by rw [h.len]; exact this)⟩
theorem Jn.live_page (h : Jn m φ l L) {g : Int} (hg : LiveQ L g) : ∃ (k : Nat) (x : Spc) (i : Int) (p : Pg), l[k]? = some x ∧ x.P i = some p ∧ 0 ≤ p.2 ∧ p.2 = φ g := by
  obtain ⟨h0, k, y, i, q, hy, hq, rfl⟩ := hg
  obtain ⟨x, hx⟩ := h.other hy
  have h1 := h.pj k x y hx hy i
  rw [hq] at h1
  cases e : x.P i with
  | none => rw [e] at h1; exact h1.elim
  | some p =>
    rw [e] at h1
    exact ⟨k, x, i, p, hx, e, (h1.2.2 h0).1, (h1.2.2 h0).2.1⟩
theorem Jn.pos (h : Jn m φ l L) {g : Int} (hg : LiveQ L g) : 0 ≤ φ g := by
  obtain ⟨k, x, i, p, _, _, h1, h2⟩ := h.live_page hg
  omega
theorem QAll.live (h : QAll wq rb rm nq nx rl L) {g : Int} (hg : 0 < g) : 0 < RR rl g ↔ LiveQ L g := by
  rw [h.refs g hg]
  constructor
  · intro h1
    obtain ⟨k, y, hy, h2⟩ := sumQ_some h1
    obtain ⟨i, p, _, _, hp, he⟩ := cntF_pos h2
    obtain ⟨q, hq, rfl⟩ := pgs_some hp
    exact ⟨by omega, k, y, i, q, hy, hq, he⟩
  · rintro ⟨h0, k, y, i, q, hy, hq, rfl⟩
    have hd := (h.sps k y hy).dom i q hq
    have h1 := cntF_ge (P := pgs y.Q) (i := i) (f := q.2.2) hd.1 hd.2
    have h2 : pgs y.Q i = some (pgQ q) := by unfold pgs; rw [hq]; rfl
    rw [h2, hasF_some, if_pos (show (pgQ q).2 = q.2.2 from rfl)] at h1
    have := sumQ_pos hy q.2.2
    omega
theorem QAll.live_pos (h : QAll wq rb rm nq nx rl L) {g : Int} (hg : LiveQ L g) : 0 < g ∧ g ≤ nx := by
  have hp : 0 < g := by
    obtain ⟨h0, k, y, i, q, hy, hq, rfl⟩ := hg
    have := ((h.sps k y hy).ok i q hq).2.2.1
    omega
  have h1 := (h.live hp).2 hg
  unfold RR at h1
  cases e : mget rl g with
  | none => rw [e] at h1; exact absurd h1 (Nat.lt_irrefl _)
  | some c => exact ⟨hp, (h.mem.key g c e).2⟩
theorem Jn.held (h : Jn m φ l L) (hA : VmAll w s n t l) (hQ : QAll wq rb rm nq nx rl L) {g : Int} (hg : LiveQ L g) : t.R (φ g) = RR rl g := by
  have hp := (hQ.live_pos hg).1
  rw [hA.refs _ (h.pos hg), hQ.refs g hp]
  exact sum_both _ _ l L h.len fun k x y hx hy => (h.pj k x y hx hy).count (by omega) (h.pos hg) fun i q hq hz he => h.inj _ _ ⟨hz, k, y, i, q, hy, hq, rfl⟩ hg he
theorem Jn.used (h : Jn m φ l L) (hA : VmAll w s n t l) (hQ : QAll wq rb rm nq nx rl L) : rl.length = usedN t.R n := by
  have hn : MNodup rl := hQ.mem.refs.nodup
  have hlive : ∀ p ∈ rl, LiveQ L p.1 ∧ 0 < RR rl p.1 := fun p hp => by
    have h1 : mget rl p.1 = some p.2 := mget_mem hn hp
    have h2 := hQ.mem.key _ _ h1
    have h3 := hQ.mem.pos _ _ h1
    have h4 : 0 < RR rl p.1 := by unfold RR; rw [h1]; exact h3.1
    exact ⟨(hQ.live (by omega)).1 h4, h4⟩
  refine used_len (φ := φ) hn (fun p hp => ?_) (fun p hp q hq he => h.inj _ _ (hlive p hp).1 (hlive q hq).1 he) (fun f h0 hf hR => ?_)
  · have h1 := hlive p hp
    have h2 := h.held hA hQ h1.1
    have h3 : 0 < t.R (φ p.1) := by omega
    have h4 := hA.store.frame h3
    exact ⟨h4.1, h4.2, h3⟩
  · rw [hA.refs f h0] at hR
    obtain ⟨k, x, hx, hc⟩ := sumC_some hR
    obtain ⟨i, p, _, _, hp, he⟩ := cntF_pos hc
    obtain ⟨y, hy⟩ : ∃ y, L[k]? = some y := ⟨_, List.getElem?_eq_getElem (by rw [← h.len]; exact (List.getElem?_eq_some_iff.1 hx).1)⟩
    have h1 := h.pj k x y hx hy i
    rw [hp] at h1
    cases e : y.Q i with
    | none => rw [e] at h1; exact h1.elim
    | some q =>
      rw [e] at h1
      have hz : q.2.2 ≠ 0 := fun hz => by have := (h1.2.1 hz).1; omega
      have hl : LiveQ L q.2.2 := ⟨hz, k, y, i, q, hy, e, rfl⟩
      have hq := (hQ.live (hQ.live_pos hl).1).2 hl
      unfold RR at hq
      cases e2 : mget rl q.2.2 with
      | none => rw [e2] at hq; exact absurd hq (Nat.lt_irrefl _)
      | some c => exact ⟨(q.2.2, c), mem_of_mget e2, by rw [← he]; exact (h1.2.2 hz).2.1.symm⟩
/-- A change of one space that brings no frame. -/
theorem Jn.at_ (h : Jn m φ l L) (hx : l[k]? = some x) (hy : L[k]? = some y) {P' : Int → Option Pg} {Q' : Int → Option Qg} {φ' : Int → Int} {sp' pm' qm' : Nat} (hP : PagesJ φ' m' P' Q')
    (hoth : ∀ (j : Nat) x y, j ≠ k → l[j]? = some x → L[j]? = some y → PagesJ φ' m' x.P y.Q)
    (hinj : ∀ g g', LiveQ (L.set k ⟨qm', Q'⟩) g → LiveQ (L.set k ⟨qm', Q'⟩) g' → φ' g = φ' g' → g = g') : Jn m' φ' (l.set k ⟨sp', pm', P'⟩) (L.set k ⟨qm', Q'⟩) := by
  refine ⟨by rw [List.length_set, List.length_set]; exact h.len, fun j x' y' hx' hy' => ?_, hinj⟩
  rcases set_get hx j x' hx' with ⟨rfl, rfl⟩ | ⟨h1, h2⟩
  · rcases set_get hy j y' hy' with ⟨_, rfl⟩ | ⟨h3, _⟩
    · exact hP
    · exact absurd rfl h3
  · rcases set_get hy j y' hy' with ⟨h3, _⟩ | ⟨_, h4⟩
    · exact absurd h3 h1
    · exact hoth j x' y' h1 h2 h4
theorem live_set {qm' : Nat} {Q' : Int → Option Qg} (hy : L[k]? = some y) {g : Int} (hg : LiveQ (L.set k ⟨qm', Q'⟩) g) : LiveQ L g ∨ ∃ i q, Q' i = some q ∧ q.2.2 = g := by
  obtain ⟨h0, j, y', i, q, hj, hq, he⟩ := hg
  rcases set_get hy j y' hj with ⟨rfl, rfl⟩ | ⟨_, h4⟩
  · exact .inr ⟨i, q, hq, he⟩
  · exact .inl ⟨h0, j, y', i, q, h4, hq, he⟩
theorem Jn.less (h : Jn m φ l L) (hx : l[k]? = some x) (hy : L[k]? = some y) {P' : Int → Option Pg} {Q' : Int → Option Qg} {sp' pm' qm' : Nat} (hP : PagesJ φ m P' Q')
    (hl : ∀ i q, Q' i = some q → q.2.2 ≠ 0 → ∃ i0 q0, y.Q i0 = some q0 ∧ q0.2.2 = q.2.2) : Jn m φ (l.set k ⟨sp', pm', P'⟩) (L.set k ⟨qm', Q'⟩) := by
  have hlive : ∀ g, LiveQ (L.set k ⟨qm', Q'⟩) g → LiveQ L g := fun g hg => by
    rcases live_set hy hg with h1 | ⟨i, q, hq, he⟩
    · exact h1
    · obtain ⟨i0, q0, hq0, he0⟩ := hl i q hq (by rw [he]; exact hg.1)
      exact ⟨hg.1, k, y, i0, q0, hy, hq0, by rw [he0, he]⟩
  exact h.at_ hx hy hP (fun j x y _ hx hy => h.pj j x y hx hy) (fun g g' hg hg' => h.inj g g' (hlive g hg) (hlive g' hg'))
theorem Jn.forked (h : Jn m φ l L) (hx : l[k]? = some x) (hy : L[k]? = some y) {sp' pm' qm' : Nat} : Jn m φ (l ++ [⟨sp', pm', x.P⟩]) (L ++ [⟨qm', y.Q⟩]) := by
  have hlive : ∀ g, LiveQ (L ++ [⟨qm', y.Q⟩]) g → LiveQ L g := fun g hg => by
    obtain ⟨h0, j, y', i, q, hj, hq, he⟩ := hg
    rcases app_get j y' hj with ⟨_, rfl⟩ | ⟨_, h4⟩
    · exact ⟨h0, k, y, i, q, hy, hq, he⟩
    · exact ⟨h0, j, y', i, q, h4, hq, he⟩
  refine ⟨by rw [List.length_append, List.length_append, h.len]; rfl, fun j x' y' hx' hy' => ?_, fun g g' hg hg' => h.inj g g' (hlive g hg) (hlive g' hg')⟩
  have hlen := h.len
  rcases app_get j x' hx' with ⟨e1, rfl⟩ | ⟨e1, h2⟩
  · rcases app_get j y' hy' with ⟨_, rfl⟩ | ⟨e2, _⟩
    · exact h.pj k x y hx hy
    · omega
  · rcases app_get j y' hy' with ⟨e2, rfl⟩ | ⟨_, h4⟩
    · omega
    · exact h.pj j x' y' h2 h4
theorem VmAll.other_off (hA : VmAll w s n t l) {j : Nat} {x' : Spc} (hx : l[k]? = some x) (hj : l[j]? = some x') (hne : j ≠ k) {i : Int} {p : Pg} {f : Int} (hp : x'.P i = some p) (h0 : 0 ≤ p.2) (hf : 0 < cntF x.P f) (hR : t.R f ≤ 1) : p.2 ≠ f := fun e => by
  have hd := (hA.sps j x' hj).dom i p hp
  have h1 := cntF_ge (P := x'.P) (i := i) (f := f) hd.1 hd.2
  rw [hp, hasF_some, if_pos e] at h1
  have h2 := hA.refs f (by omega)
  have h3 := sumC_erase hx f
  have hj' : ∃ j' : Nat, (l.eraseIdx k)[j']? = some x' := by
    rcases Nat.lt_or_gt_of_ne hne with h | h
    · exact ⟨j, by rw [List.getElem?_eraseIdx_of_lt h]; exact hj⟩
    · exact ⟨j - 1, by rw [List.getElem?_eraseIdx_of_ge (by omega), show j - 1 + 1 = j by omega]; exact hj⟩
  obtain ⟨j', hj'⟩ := hj'
  have h4 := sumC_pos hj' f
  omega
/-- A word goes into a frame that one page alone has. -/
theorem Jn.own (h : Jn m φ l L) (hA : VmAll w s n t l) (hx : l[k]? = some x) (hy : L[k]? = some y) {a wd v q1 f g : Int} {qw : Nat → Int} (hQ : y.Q a = some (q1, qw, g)) (hP : x.P a = some (q1, f)) (hg : g ≠ 0) (h0 : 0 ≤ f) (hR : t.R f ≤ 1) (j : Nat) {sp' pm' qm' : Nat} :
    Jn (memSet m f.toNat j v) φ (l.set k ⟨sp', pm', x.P⟩) (L.set k ⟨qm', setQ y.Q a (some (q1, updW qw j v, g))⟩) := by
  have hd := (hA.sps k x hx).dom a _ hP
  have hc : 0 < cntF x.P f := by
    have h1 := cntF_ge (P := x.P) (i := a) (f := f) hd.1 hd.2
    rw [hP, hasF_some, if_pos (show (q1, f).2 = f from rfl)] at h1
    omega
  refine h.at_ hx hy ((h.pj k x y hx hy).own (wd := wd) hQ hP hg (fun i p hp hne hp0 e => ?_) j) (fun j' x' y' hne hx' hy' => (h.pj j' x' y' hx' hy').keep (fun i p hp hp0 w _ => ?_) (fun _ _ _ _ => rfl)) (fun g1 g2 h1 h2 => ?_)
  · have hd2 := (hA.sps k x hx).dom i _ hp
    have h2 := cntF_two (P := x.P) (i := i) (j := a) (f := f) hd2 hd hne (by rw [hp, hasF_some, if_pos (by omega)]; omega) (by rw [hP, hasF_some, if_pos rfl]; omega)
    have h3 := hA.refs f h0
    have h4 := sumC_pos hx f
    omega
  · have h5 := hA.other_off hx hx' hne hp hp0 hc hR
    exact if_neg (fun e => h5 (by have := e.1; omega))
  · have hl2 : ∀ g', LiveQ (L.set k ⟨qm', setQ y.Q a (some (q1, updW qw j v, g))⟩) g' → LiveQ L g' := fun g' hg' => by
      rcases live_set hy hg' with h1 | ⟨i, q, hq, he⟩
      · exact h1
      · unfold setQ at hq
        by_cases e : i = a
        · rw [if_pos e] at hq
          cases hq
          exact ⟨hg'.1, k, y, a, _, hy, hQ, he⟩
        · rw [if_neg e] at hq
          exact ⟨hg'.1, k, y, i, q, hy, hq, he⟩
    exact h.inj g1 g2 (hl2 g1 h1) (hl2 g2 h2)
/-- A page gets a frame that nobody has. -/
theorem Jn.fresh (h : Jn m φ l L) (hA : VmAll w s n t l) (hQA : QAll wq rb rm nq nx rl L) (hx : l[k]? = some x) (hy : L[k]? = some y) {a wd v q1 f f2 g0 : Int} {qw : Nat → Int} {j : Nat} (hQ : y.Q a = some (q1, qw, g0)) (hP : x.P a = some (q1, f)) (hf2 : 0 ≤ f2) (hR : t.R f2 = 0) (hj : wd.toNat = j) {sp' pm' qm' : Nat} :
    ∃ φ', Jn (newM m f f2 wd v) φ' (l.set k ⟨sp', pm', setP x.P a (some (q1, f2))⟩) (L.set k ⟨qm', setQ y.Q a (some (q1, updW qw j v, nx + 1))⟩) := by
  have hnl : ∀ g, LiveQ L g → g ≠ nx + 1 := fun g hg e => by have := (hQA.live_pos hg).2; omega
  have hoff : ∀ (k : Nat) (x : Spc), l[k]? = some x → ∀ i p, x.P i = some p → p.2 ≠ f2 := fun k x hx i p hp e => by
    have hd := (hA.sps k x hx).dom i p hp
    have h1 := cntF_ge (P := x.P) (i := i) (f := f2) hd.1 hd.2
    rw [hp, hasF_some, if_pos e] at h1
    have h2 := hA.refs f2 hf2
    have h3 := sumC_pos hx f2
    omega
  have hnx := hQA.mem.nxt.1
  refine ⟨fun g => if g = nx + 1 then f2 else φ g, h.at_ hx hy ((h.pj k x y hx hy).fresh hQ hP (by omega) hf2 hj (hoff k x hx) (fun i q hq e => ?_)) (fun j' x' y' hne hx' hy' => (h.pj j' x' y' hx' hy').keep (fun i p hp hp0 w _ => ?_) (fun i q hq hz => if_neg (hnl _ ⟨hz, j', y', i, q, hy', hq, rfl⟩))) (fun g1 g2 h1 h2 he => ?_)⟩
  · exact hnl _ ⟨by omega, k, y, i, q, hy, hq, rfl⟩ e
  · have h5 := hoff j' x' hx' i p hp
    have hne : p.2.toNat ≠ f2.toNat := by omega
    unfold newM
    show (if p.2.toNat = f2.toNat ∧ w = wd.toNat then v else (if f < 0 then memZero m f2.toNat else memCopy m f2.toNat f.toNat) p.2.toNat w) = _
    rw [if_neg (fun h => hne h.1)]
    by_cases e : f < 0
    · rw [if_pos e]; exact if_neg hne
    · rw [if_neg e]; exact if_neg hne
  · have hl : ∀ g', LiveQ (L.set k ⟨qm', setQ y.Q a (some (q1, updW qw j v, nx + 1))⟩) g' → g' = nx + 1 ∨ LiveQ L g' := fun g' hg' => by
      rcases live_set hy hg' with h1 | ⟨i, q, hq, he⟩
      · exact .inr h1
      · unfold setQ at hq
        by_cases e : i = a
        · rw [if_pos e] at hq
          cases hq
          exact .inl he.symm
        · rw [if_neg e] at hq
          exact .inr ⟨hg'.1, k, y, i, q, hy, hq, he⟩
    have hφ : ∀ g, LiveQ L g → φ g ≠ f2 := fun g hg e => by
      have h3 := h.held hA hQA hg
      have h4 := (hQA.live (hQA.live_pos hg).1).2 hg
      rw [e] at h3
      omega
    replace he : (if g1 = nx + 1 then f2 else φ g1) = (if g2 = nx + 1 then f2 else φ g2) := he
    rcases hl g1 h1 with rfl | l1
    · rcases hl g2 h2 with rfl | l2
      · rfl
      · rw [if_pos rfl, if_neg (hnl _ l2)] at he
        exact absurd he.symm (hφ _ l2)
    · rcases hl g2 h2 with rfl | l2
      · rw [if_pos rfl, if_neg (hnl _ l1)] at he
        exact absurd he (hφ _ l1)
      · rw [if_neg (hnl _ l1), if_neg (hnl _ l2)] at he
        exact h.inj _ _ l1 l2 he
end
end Go.Proofs.YtiohpmcedfbcgabGreatDoor
