/- Package tree: one node's change in memory; goes, Hold, Drop, Size. Conditions: each theorem's own premises. -/
import Derived.Test.YtiohpmcedfbcgabDoorTree
import Derived.Test.YtiohpmcedfbcgabDoorTreePlain
namespace Go.Proofs.YtiohpmcedfbcgabDoor
open Go.RowKit
set_option linter.unusedVariables false

/-- Behind a call: the tree T', on blocks that were the tree's, or are new. -/
def TreeTo (tb : Nat) (F : Nat → Prop) (w w' : World) (T' : PT) : Prop := ∃ F', TreeIs w' tb T' F' ∧ Turn F w w' ∧ ∀ k, F' k → F k ∨ w.heap.size ≤ k
section
variable {w w' w1 w2 : World} {tb nm b d : Nat} {T T1 T2 : PT} {B D : Int → Nat} {F : Nat → Prop} {p p' : PN} {n : Int}
theorem TreeTo.same (h : TreeIs w tb T F) (t : Turn (fun _ => False) w w') : TreeTo tb F w w' T := ⟨F, h.turned t (fun _ _ => id), t.mono (fun _ _ h => h.elim), fun _ h => .inl h⟩
theorem TreeTo.before (h : TreeTo tb F w1 w2 T2) (t : Turn (fun _ => False) w w1) : TreeTo tb F w w2 T2 := by
  obtain ⟨F', a, b, c⟩ := h
  exact ⟨F', a, (t.mono (fun _ _ h => h.elim)).trans b, fun k hk => (c k hk).imp id (fun h => Nat.le_trans t.size h)⟩
theorem keysB_put (B : Int → Nat) (hn : mget T n = some p) : keysB B (mput T n p') = keysB B T := by
  unfold keysB mput
  rw [hn]
  simp only [Option.isSome_some, if_true]
  unfold mupd
  rw [List.map_map]
  refine List.map_congr_left fun t _ => ?_
  show ((if t.1 = n then (t.1, p') else t).1, B (if t.1 = n then (t.1, p') else t).1) = (t.1, B t.1)
  by_cases e : t.1 = n
  · rw [if_pos e]
  · rw [if_neg e]
theorem foot_put (hn : mget T n = some p) (hd : p'.isDir = p.isDir) : TrFoot tb nm (mput T n p') B D = TrFoot tb nm T B D := by
  funext k
  apply propext
  unfold TrFoot
  constructor
  · rintro (h | h | ⟨m, q, hq, h⟩)
    · exact .inl h
    · exact .inr (.inl h)
    · rw [mget_mput] at hq
      by_cases e : m = n
      · rw [if_pos e] at hq
        cases hq
        rw [hd] at h
        exact .inr (.inr ⟨m, p, by rw [e]; exact hn, h⟩)
      · rw [if_neg e] at hq
        exact .inr (.inr ⟨m, q, hq, h⟩)
  · rintro (h | h | ⟨m, q, hq, h⟩)
    · exact .inl h
    · exact .inr (.inl h)
    · by_cases e : m = n
      · rw [e, hn] at hq
        cases hq
        rw [← hd] at h
        exact .inr (.inr ⟨m, p', by rw [mget_mput, if_pos e], h⟩)
      · exact .inr (.inr ⟨m, q, by rw [mget_mput, if_neg e]; exact hq, h⟩)
/-- One node changes where it lies. -/
theorem TreeIn.put (h : TreeIn w tb nm T B D) (hn : mget T n = some p) (hd : p'.isDir = p.isDir) (nd' : NdAt w' (B n) (D n) p') (t : Turn (fun k => k = B n ∨ (p.isDir = true ∧ k = D n)) w w') : TreeIn w' tb nm (mput T n p') B D := by
  have hget : ∀ m q, mget (mput T n p') m = some q → (m = n ∧ q = p') ∨ (m ≠ n ∧ mget T m = some q) := fun m q hq => by
    rw [mget_mput] at hq
    by_cases e : m = n
    · rw [if_pos e] at hq; cases hq; exact .inl ⟨e, rfl⟩
    · rw [if_neg e] at hq; exact .inr ⟨e, hq⟩
  have hold : ∀ m q, mget (mput T n p') m = some q → ∃ q0, mget T m = some q0 ∧ q.isDir = q0.isDir := fun m q hq => by
    rcases hget m q hq with ⟨rfl, rfl⟩ | ⟨_, h2⟩
    · exact ⟨p, hn, hd⟩
    · exact ⟨q, h2, rfl⟩
  have ho := h.own n p hn
  refine ⟨(t.cell (a := ⟨tb, 0, none⟩) (lt_of_cell h.hdr) (fun e => ?_)).trans h.hdr, ?_, fun m q hq => ?_, fun m k q r hq hr hne => ?_, fun m k q r hq hr h1 h2 hne => ?_, fun m k q r hq hr h1 => ?_, fun m q hq => ?_, h.ne⟩
  · rcases e with e | ⟨e1, e2⟩
    · exact ho.1.1 e.symm
    · exact (ho.2 e1).1 e2.symm
  · rw [keysB_put B hn]
    exact h.mp.turned t (fun e => by
      rcases e with e | ⟨e1, e2⟩
      · exact ho.1.2 e.symm
      · exact (ho.2 e1).2 e2.symm)
  · rcases hget m q hq with ⟨rfl, rfl⟩ | ⟨e, h2⟩
    · exact nd'
    · refine (h.nd m q h2).turned t (fun e2 => ?_) (fun hq2 e2 => ?_)
      · rcases e2 with e2 | ⟨e1, e2⟩
        · exact h.bb m n q p h2 hn e e2
        · exact h.bd m n q p h2 hn e1 e2
      · rcases e2 with e2 | ⟨e1, e2⟩
        · exact h.bd n m p q hn h2 hq2 e2.symm
        · exact h.dd m n q p h2 hn hq2 e1 e e2
  · obtain ⟨q0, a, _⟩ := hold m q hq
    obtain ⟨r0, b, _⟩ := hold k r hr
    exact h.bb m k q0 r0 a b hne
  · obtain ⟨q0, a, e1⟩ := hold m q hq
    obtain ⟨r0, b, e2⟩ := hold k r hr
    exact h.dd m k q0 r0 a b (e1 ▸ h1) (e2 ▸ h2) hne
  · obtain ⟨q0, a, _⟩ := hold m q hq
    obtain ⟨r0, b, e2⟩ := hold k r hr
    exact h.bd m k q0 r0 a b (e2 ▸ h1)
  · obtain ⟨q0, a, e1⟩ := hold m q hq
    have := h.own m q0 a
    exact ⟨this.1, fun e => this.2 (e1 ▸ e)⟩
theorem NdAt.setHeld (h : NdAt w b d p) (hne : p.isDir = true → b ≠ d) {z : Int} {c : Nat} (hz : z = c) : NdAt (w.setCell ⟨b, 3, none⟩ (.int .i64 z)) b d { p with held := c } :=
  ⟨(World.cell?_setCell_other _ _ _ _ (fun e => by simp at e)).trans h.c0, (World.cell?_setCell_other _ _ _ _ (fun e => by simp at e)).trans h.c1, (World.cell?_setCell_other _ _ _ _ (fun e => by simp at e)).trans h.c2,
    by rw [hz]; exact World.cell?_setCell_same _ _ _ h.c3, fun i => by rw [World.frozen?_setCell]; exact h.fz i, fun e => (h.dir e).turned (S := fun k => k = b) ((Turn.refl _ w).setCell _ _ (fun _ => rfl)) (fun e2 => hne e e2.symm)⟩
theorem NdAt.setNames (h : NdAt w b d p) (hne : p.isDir = true → b ≠ d) {z : Int} {c : Nat} (hz : z = c) : NdAt (w.setCell ⟨b, 2, none⟩ (.int .i64 z)) b d { p with names := c } :=
  ⟨(World.cell?_setCell_other _ _ _ _ (fun e => by simp at e)).trans h.c0, (World.cell?_setCell_other _ _ _ _ (fun e => by simp at e)).trans h.c1, by rw [hz]; exact World.cell?_setCell_same _ _ _ h.c2,
    (World.cell?_setCell_other _ _ _ _ (fun e => by simp at e)).trans h.c3, fun i => by rw [World.frozen?_setCell]; exact h.fz i, fun e => (h.dir e).turned (S := fun k => k = b) ((Turn.refl _ w).setCell _ _ (fun _ => rfl)) (fun e2 => hne e e2.symm)⟩
theorem NdAt.setData (h : NdAt w b d p) (hne : p.isDir = true → b ≠ d) (x : ByteArray) : NdAt (w.setCell ⟨b, 1, none⟩ (.string x)) b d { p with data := x } :=
  ⟨(World.cell?_setCell_other _ _ _ _ (fun e => by simp at e)).trans h.c0, World.cell?_setCell_same _ _ _ h.c1, (World.cell?_setCell_other _ _ _ _ (fun e => by simp at e)).trans h.c2,
    (World.cell?_setCell_other _ _ _ _ (fun e => by simp at e)).trans h.c3, fun i => by rw [World.frozen?_setCell]; exact h.fz i, fun e => (h.dir e).turned (S := fun k => k = b) ((Turn.refl _ w).setCell _ _ (fun _ => rfl)) (fun e2 => hne e e2.symm)⟩
theorem TreeIn.apart (h : TreeIn w tb nm T B D) (hn : mget T n = some p) : p.isDir = true → B n ≠ D n := fun e => h.bd n n p p hn hn e
/-- Behind a store into a node. -/
theorem TreeIn.to (h : TreeIn w tb nm T B D) (hok : TOk (mput T n p')) (hn : mget T n = some p) (hd : p'.isDir = p.isDir) (nd' : NdAt w' (B n) (D n) p') (t : Turn (fun k => k = B n ∨ (p.isDir = true ∧ k = D n)) w w') : TreeTo tb (TrFoot tb nm T B D) w w' (mput T n p') := by
  refine ⟨TrFoot tb nm T B D, ⟨nm, B, D, h.put hn hd nd' t, hok, (foot_put hn hd).symm⟩, t.mono (fun k _ hk => ?_), fun _ hk => .inl hk⟩
  rcases hk with rfl | ⟨e, rfl⟩
  · exact .inr (.inr ⟨n, p, hn, .inl rfl⟩)
  · exact .inr (.inr ⟨n, p, hn, .inr ⟨e, rfl⟩⟩)
theorem keysB_del (B : Int → Nat) (T : PT) (n : Int) : keysB B (mdel T n) = mdel (keysB B T) n := by
  unfold keysB mdel
  rw [List.filter_map]
  rfl
theorem TreeIn.del (h : TreeIn w tb nm T B D) (hm : MapIs w' nm (.int .i64) encI ptrV (mdel (keysB B T) n)) (t : Turn (fun k => k = nm) w w') : TreeIn w' tb nm (mdel T n) B D := by
  have hget : ∀ m q, mget (mdel T n) m = some q → mget T m = some q := fun m q hq => by
    rw [mget_mdel] at hq
    split at hq
    · cases hq
    · exact hq
  refine ⟨(t.cell (a := ⟨tb, 0, none⟩) (lt_of_cell h.hdr) h.ne).trans h.hdr, by rw [keysB_del]; exact hm, fun m q hq => ?_, fun m k q r hq hr => h.bb m k q r (hget m q hq) (hget k r hr), fun m k q r hq hr => h.dd m k q r (hget m q hq) (hget k r hr), fun m k q r hq hr => h.bd m k q r (hget m q hq) (hget k r hr), fun m q hq => h.own m q (hget m q hq), h.ne⟩
  have ho := h.own m q (hget m q hq)
  exact (h.nd m q (hget m q hq)).turned t ho.1.2 (fun e => (ho.2 e).2)
theorem foot_del (k : Nat) (hk : TrFoot tb nm (mdel T n) B D k) : TrFoot tb nm T B D k := by
  rcases hk with h | h | ⟨m, q, hq, h⟩
  · exact .inl h
  · exact .inr (.inl h)
  · rw [mget_mdel] at hq
    split at hq
    · cases hq
    · exact .inr (.inr ⟨m, q, hq, h⟩)
/-- A node goes that has no names, and is not held. -/
def goneT (T : PT) (n : Int) (p : PN) : PT := if p.names = 0 ∧ p.held = 0 then mdel T n else T
set_option maxRecDepth 100000 in
theorem goes_is (h : TreeIn w tb nm T B D) (hok : TOk T) (hn : mget T n = some p) (hds : p.ds = []) :
    Calls Tryd.prog 142 #[.pointer (some ⟨tb, 0, none⟩), .int .i64 n] w fun e w' => e = .returned (.tuple #[]) ∧ TreeTo tb (TrFoot tb nm T B D) w w' (goneT T n p) := by
  have H := hid h
  have HOk := hid hok
  have hh := h.hdr
  have lk := h.look hn
  have c2 := (h.nd n p hn).c2
  have c3 := (h.nd n p hn).c3
  have HN := hid hn
  by_cases h1 : p.names = 0
  · by_cases h2 : p.held = 0
    · obtain ⟨w3, hrun, hmp, t3⟩ := h.mp.run_delete (P := Tryd.prog) (ty := 0) keyI Tryd.underlying205 Tryd.underlying3 n
      replace hrun : (Builtin.delete_ #[205, 3] 0 #[.map (some nm), .int .i64 n]).run Tryd.prog w = .ok (.tuple #[]) w3 := hrun
      have hg : goneT T n p = mdel T n := if_pos ⟨h1, h2⟩
      have HG := hid hg
      have HD := hid (hok.del hn h1 hds)
      rw [h1] at c2
      rw [h2] at c3
      have HM3 := hid hmp
      have HT3 := hid t3
      clear h hok hn h1 h2 hg hmp t3
      go_enter Tryd.func142, Tryd.ntmps142
      go_wp2_with fail
      go_returns
      rw [HG.out]
      refine ⟨rfl, _, ⟨nm, B, D, H.out.del HM3.out HT3.out, HD.out, rfl⟩, HT3.out.mono (fun k _ hk => .inr (.inl hk)), fun k hk => .inl (foot_del k hk)⟩
    · have hg : goneT T n p = T := if_neg (fun e => h2 e.2)
      have h2' : ((p.held : Int) == 0) = false := beq_eq_false_iff_ne.2 (by omega)
      rw [h1] at c2
      clear h hok hn h1 h2
      go_enter Tryd.func142, Tryd.ntmps142
      go_wp2_with fail
      go_returns
      rw [hg]
      exact ⟨rfl, TreeTo.same ⟨nm, B, D, H.out, HOk.out, rfl⟩ (Turn.refl _ _)⟩
  · have hg : goneT T n p = T := if_neg (fun e => h1 e.1)
    have h1' : ((p.names : Int) == 0) = false := beq_eq_false_iff_ne.2 (by omega)
    clear h hok hn h1
    go_enter Tryd.func142, Tryd.ntmps142
    go_wp2_with fail
    go_returns
    rw [hg]
    exact ⟨rfl, TreeTo.same ⟨nm, B, D, H.out, HOk.out, rfl⟩ (Turn.refl _ _)⟩
def holdT (T : PT) (n : Int) : PT := (mget T n).elim T fun p => if p.isDir then T else mput T n { p with held := p.held + 1 }
theorem holdT_err (h : fileE T n ≠ 0) : holdT T n = T := by
  unfold holdT
  cases hn : mget T n with
  | none => rfl
  | some p =>
    cases hd : p.isDir with
    | true => show (if p.isDir then T else _) = T; rw [hd]; rfl
    | false => exact absurd (fileE_file hn hd) h
theorem holdT_file (hn : mget T n = some p) (hd : p.isDir = false) : holdT T n = mput T n { p with held := p.held + 1 } := by
  unfold holdT; rw [hn]; show (if p.isDir then T else _) = _; rw [hd]; rfl
set_option maxRecDepth 100000 in
theorem hold_is (h : TreeIs w tb T F) (n : Int) (hb : ∀ p, mget T n = some p → p.held < 1000000) :
    Calls Tryd.prog 90 #[.pointer (some ⟨tb, 0, none⟩), .int .i64 n] w fun e w' => e = .returned (TErr (fileE T n)) ∧ TreeTo tb F w w' (holdT T n) := by
  have HI := hid h
  obtain ⟨nm, B, D, hin, hok, rfl⟩ := h
  have H := hid hin
  have HOk := hid hok
  have HF := hid (file_is hin n)
  have HB := hid hb
  clear hin hok hb
  go_enter Tryd.func90, Tryd.ntmps90
  go_wp2_with fail
  refine HF.out.mono ?_
  rintro e w1 ⟨⟨hz, rfl⟩ | ⟨p, hn, hd, hz, rfl⟩, hw⟩ <;> subst w1
  · have te := TErr_of hz
    have hT := holdT_err hz
    have HT := hid hT
    clear hz hT
    go_wp2_with fail
    go_returns
    rw [HT.out]
    exact ⟨congrArg Ending.returned te.symm, TreeTo.same HI.out (Turn.refl _ _)⟩
  · have nd := H.out.nd n p hn
    have c3 := nd.c3
    have f3 := nd.fz 3
    have hlt := HB.out p hn
    have HN := hid hn
    have HD := hid hd
    have HZ := hid hz
    have hwr : wrap64 ((p.held : Int) + 1) = p.held + 1 := IntWalk.wrap64_in _ (by omega)
    clear nd hn hd hz
    go_wp2_with fail
    go_returns
    rw [HZ.out, holdT_file HN.out HD.out]
    refine ⟨rfl, ?_⟩
    exact H.out.to (HOk.out.upd HN.out rfl rfl rfl (HOk.out.data n p HN.out)) HN.out rfl ((H.out.nd n p HN.out).setHeld (H.out.apart HN.out) (by omega)) ((Turn.refl _ _).setCell _ _ (fun _ => .inl rfl))
theorem TreeTo.then_ {F1 : Nat → Prop} (t : Turn F w w1) (c : ∀ k, F1 k → F k ∨ w.heap.size ≤ k) (h : TreeTo tb F1 w1 w2 T2) : TreeTo tb F w w2 T2 := by
  obtain ⟨F', a, b, c2⟩ := h
  refine ⟨F', a, t.trans' b (fun k hk hf => ?_), fun k hk => ?_⟩
  · rcases c k hf with h1 | h1
    · exact h1
    · omega
  · rcases c2 k hk with h1 | h1
    · exact c k h1
    · exact .inr (Nat.le_trans t.size h1)
def dropE (T : PT) (n : Int) : Int := (mget T n).elim 7 fun p => if p.isDir then 6 else if p.held = 0 then 10 else 0
def dropT (T : PT) (n : Int) : PT := (mget T n).elim T fun p => if p.isDir then T else if p.held = 0 then T else goneT (mput T n { p with held := p.held - 1 }) n { p with held := p.held - 1 }
theorem drop_err (h : fileE T n ≠ 0) : dropE T n = fileE T n ∧ dropT T n = T := by
  unfold dropE dropT fileE at *
  cases hn : mget T n with
  | none => exact ⟨rfl, rfl⟩
  | some p =>
    rw [hn] at h
    cases hd : p.isDir with
    | true => show (if p.isDir then _ else _) = (if p.isDir then _ else _) ∧ (if p.isDir then _ else _) = _; rw [hd]; exact ⟨rfl, rfl⟩
    | false => exact absurd (show (if p.isDir then (6 : Int) else 0) = 0 by rw [hd]; rfl) h
theorem drop_none (hn : mget T n = some p) (hd : p.isDir = false) (h0 : p.held = 0) : dropE T n = 10 ∧ dropT T n = T := by
  unfold dropE dropT; rw [hn]
  show (if p.isDir then _ else if p.held = 0 then _ else _) = _ ∧ (if p.isDir then _ else if p.held = 0 then _ else _) = _
  rw [hd, if_neg Bool.false_ne_true, if_neg Bool.false_ne_true, if_pos h0, if_pos h0]; exact ⟨rfl, rfl⟩
theorem drop_file (hn : mget T n = some p) (hd : p.isDir = false) (h0 : p.held ≠ 0) : dropE T n = 0 ∧ dropT T n = goneT (mput T n { p with held := p.held - 1 }) n { p with held := p.held - 1 } := by
  unfold dropE dropT; rw [hn]
  show (if p.isDir then _ else if p.held = 0 then _ else _) = _ ∧ (if p.isDir then _ else if p.held = 0 then _ else _) = _
  rw [hd, if_neg Bool.false_ne_true, if_neg Bool.false_ne_true, if_neg h0, if_neg h0]; exact ⟨rfl, rfl⟩
set_option maxRecDepth 100000 in
theorem drop_is (h : TreeIs w tb T F) (n : Int) (hb : ∀ p, mget T n = some p → p.held < 1000000) :
    Calls Tryd.prog 97 #[.pointer (some ⟨tb, 0, none⟩), .int .i64 n] w fun e w' => e = .returned (TErr (dropE T n)) ∧ TreeTo tb F w w' (dropT T n) := by
  have HI := hid h
  obtain ⟨nm, B, D, hin, hok, rfl⟩ := h
  have H := hid hin
  have HOk := hid hok
  have HF := hid (file_is hin n)
  have HB := hid hb
  clear hin hok hb
  go_enter Tryd.func97, Tryd.ntmps97
  go_wp2_with fail
  refine HF.out.mono ?_
  rintro e w1 ⟨⟨hz, rfl⟩ | ⟨p, hn, hd, hz, rfl⟩, hw⟩ <;> subst w1
  · have te := TErr_of hz
    have HT := hid (drop_err hz)
    clear hz
    go_wp2_with fail
    go_returns
    rw [HT.out.1, HT.out.2]
    exact ⟨congrArg Ending.returned te.symm, TreeTo.same HI.out (Turn.refl _ _)⟩
  · have nd := H.out.nd n p hn
    have c3 := nd.c3
    have f3 := nd.fz 3
    have hlt := HB.out p hn
    have HN := hid hn
    have HD := hid hd
    by_cases h0 : p.held = 0
    · have HT := hid (drop_none hn hd h0)
      rw [h0] at c3
      clear nd hn hd hz h0
      go_wp2_with fail
      go_returns
      rw [HT.out.1, HT.out.2]
      exact ⟨rfl, TreeTo.same HI.out (Turn.refl _ _)⟩
    · have HT := hid (drop_file hn hd h0)
      have h0' : ((p.held : Int) == 0) = false := beq_eq_false_iff_ne.2 (by omega)
      have hwr : wrap64 ((p.held : Int) - 1) = p.held - 1 := IntWalk.wrap64_in _ (by omega)
      have tt : Turn (fun k => k = B n ∨ (p.isDir = true ∧ k = D n)) w (w.setCell ⟨B n, 3, none⟩ (.int .i64 ((p.held : Int) - 1))) := (Turn.refl _ _).setCell _ _ (fun _ => .inl rfl)
      have hput := H.out.put (p' := { p with held := p.held - 1 }) hn rfl (nd.setHeld (c := p.held - 1) (H.out.apart hn) (by omega)) tt
      have hok2 := HOk.out.upd (p' := { p with held := p.held - 1 }) hn rfl rfl rfl (HOk.out.data n p hn)
      have HG := hid (goes_is hput hok2 (p := { p with held := p.held - 1 }) (by rw [mget_mput, if_pos rfl]) (HOk.out.file n p hn hd))
      have HTt : Hid (Turn (TrFoot tb nm T B D) w (w.setCell ⟨B n, 3, none⟩ (.int .i64 ((p.held : Int) - 1)))) := hid (tt.mono (fun k _ hk => by
        rcases hk with rfl | ⟨e, rfl⟩
        · exact .inr (.inr ⟨n, p, hn, .inl rfl⟩)
        · exact .inr (.inr ⟨n, p, hn, .inr ⟨e, rfl⟩⟩)))
      clear nd hn hd hz h0 tt hput hok2
      go_wp2_with fail
      refine HG.out.mono ?_
      rintro e w2 ⟨rfl, hto⟩
      have HTo := hid hto
      clear hto
      go_wp2_with fail
      go_returns
      rw [HT.out.1, HT.out.2]
      exact ⟨rfl, HTo.out.then_ HTt.out (fun k hk => .inl (by rw [foot_put (p' := { p with held := p.held - 1 }) HN.out rfl] at hk; exact hk))⟩
end
end Go.Proofs.YtiohpmcedfbcgabDoor
