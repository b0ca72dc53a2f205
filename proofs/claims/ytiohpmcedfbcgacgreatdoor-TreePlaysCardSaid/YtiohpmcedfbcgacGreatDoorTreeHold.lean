/- Several texts of ours in one, in build order (TreeHold, TreeMake, TreeName, TreeMove, InsPut). Conditions: each theorem's own premises. -/
import Derived.Test.YtiohpmcedfbcgacGreatDoorTree
import Derived.Test.YtiohpmcedfbcgacGreatDoorTreePlain
import Derived.Test.YtiohpmcedfbcgacGreatDoorMaps
import Derived.BigRegion
/- Package tree: one node's change in memory; goes, Hold, Drop, Size. Conditions: each theorem's own premises. -/
namespace Go.Proofs.YtiohpmcedfbcgacGreatDoor
open Go.RowKit
set_option linter.unusedVariables false

/-- Behind a call: the tree T', on blocks that were the tree's, or are new. -/
def TreeTo (tb : Nat) (F : Nat → Prop) (w w' : World) (T' : PT) : Prop := ∃ F', TreeIs w' tb T' F' ∧ Turn F w w' ∧ ∀ k, F' k → F k ∨ w.heap.size ≤ k
section
variable {w w' w1 w2 : World} {tb nm b d : Nat} {T T1 T2 : PT} {B D : Int → Nat} {F : Nat → Prop} {p p' : PN} {n : Int}
theorem TreeTo.same (h : TreeIs w tb T F) (t : Turn (fun _ => False) w w') : TreeTo tb F w w' T := ⟨F, h.turned t (fun _ _ => id), t.mono (fun _ _ h => h.elim), fun _ h => .inl h⟩
theorem TreeTo.before (h : TreeTo tb F w1 w2 T2) (t : Turn (fun _ => False) w w1) : TreeTo tb F w w2 T2 := by
  obtain ⟨F', a, b, c⟩ := h
  exact ⟨F', a, (t.mono (fun _ _ h => h.elim)).trans b, fun k hk => (c k hk).imp id (fun h => Nat.le_trans t.size h)⟩
theorem keysB_put (B : Int → Nat) (hn : mget T n = some p) : keysB B (mput T n p') = keysB B T := by
  unfold keysB mput
  rw [hn]
  simp only [Option.isSome_some, if_true]
  unfold mupd
  rw [List.map_map]
  refine List.map_congr_left fun t _ => ?_
  show ((if t.1 = n then (t.1, p') else t).1, B (if t.1 = n then (t.1, p') else t).1) = (t.1, B t.1)
  by_cases e : t.1 = n
  · rw [if_pos e]
  · rw [if_neg e]
theorem foot_put (hn : mget T n = some p) (hd : p'.isDir = p.isDir) : TrFoot tb nm (mput T n p') B D = TrFoot tb nm T B D := by
  funext k
  apply propext
  unfold TrFoot
  constructor
  · rintro (h | h | ⟨m, q, hq, h⟩)
    · exact .inl h
    · exact .inr (.inl h)
    · rw [mget_mput] at hq
      by_cases e : m = n
      · rw [if_pos e] at hq
        cases hq
        rw [hd] at h
        exact .inr (.inr ⟨m, p, by rw [e]; exact hn, h⟩)
      · rw [if_neg e] at hq
        exact .inr (.inr ⟨m, q, hq, h⟩)
  · rintro (h | h | ⟨m, q, hq, h⟩)
    · exact .inl h
    · exact .inr (.inl h)
    · by_cases e : m = n
      · rw [e, hn] at hq
        cases hq
        rw [← hd] at h
        exact .inr (.inr ⟨m, p', by rw [mget_mput, if_pos e], h⟩)
      · exact .inr (.inr ⟨m, q, by rw [mget_mput, if_neg e]; exact hq, h⟩)
/-- One node changes where it lies. -/
theorem TreeIn.put (h : TreeIn w tb nm T B D) (hn : mget T n = some p) (hd : p'.isDir = p.isDir) (nd' : NdAt w' (B n) (D n) p') (t : Turn (fun k => k = B n ∨ (p.isDir = true ∧ k = D n)) w w') : TreeIn w' tb nm (mput T n p') B D := by
  have hget : ∀ m q, mget (mput T n p') m = some q → (m = n ∧ q = p') ∨ (m ≠ n ∧ mget T m = some q) := fun m q hq => by
    rw [mget_mput] at hq
    by_cases e : m = n
    · rw [if_pos e] at hq; cases hq; exact .inl ⟨e, rfl⟩
    · rw [if_neg e] at hq; exact .inr ⟨e, hq⟩
  have hold : ∀ m q, mget (mput T n p') m = some q → ∃ q0, mget T m = some q0 ∧ q.isDir = q0.isDir := fun m q hq => by
    rcases hget m q hq with ⟨rfl, rfl⟩ | ⟨_, h2⟩
    · exact ⟨p, hn, hd⟩
    · exact ⟨q, h2, rfl⟩
  have ho := h.own n p hn
  refine ⟨(t.cell (a := ⟨tb, 0, none⟩) (lt_of_cell h.hdr) (fun e => ?_)).trans h.hdr, ?_, fun m q hq => ?_, fun m k q r hq hr hne => ?_, fun m k q r hq hr h1 h2 hne => ?_, fun m k q r hq hr h1 => ?_, fun m q hq => ?_, h.ne⟩
  · rcases e with e | ⟨e1, e2⟩
    · exact ho.1.1 e.symm
    · exact (ho.2 e1).1 e2.symm
  · rw [keysB_put B hn]
    exact h.mp.turned t (fun e => by
      rcases e with e | ⟨e1, e2⟩
      · exact ho.1.2 e.symm
      · exact (ho.2 e1).2 e2.symm)
  · rcases hget m q hq with ⟨rfl, rfl⟩ | ⟨e, h2⟩
    · exact nd'
    · refine (h.nd m q h2).turned t (fun e2 => ?_) (fun hq2 e2 => ?_)
      · rcases e2 with e2 | ⟨e1, e2⟩
        · exact h.bb m n q p h2 hn e e2
        · exact h.bd m n q p h2 hn e1 e2
      · rcases e2 with e2 | ⟨e1, e2⟩
        · exact h.bd n m p q hn h2 hq2 e2.symm
        · exact h.dd m n q p h2 hn hq2 e1 e e2
  · obtain ⟨q0, a, _⟩ := hold m q hq
    obtain ⟨r0, b, _⟩ := hold k r hr
    exact h.bb m k q0 r0 a b hne
  · obtain ⟨q0, a, e1⟩ := hold m q hq
    obtain ⟨r0, b, e2⟩ := hold k r hr
    exact h.dd m k q0 r0 a b (e1 ▸ h1) (e2 ▸ h2) hne
  · obtain ⟨q0, a, _⟩ := hold m q hq
    obtain ⟨r0, b, e2⟩ := hold k r hr
    exact h.bd m k q0 r0 a b (e2 ▸ h1)
  · obtain ⟨q0, a, e1⟩ := hold m q hq
    have := h.own m q0 a
    exact ⟨this.1, fun e => this.2 (e1 ▸ e)⟩
theorem NdAt.setHeld (h : NdAt w b d p) (hne : p.isDir = true → b ≠ d) {z : Int} {c : Nat} (hz : z = c) : NdAt (w.setCell ⟨b, 3, none⟩ (.int .i64 z)) b d { p with held := c } :=
  ⟨(World.cell?_setCell_other _ _ _ _ (fun e => by simp at e)).trans h.c0, (World.cell?_setCell_other _ _ _ _ (fun e => by simp at e)).trans h.c1, (World.cell?_setCell_other _ _ _ _ (fun e => by simp at e)).trans h.c2,
    by rw [hz]; exact World.cell?_setCell_same _ _ _ h.c3, fun i => by rw [World.frozen?_setCell]; exact h.fz i, fun e => (h.dir e).turned (S := fun k => k = b) ((Turn.refl _ w).setCell _ _ (fun _ => rfl)) (fun e2 => hne e e2.symm)⟩
theorem NdAt.setNames (h : NdAt w b d p) (hne : p.isDir = true → b ≠ d) {z : Int} {c : Nat} (hz : z = c) : NdAt (w.setCell ⟨b, 2, none⟩ (.int .i64 z)) b d { p with names := c } :=
  ⟨(World.cell?_setCell_other _ _ _ _ (fun e => by simp at e)).trans h.c0, (World.cell?_setCell_other _ _ _ _ (fun e => by simp at e)).trans h.c1, by rw [hz]; exact World.cell?_setCell_same _ _ _ h.c2,
    (World.cell?_setCell_other _ _ _ _ (fun e => by simp at e)).trans h.c3, fun i => by rw [World.frozen?_setCell]; exact h.fz i, fun e => (h.dir e).turned (S := fun k => k = b) ((Turn.refl _ w).setCell _ _ (fun _ => rfl)) (fun e2 => hne e e2.symm)⟩
theorem NdAt.setData (h : NdAt w b d p) (hne : p.isDir = true → b ≠ d) (x : ByteArray) : NdAt (w.setCell ⟨b, 1, none⟩ (.string x)) b d { p with data := x } :=
  ⟨(World.cell?_setCell_other _ _ _ _ (fun e => by simp at e)).trans h.c0, World.cell?_setCell_same _ _ _ h.c1, (World.cell?_setCell_other _ _ _ _ (fun e => by simp at e)).trans h.c2,
    (World.cell?_setCell_other _ _ _ _ (fun e => by simp at e)).trans h.c3, fun i => by rw [World.frozen?_setCell]; exact h.fz i, fun e => (h.dir e).turned (S := fun k => k = b) ((Turn.refl _ w).setCell _ _ (fun _ => rfl)) (fun e2 => hne e e2.symm)⟩
theorem TreeIn.apart (h : TreeIn w tb nm T B D) (hn : mget T n = some p) : p.isDir = true → B n ≠ D n := fun e => h.bd n n p p hn hn e
/-- Behind a store into a node. -/
theorem TreeIn.to (h : TreeIn w tb nm T B D) (hok : TOk (mput T n p')) (hn : mget T n = some p) (hd : p'.isDir = p.isDir) (nd' : NdAt w' (B n) (D n) p') (t : Turn (fun k => k = B n ∨ (p.isDir = true ∧ k = D n)) w w') : TreeTo tb (TrFoot tb nm T B D) w w' (mput T n p') := by
  refine ⟨TrFoot tb nm T B D, ⟨nm, B, D, h.put hn hd nd' t, hok, (foot_put hn hd).symm⟩, t.mono (fun k _ hk => ?_), fun _ hk => .inl hk⟩
  rcases hk with rfl | ⟨e, rfl⟩
  · exact .inr (.inr ⟨n, p, hn, .inl rfl⟩)
  · exact .inr (.inr ⟨n, p, hn, .inr ⟨e, rfl⟩⟩)
theorem keysB_del (B : Int → Nat) (T : PT) (n : Int) : keysB B (mdel T n) = mdel (keysB B T) n := by
  unfold keysB mdel
  rw [List.filter_map]
  rfl
theorem TreeIn.del (h : TreeIn w tb nm T B D) (hm : MapIs w' nm (.int .i64) encI ptrV (mdel (keysB B T) n)) (t : Turn (fun k => k = nm) w w') : TreeIn w' tb nm (mdel T n) B D := by
  have hget : ∀ m q, mget (mdel T n) m = some q → mget T m = some q := fun m q hq => by
    rw [mget_mdel] at hq
    split at hq
    · cases hq
    · exact hq
  refine ⟨(t.cell (a := ⟨tb, 0, none⟩) (lt_of_cell h.hdr) h.ne).trans h.hdr, by rw [keysB_del]; exact hm, fun m q hq => ?_, fun m k q r hq hr => h.bb m k q r (hget m q hq) (hget k r hr), fun m k q r hq hr => h.dd m k q r (hget m q hq) (hget k r hr), fun m k q r hq hr => h.bd m k q r (hget m q hq) (hget k r hr), fun m q hq => h.own m q (hget m q hq), h.ne⟩
  have ho := h.own m q (hget m q hq)
  exact (h.nd m q (hget m q hq)).turned t ho.1.2 (fun e => (ho.2 e).2)
theorem foot_del (k : Nat) (hk : TrFoot tb nm (mdel T n) B D k) : TrFoot tb nm T B D k := by
  rcases hk with h | h | ⟨m, q, hq, h⟩
  · exact .inl h
  · exact .inr (.inl h)
  · rw [mget_mdel] at hq
    split at hq
    · cases hq
    · exact .inr (.inr ⟨m, q, hq, h⟩)
/-- A node goes that has no names, and is not held. -/
def goneT (T : PT) (n : Int) (p : PN) : PT := if p.names = 0 ∧ p.held = 0 then mdel T n else T
set_option maxRecDepth 100000 in
theorem goes_is (h : TreeIn w tb nm T B D) (hok : TOk T) (hn : mget T n = some p) (hds : p.ds = []) :
    Calls Tryz.prog 116 #[.pointer (some ⟨tb, 0, none⟩), .int .i64 n] w fun e w' => e = .returned (.tuple #[]) ∧ TreeTo tb (TrFoot tb nm T B D) w w' (goneT T n p) := by
  have H := hid h
  have HOk := hid hok
  have hh := h.hdr
  have lk := h.look hn
  have c2 := (h.nd n p hn).c2
  have c3 := (h.nd n p hn).c3
  have HN := hid hn
  by_cases h1 : p.names = 0
  · by_cases h2 : p.held = 0
    · obtain ⟨w3, hrun, hmp, t3⟩ := h.mp.run_delete (P := Tryz.prog) (ty := 0) keyI Tryz.underlying169 Tryz.underlying3 n
      replace hrun : (Builtin.delete_ #[169, 3] 0 #[.map (some nm), .int .i64 n]).run Tryz.prog w = .ok (.tuple #[]) w3 := hrun
      have hg : goneT T n p = mdel T n := if_pos ⟨h1, h2⟩
      have HG := hid hg
      have HD := hid (hok.del hn h1 hds)
      rw [h1] at c2
      rw [h2] at c3
      have HM3 := hid hmp
      have HT3 := hid t3
      clear h hok hn h1 h2 hg hmp t3
      go_enter Tryz.func116, Tryz.ntmps116
      go_wp2_with fail
      go_returns
      rw [HG.out]
      refine ⟨rfl, _, ⟨nm, B, D, H.out.del HM3.out HT3.out, HD.out, rfl⟩, HT3.out.mono (fun k _ hk => .inr (.inl hk)), fun k hk => .inl (foot_del k hk)⟩
    · have hg : goneT T n p = T := if_neg (fun e => h2 e.2)
      have h2' : ((p.held : Int) == 0) = false := beq_eq_false_iff_ne.2 (by omega)
      rw [h1] at c2
      clear h hok hn h1 h2
      go_enter Tryz.func116, Tryz.ntmps116
      go_wp2_with fail
      go_returns
      rw [hg]
      exact ⟨rfl, TreeTo.same ⟨nm, B, D, H.out, HOk.out, rfl⟩ (Turn.refl _ _)⟩
  · have hg : goneT T n p = T := if_neg (fun e => h1 e.1)
    have h1' : ((p.names : Int) == 0) = false := beq_eq_false_iff_ne.2 (by omega)
    clear h hok hn h1
    go_enter Tryz.func116, Tryz.ntmps116
    go_wp2_with fail
    go_returns
    rw [hg]
    exact ⟨rfl, TreeTo.same ⟨nm, B, D, H.out, HOk.out, rfl⟩ (Turn.refl _ _)⟩
def holdT (T : PT) (n : Int) : PT := (mget T n).elim T fun p => if p.isDir then T else mput T n { p with held := p.held + 1 }
theorem holdT_err (h : fileE T n ≠ 0) : holdT T n = T := by
  unfold holdT
  cases hn : mget T n with
  | none => rfl
  | some p =>
    cases hd : p.isDir with
    | true => show (if p.isDir then T else _) = T; rw [hd]; rfl
    | false => exact absurd (fileE_file hn hd) h
theorem holdT_file (hn : mget T n = some p) (hd : p.isDir = false) : holdT T n = mput T n { p with held := p.held + 1 } := by
  unfold holdT; rw [hn]; show (if p.isDir then T else _) = _; rw [hd]; rfl
set_option maxRecDepth 100000 in
theorem hold_is (h : TreeIs w tb T F) (n : Int) (hb : ∀ p, mget T n = some p → p.held < 1000000) :
    Calls Tryz.prog 106 #[.pointer (some ⟨tb, 0, none⟩), .int .i64 n] w fun e w' => e = .returned (TErr (fileE T n)) ∧ TreeTo tb F w w' (holdT T n) := by
  have HI := hid h
  obtain ⟨nm, B, D, hin, hok, rfl⟩ := h
  have H := hid hin
  have HOk := hid hok
  have HF := hid (file_is hin n)
  have HB := hid hb
  clear hin hok hb
  go_enter Tryz.func106, Tryz.ntmps106
  go_wp2_with fail
  refine HF.out.mono ?_
  rintro e w1 ⟨⟨hz, rfl⟩ | ⟨p, hn, hd, hz, rfl⟩, hw⟩ <;> subst w1
  · have te := TErr_of hz
    have hT := holdT_err hz
    have HT := hid hT
    clear hz hT
    go_wp2_with fail
    go_returns
    rw [HT.out]
    exact ⟨congrArg Ending.returned te.symm, TreeTo.same HI.out (Turn.refl _ _)⟩
  · have nd := H.out.nd n p hn
    have c3 := nd.c3
    have f3 := nd.fz 3
    have hlt := HB.out p hn
    have HN := hid hn
    have HD := hid hd
    have HZ := hid hz
    have hwr : wrap64 ((p.held : Int) + 1) = p.held + 1 := IntWalk.wrap64_in _ (by omega)
    clear nd hn hd hz
    go_wp2_with fail
    go_returns
    rw [HZ.out, holdT_file HN.out HD.out]
    refine ⟨rfl, ?_⟩
    exact H.out.to (HOk.out.upd HN.out rfl rfl rfl (HOk.out.data n p HN.out)) HN.out rfl ((H.out.nd n p HN.out).setHeld (H.out.apart HN.out) (by omega)) ((Turn.refl _ _).setCell _ _ (fun _ => .inl rfl))
theorem TreeTo.then_ {F1 : Nat → Prop} (t : Turn F w w1) (c : ∀ k, F1 k → F k ∨ w.heap.size ≤ k) (h : TreeTo tb F1 w1 w2 T2) : TreeTo tb F w w2 T2 := by
  obtain ⟨F', a, b, c2⟩ := h
  refine ⟨F', a, t.trans' b (fun k hk hf => ?_), fun k hk => ?_⟩
  · rcases c k hf with h1 | h1
    · exact h1
    · omega
  · rcases c2 k hk with h1 | h1
    · exact c k h1
    · exact .inr (Nat.le_trans t.size h1)
def dropE (T : PT) (n : Int) : Int := (mget T n).elim 7 fun p => if p.isDir then 6 else if p.held = 0 then 10 else 0
def dropT (T : PT) (n : Int) : PT := (mget T n).elim T fun p => if p.isDir then T else if p.held = 0 then T else goneT (mput T n { p with held := p.held - 1 }) n { p with held := p.held - 1 }
theorem drop_err (h : fileE T n ≠ 0) : dropE T n = fileE T n ∧ dropT T n = T := by
  unfold dropE dropT fileE at *
  cases hn : mget T n with
  | none => exact ⟨rfl, rfl⟩
  | some p =>
    rw [hn] at h
    cases hd : p.isDir with
    | true => show (if p.isDir then _ else _) = (if p.isDir then _ else _) ∧ (if p.isDir then _ else _) = _; rw [hd]; exact ⟨rfl, rfl⟩
    | false => exact absurd (show (if p.isDir then (6 : Int) else 0) = 0 by rw [hd]; rfl) h
theorem drop_none (hn : mget T n = some p) (hd : p.isDir = false) (h0 : p.held = 0) : dropE T n = 10 ∧ dropT T n = T := by
  unfold dropE dropT; rw [hn]
  show (if p.isDir then _ else if p.held = 0 then _ else _) = _ ∧ (if p.isDir then _ else if p.held = 0 then _ else _) = _
  rw [hd, if_neg Bool.false_ne_true, if_neg Bool.false_ne_true, if_pos h0, if_pos h0]; exact ⟨rfl, rfl⟩
theorem drop_file (hn : mget T n = some p) (hd : p.isDir = false) (h0 : p.held ≠ 0) : dropE T n = 0 ∧ dropT T n = goneT (mput T n { p with held := p.held - 1 }) n { p with held := p.held - 1 } := by
  unfold dropE dropT; rw [hn]
  show (if p.isDir then _ else if p.held = 0 then _ else _) = _ ∧ (if p.isDir then _ else if p.held = 0 then _ else _) = _
  rw [hd, if_neg Bool.false_ne_true, if_neg Bool.false_ne_true, if_neg h0, if_neg h0]; exact ⟨rfl, rfl⟩
set_option maxRecDepth 100000 in
theorem drop_is (h : TreeIs w tb T F) (n : Int) (hb : ∀ p, mget T n = some p → p.held < 1000000) :
    Calls Tryz.prog 108 #[.pointer (some ⟨tb, 0, none⟩), .int .i64 n] w fun e w' => e = .returned (TErr (dropE T n)) ∧ TreeTo tb F w w' (dropT T n) := by
  have HI := hid h
  obtain ⟨nm, B, D, hin, hok, rfl⟩ := h
  have H := hid hin
  have HOk := hid hok
  have HF := hid (file_is hin n)
  have HB := hid hb
  clear hin hok hb
  go_enter Tryz.func108, Tryz.ntmps108
  go_wp2_with fail
  refine HF.out.mono ?_
  rintro e w1 ⟨⟨hz, rfl⟩ | ⟨p, hn, hd, hz, rfl⟩, hw⟩ <;> subst w1
  · have te := TErr_of hz
    have HT := hid (drop_err hz)
    clear hz
    go_wp2_with fail
    go_returns
    rw [HT.out.1, HT.out.2]
    exact ⟨congrArg Ending.returned te.symm, TreeTo.same HI.out (Turn.refl _ _)⟩
  · have nd := H.out.nd n p hn
    have c3 := nd.c3
    have f3 := nd.fz 3
    have hlt := HB.out p hn
    have HN := hid hn
    have HD := hid hd
    by_cases h0 : p.held = 0
    · have HT := hid (drop_none hn hd h0)
      rw [h0] at c3
      clear nd hn hd hz h0
      go_wp2_with fail
      go_returns
      rw [HT.out.1, HT.out.2]
      exact ⟨rfl, TreeTo.same HI.out (Turn.refl _ _)⟩
    · have HT := hid (drop_file hn hd h0)
      have h0' : ((p.held : Int) == 0) = false := beq_eq_false_iff_ne.2 (by omega)
      have hwr : wrap64 ((p.held : Int) - 1) = p.held - 1 := IntWalk.wrap64_in _ (by omega)
      have tt : Turn (fun k => k = B n ∨ (p.isDir = true ∧ k = D n)) w (w.setCell ⟨B n, 3, none⟩ (.int .i64 ((p.held : Int) - 1))) := (Turn.refl _ _).setCell _ _ (fun _ => .inl rfl)
      have hput := H.out.put (p' := { p with held := p.held - 1 }) hn rfl (nd.setHeld (c := p.held - 1) (H.out.apart hn) (by omega)) tt
      have hok2 := HOk.out.upd (p' := { p with held := p.held - 1 }) hn rfl rfl rfl (HOk.out.data n p hn)
      have HG := hid (goes_is hput hok2 (p := { p with held := p.held - 1 }) (by rw [mget_mput, if_pos rfl]) (HOk.out.file n p hn hd))
      have HTt : Hid (Turn (TrFoot tb nm T B D) w (w.setCell ⟨B n, 3, none⟩ (.int .i64 ((p.held : Int) - 1)))) := hid (tt.mono (fun k _ hk => by
        rcases hk with rfl | ⟨e, rfl⟩
        · exact .inr (.inr ⟨n, p, hn, .inl rfl⟩)
        · exact .inr (.inr ⟨n, p, hn, .inr ⟨e, rfl⟩⟩)))
      clear nd hn hd hz h0 tt hput hok2
      go_wp2_with fail
      refine HG.out.mono ?_
      rintro e w2 ⟨rfl, hto⟩
      have HTo := hid hto
      clear hto
      go_wp2_with fail
      go_returns
      rw [HT.out.1, HT.out.2]
      exact ⟨rfl, HTo.out.then_ HTt.out (fun k hk => .inl (by rw [foot_put (p' := { p with held := p.held - 1 }) HN.out rfl] at hk; exact hk))⟩
end
end Go.Proofs.YtiohpmcedfbcgacGreatDoor
/- Package tree: New, make, Mkdir, Create. Conditions: each theorem's own premises. -/
namespace Go.Proofs.YtiohpmcedfbcgacGreatDoor
open Go.RowKit
set_option linter.unusedVariables false

def leastT (T : PT) : Nat → Nat → Nat
  | 0, k => k
  | f + 1, k => if (mget T (k : Int)).isSome then leastT T f (k + 1) else k
/-- The least number from 1 on that no node has. -/
def freeT (T : PT) : Nat := leastT T 60 1
theorem leastT_spec (T : PT) : ∀ (f k : Nat), k ≤ leastT T f k ∧ leastT T f k ≤ k + f ∧ (∀ i : Nat, k ≤ i → i < leastT T f k → (mget T (i : Int)).isSome = true) ∧ (leastT T f k < k + f → mget T ((leastT T f k : Nat) : Int) = none)
  | 0, k => ⟨Nat.le_refl _, Nat.le_refl _, fun i h1 h2 => by unfold leastT at h2; omega, fun h => by unfold leastT at h; omega⟩
  | f + 1, k => by
    unfold leastT
    cases hk : mget T (k : Int) with
    | none =>
      simp only [Option.isSome_none, Bool.false_eq_true, if_false]
      exact ⟨Nat.le_refl _, by omega, fun i h1 h2 => by omega, fun _ => hk⟩
    | some p =>
      simp only [Option.isSome_some, if_true]
      obtain ⟨a, b, c, d⟩ := leastT_spec T f (k + 1)
      refine ⟨by omega, by omega, fun i h1 h2 => ?_, fun h => d (by omega)⟩
      by_cases e : i = k
      · rw [e, hk]; rfl
      · exact c i (by omega) h2
theorem keys_fillT : ∀ (k : Nat) (T : PT), MNodup T → (∀ i : Int, 0 ≤ i → i < k → (mget T i).isSome = true) → k ≤ T.length
  | 0, T, _, _ => Nat.zero_le _
  | k + 1, T, hn, h => by
    obtain ⟨v, hv⟩ := Option.isSome_iff_exists.1 (h (k : Int) (by omega) (by omega))
    have h1 := mdel_length hn hv
    have h2 := keys_fillT k (mdel T (k : Int)) (mdel_nodup hn _) (fun i h1 h2 => by
      rw [mget_mdel, if_neg (by omega)]
      exact h i h1 (by omega))
    omega
theorem freeT_spec {T : PT} (h : TOk T) (hl : T.length < 60) : 1 ≤ freeT T ∧ freeT T < 60 ∧ mget T (freeT T : Int) = none ∧ ∀ i : Nat, 1 ≤ i → i < freeT T → (mget T (i : Int)).isSome = true := by
  obtain ⟨a, b, c, d⟩ := leastT_spec T 60 1
  have hlt : freeT T < 60 := by
    rcases Nat.lt_or_ge (freeT T) 60 with h1 | h1
    · exact h1
    · have h2 := keys_fillT 60 T h.nd (fun i h3 h4 => by
        by_cases e : i = 0
        · obtain ⟨p0, hp0, _⟩ := h.root
          rw [e, hp0]; rfl
        · have h5 := c i.toNat (by omega) (by unfold freeT at h1; omega)
          rwa [show ((i.toNat : Nat) : Int) = i by omega] at h5)
      omega
  exact ⟨a, hlt, d (by unfold freeT at hlt; omega), c⟩
def updI (B : Int → Nat) (k : Int) (c : Nat) : Int → Nat := fun n => if n = k then c else B n
section
variable {w w' w1 w2 w3 : World} {tb nm b d c dn : Nat} {T T1 T2 : PT} {B D : Int → Nat} {F : Nat → Prop} {p p' nn : PN} {n k : Int}
theorem mput_newT (hk : mget T k = none) : mput T k p = T ++ [(k, p)] := by
  unfold mput
  rw [if_neg (by rw [hk]; simp)]
theorem keysB_new (hk : mget T k = none) : keysB (updI B k c) (mput T k nn) = mput (keysB B T) k c := by
  rw [mput_newT hk]
  have h1 : mget (keysB B T) k = none := by rw [keysB_get, hk]; rfl
  have h2 : mput (keysB B T) k c = keysB B T ++ [(k, c)] := by
    unfold mput
    rw [if_neg (by rw [h1]; simp)]
  rw [h2]
  unfold keysB
  rw [List.map_append]
  congr 1
  · refine List.map_congr_left fun t ht => ?_
    have hne : t.1 ≠ k := mget_none_iff.1 hk t ht
    unfold updI
    rw [if_neg hne]
  · show [(k, updI B k c k)] = [(k, c)]
    unfold updI
    rw [if_pos rfl]
theorem TreeIn.add (h : TreeIn w tb nm T B D) (hk : mget T k = none) (nd : NdAt w' c dn nn) (hm : MapIs w' nm (.int .i64) encI ptrV (mput (keysB B T) k c)) (t : Turn (fun j => j = nm ∨ j = c) w w')
    (hc : ¬ TrFoot tb nm T B D c) (hdn : nn.isDir = true → ¬ TrFoot tb nm T B D dn ∧ dn ≠ c) : TreeIn w' tb nm (mput T k nn) (updI B k c) (updI D k dn) := by
  have hget : ∀ m q, mget (mput T k nn) m = some q → (m = k ∧ q = nn ∧ updI B k c m = c ∧ updI D k dn m = dn) ∨ (m ≠ k ∧ mget T m = some q ∧ updI B k c m = B m ∧ updI D k dn m = D m) := fun m q hq => by
    rw [mget_mput] at hq
    by_cases e : m = k
    · rw [if_pos e] at hq; cases hq; exact .inl ⟨e, rfl, if_pos e, if_pos e⟩
    · rw [if_neg e] at hq; exact .inr ⟨e, hq, if_neg e, if_neg e⟩
  have hfb : ∀ m q, mget T m = some q → TrFoot tb nm T B D (B m) := fun m q hq => .inr (.inr ⟨m, q, hq, .inl rfl⟩)
  have hfd : ∀ m q, mget T m = some q → q.isDir = true → TrFoot tb nm T B D (D m) := fun m q hq e => .inr (.inr ⟨m, q, hq, .inr ⟨e, rfl⟩⟩)
  refine ⟨(t.cell (a := ⟨tb, 0, none⟩) (lt_of_cell h.hdr) (fun e => ?_)).trans h.hdr, by rw [keysB_new hk]; exact hm, fun m q hq => ?_, fun m m2 q r hq hr hne => ?_, fun m m2 q r hq hr h1 h2 hne => ?_, fun m m2 q r hq hr h1 => ?_, fun m q hq => ?_, h.ne⟩
  · rcases e with e | e
    · exact h.ne e
    · exact hc (e ▸ .inl rfl)
  · rcases hget m q hq with ⟨rfl, rfl, e1, e2⟩ | ⟨_, h2, e1, e2⟩
    · rw [e1, e2]; exact nd
    · rw [e1, e2]
      have ho := h.own m q h2
      exact (h.nd m q h2).turned t (fun e => e.elim ho.1.2 (fun e => hc (e ▸ hfb m q h2))) (fun hd e => e.elim (ho.2 hd).2 (fun e => hc (e ▸ hfd m q h2 hd)))
  · rcases hget m q hq with ⟨rfl, rfl, e1, _⟩ | ⟨_, h2, e1, _⟩ <;> rcases hget m2 r hr with ⟨rfl, rfl, e3, _⟩ | ⟨_, h4, e3, _⟩
    · exact absurd rfl hne
    · rw [e1, e3]; exact fun e => hc (e ▸ hfb m2 r h4)
    · rw [e1, e3]; exact fun e => hc (e ▸ hfb m q h2)
    · rw [e1, e3]; exact h.bb m m2 q r h2 h4 hne
  · rcases hget m q hq with ⟨rfl, rfl, _, e1⟩ | ⟨_, hq2, _, e1⟩ <;> rcases hget m2 r hr with ⟨rfl, rfl, _, e3⟩ | ⟨_, hr2, _, e3⟩
    · exact absurd rfl hne
    · rw [e1, e3]; exact fun e => (hdn h1).1 (e ▸ hfd m2 r hr2 h2)
    · rw [e1, e3]; exact fun e => (hdn h2).1 (e ▸ hfd m q hq2 h1)
    · rw [e1, e3]; exact h.dd m m2 q r hq2 hr2 h1 h2 hne
  · rcases hget m q hq with ⟨rfl, rfl, e1, _⟩ | ⟨_, hq2, e1, _⟩ <;> rcases hget m2 r hr with ⟨rfl, rfl, _, e3⟩ | ⟨_, hr2, _, e3⟩
    · rw [e1, e3]; exact fun e => (hdn h1).2 e.symm
    · rw [e1, e3]; exact fun e => hc (e ▸ hfd m2 r hr2 h1)
    · rw [e1, e3]; exact fun e => (hdn h1).1 (e ▸ hfb m q hq2)
    · rw [e1, e3]; exact h.bd m m2 q r hq2 hr2 h1
  · rcases hget m q hq with ⟨rfl, rfl, e1, e2⟩ | ⟨_, hq2, e1, e2⟩
    · rw [e1, e2]
      exact ⟨⟨fun e => hc (e ▸ .inl rfl), fun e => hc (e ▸ .inr (.inl rfl))⟩, fun hd => ⟨fun e => (hdn hd).1 (e ▸ .inl rfl), fun e => (hdn hd).1 (e ▸ .inr (.inl rfl))⟩⟩
    · rw [e1, e2]; exact h.own m q hq2
theorem foot_add (hk : mget T k = none) (j : Nat) (hj : TrFoot tb nm (mput T k nn) (updI B k c) (updI D k dn) j) : TrFoot tb nm T B D j ∨ j = c ∨ (nn.isDir = true ∧ j = dn) := by
  rcases hj with h | h | ⟨m, q, hq, h⟩
  · exact .inl (.inl h)
  · exact .inl (.inr (.inl h))
  · rw [mget_mput] at hq
    by_cases e : m = k
    · rw [if_pos e] at hq
      cases hq
      unfold updI at h
      rw [if_pos e, if_pos e] at h
      exact .inr h
    · rw [if_neg e] at hq
      unfold updI at h
      rw [if_neg e, if_neg e] at h
      exact .inl (.inr (.inr ⟨m, q, hq, h⟩))
theorem NdAt.setDs {ds' : List (ByteArray × Int)} (h : NdAt w b d p) (hd : p.isDir = true) (hm : MapIs w' d .string encS encI ds') (t : Turn (fun j => j = d) w w') (hne : b ≠ d) : NdAt w' b d { p with ds := ds' } :=
  ⟨(t.cell (a := ⟨b, 0, none⟩) h.lt hne).trans h.c0, (t.cell (a := ⟨b, 1, none⟩) h.lt hne).trans h.c1, (t.cell (a := ⟨b, 2, none⟩) h.lt hne).trans h.c2, (t.cell (a := ⟨b, 3, none⟩) h.lt hne).trans h.c3, fun i => (t.frozen (a := ⟨b, i, none⟩) h.lt hne).trans (h.fz i), fun _ => hm⟩
def dsT (T : PT) (n : Int) : List (ByteArray × Int) := (mget T n).elim [] (·.ds)
def makeE (T : PT) (path : ByteArray) : Int := if (placeT T path).1 ≠ 0 then (placeT T path).1 else if (mget (dsT T (placeT T path).2.1) (placeT T path).2.2).isSome then 9 else if 60 ≤ T.length then 12 else 0
def nameT (T : PT) (d : Int) (ds : List (ByteArray × Int)) : PT := (mget T d).elim T fun p => mput T d { p with ds := ds }
def newN (b : Bool) : PN := ⟨b, [], ByteArray.empty, 1, 0⟩
def makeT (T : PT) (path : ByteArray) (b : Bool) : PT :=
  if makeE T path = 0 then nameT (mput T (freeT T) (newN b)) (placeT T path).2.1 (mput (dsT T (placeT T path).2.1) (placeT T path).2.2 (freeT T)) else T
def makeK (T : PT) (path : ByteArray) : Int := if makeE T path = 0 then (freeT T : Int) else 0
theorem makeK_err {path : ByteArray} {z : Int} (h : makeE T path = z) (hz : z ≠ 0) : makeK T path = 0 := if_neg (by rw [h]; exact hz)
theorem makeK_ok {path : ByteArray} (h : makeE T path = 0) : makeK T path = freeT T := if_pos h
def MakeTo (tb c dn : Nat) (b : Bool) (F : Nat → Prop) (w w' : World) (T' : PT) : Prop :=
  ∃ F', TreeIs w' tb T' F' ∧ Turn (fun j => F j ∨ j = c) w w' ∧ ∀ j, F' j → F j ∨ j = c ∨ (b = true ∧ j = dn)
set_option maxHeartbeats 2000000 in
set_option maxRecDepth 100000 in
theorem make_is (h : TreeIs w tb T F) (path : ByteArray) (hs : path.size < 4294967281) (b : Bool) (nd : NdAt w c dn ⟨b, [], ByteArray.empty, 0, 0⟩) (hc : ¬ F c) (hdn : b = true → ¬ F dn ∧ dn ≠ c) :
    Calls Tryz.prog 94 #[.pointer (some ⟨tb, 0, none⟩), .string path, .pointer (some ⟨c, 0, none⟩)] w fun e w' => e = .returned (.tuple #[.int .i64 (makeK T path), TErr (makeE T path)]) ∧ MakeTo tb c dn b F w w' (makeT T path b) := by
  have HI := hid h
  obtain ⟨nm, B, D, hin, hok, rfl⟩ := h
  have H := hid hin
  have HOk := hid hok
  have HP := hid (place_is hin hok path hs)
  have ND := hid nd
  have HC := hid hc
  have HDn := hid hdn
  have HSame : Hid (makeE T path ≠ 0 → ∀ w', Turn (fun _ => False) w w' → MakeTo tb c dn b (TrFoot tb nm T B D) w w' (makeT T path b)) := hid (fun hz w' tt => by
    have : makeT T path b = T := if_neg hz
    rw [this]
    exact ⟨_, HI.out.turned tt (fun _ _ => id), tt.mono (fun _ _ h => h.elim), fun _ h => .inl h⟩)
  clear hin hok nd hc hdn HI
  go_enter Tryz.func94, Tryz.ntmps94
  go_wp2_with fail
  refine HP.out.mono ?_
  rintro e w1 ⟨⟨hz, rfl⟩ | ⟨d, p, s, hpl, hd, hdir, rfl⟩, t1⟩
  · have te := TErr_of hz
    have hE : makeE T path = (placeT T path).1 := if_pos hz
    have HR := HSame.out (by rw [hE]; exact hz) w1 t1
    have HR := hid HR
    have HZ := hid hz
    have HE := hid hE
    clear hz t1 hE
    go_wp2_with fail
    go_returns
    rw [makeK_err HE.out HZ.out, HE.out]
    exact ⟨by rw [te]; rfl, HR.out⟩
  · have h1 := H.out.turned t1 (fun _ _ => id)
    have H1 := hid h1
    have ln := look_name ((h1.nd d p hd).dir hdir) s
    have hh := h1.hdr
    have hds : dsT T d = p.ds := by unfold dsT; rw [hd]; rfl
    have HT1 := hid t1
    have HDr := hid hdir
    have HD := hid hd
    have HSn := hid (placeT_name hpl)
    cases hms : mget p.ds s with
    | some m =>
      have hE : makeE T path = 9 := by
        unfold makeE
        rw [hpl, if_neg (by simp)]
        simp only
        rw [hds, hms]; rfl
      have HR := hid (HSame.out (by rw [hE]; decide) w1 t1)
      rw [hms] at ln
      simp only [Option.getD_some, Option.isSome_some] at ln
      have HE := hid hE
      clear h1 hds hms t1 hpl hd hdir hE
      go_wp2_with fail
      go_returns
      rw [makeK_err HE.out (by decide), HE.out]
      exact ⟨rfl, HR.out⟩
    | none =>
      rw [hms] at ln
      simp only [Option.getD_none, Option.isSome_none] at ln
      have hl : ∀ ty, (Builtin.len_ #[169] ty #[.map (some nm)]).run Tryz.prog w1 = .ok (.int .i64 T.length) w1 := fun ty => by
        have h2 := h1.mp.run_len Tryz.underlying169 ty
        unfold keysB at h2
        rw [List.length_map] at h2
        exact h2
      have hsz := HOk.out.size
      by_cases hfull : 60 ≤ T.length
      · have hfull' : (60 : Int) ≤ T.length := by omega
        have hE : makeE T path = 12 := by
          unfold makeE
          rw [hpl, if_neg (by simp)]
          simp only
          rw [hds, hms, if_neg (by simp), if_pos hfull]
        have HR := hid (HSame.out (by rw [hE]; decide) w1 t1)
        have HE := hid hE
        clear h1 hds hms t1 hpl hd hdir hfull hE
        go_wp2_with fail
        go_returns
        rw [makeK_err HE.out (by decide), HE.out]
        exact ⟨rfl, HR.out⟩
      · have hfull' : ¬ (60 : Int) ≤ T.length := by omega
        have hE : makeE T path = 0 := by
          unfold makeE
          rw [hpl, if_neg (by simp)]
          simp only
          rw [hds, hms, if_neg (by simp), if_neg hfull]
        have hT : makeT T path b = nameT (mput T (freeT T) (newN b)) d (mput p.ds s (freeT T)) := by
          unfold makeT
          rw [if_pos hE, hpl]
          simp only
          rw [hds]
        obtain ⟨f1, f60, fnone, fall⟩ := freeT_spec HOk.out (by omega)
        obtain ⟨K, hK⟩ : ∃ K, freeT T = K := ⟨_, rfl⟩
        rw [hK] at f1 f60 fnone fall hT
        have HK := hid hK
        have HT := hid hT
        have HMs := hid hms
        have HFn := hid fnone
        have HFa := hid fall
        have HLk : Hid (∀ k : Nat, 1 ≤ k → k < K → ∃ b, (Instr.lookup 169 (.map (some nm)) (.int .i64 k) false).run Tryz.prog w1 = .ok (.pointer (some ⟨b, 0, none⟩)) w1) := hid (fun k h2 h3 => by
          obtain ⟨q, hq⟩ := Option.isSome_iff_exists.1 (fall k h2 h3)
          exact ⟨_, h1.look hq⟩)
        have lkK := h1.looknone fnone
        have HLen : Hid (T.length < 60) := hid (by omega)
        have HE := hid hE
        clear h1 hds hms t1 hpl hd hdir hfull hK hT fnone fall hE
        go_wp2_with fail
        go_loopg [13] (K - 1) (fun gl i wr => ∃ k : Nat, k + gl = K ∧ 1 ≤ k ∧ i = .int .i64 k ∧ wr = w1)
        case atStart => exact ⟨1, by omega, by omega, rfl, rfl⟩
        case round =>
          obtain ⟨k, hk, hk1, rfl, hwr⟩ := hrel
          subst wr
          by_cases hkl : k < K
          · obtain ⟨b', lk⟩ := HLk.out k hk1 hkl
            clear lkK
            go_wp2_with fail
            go_roundg (gk - 1)
            case measure => omega
            case rel => exact ⟨k + 1, by omega, by omega, by go_num, rfl⟩
          · obtain rfl : k = K := by omega
            clear hkl hk HLk
            have nd1 := ND.out.turned HT1.out id (fun _ => id)
            have c2 := nd1.c2
            have f2 := nd1.fz 2
            simp only at c2
            have hcn : c ≠ nm := fun e => HC.out (e ▸ .inr (.inl rfl))
            have hcd : c ≠ D d := fun e => HC.out (e ▸ .inr (.inr ⟨d, p, HD.out, .inr ⟨HDr.out, rfl⟩⟩))
            have t12 : Turn (fun j => j = c) w1 (w1.setCell ⟨c, 2, none⟩ (.int .i64 1)) := (Turn.refl _ _).setCell _ _ (fun _ => rfl)
            have nd2 := nd1.setNames (z := 1) (c := 1) (fun e => fun e2 => (HDn.out e).2 e2.symm) (by omega)
            obtain ⟨w3, hrun3, hm3, t3⟩ := (H1.out.mp.turned t12 (fun e => hcn e.symm)).run_update (P := Tryz.prog) keyI Tryz.underlying169 Tryz.underlying3 (k : Int) c
            replace hrun3 : (Instr.mapUpdate 169 (.map (some nm)) (.int .i64 k) (.pointer (some ⟨c, 0, none⟩))).run Tryz.prog (w1.setCell ⟨c, 2, none⟩ (.int .i64 1)) = .ok () w3 := hrun3
            have ho := H1.out.own d p HD.out
            have hnd : nm ≠ D d := fun e => (ho.2 HDr.out).2 e.symm
            have hdm := (((H1.out.nd d p HD.out).dir HDr.out).turned t12 (fun e => hcd e.symm)).turned t3 (fun e => hnd e.symm)
            obtain ⟨w4, hrun4, hm4, t4⟩ := hdm.run_update (P := Tryz.prog) keyS Tryz.underlying166 Tryz.underlying9 s (k : Int)
            replace hrun4 : (Instr.mapUpdate 166 (.map (some (D d))) (.string s) (.int .i64 k)).run Tryz.prog w3 = .ok () w4 := hrun4
            have hh2 := (t12.cell (a := ⟨tb, 0, none⟩) (lt_of_cell hh) (fun e => HC.out (e ▸ .inl rfl))).trans hh
            have hin3 : TreeIn w3 tb nm (mput T (k : Int) (newN b)) (updI B k c) (updI D k dn) := H1.out.add HFn.out (nd2.turned t3 hcn (fun e e2 => (HDn.out e).1 (e2 ▸ .inr (.inl rfl)))) hm3 ((t12.mono (fun _ _ h => .inr h)).trans (t3.mono (fun _ _ h => .inl h))) HC.out HDn.out
            have hdk : d ≠ (k : Int) := fun e => by have := HD.out; rw [e, HFn.out] at this; cases this
            have hd3 : mget (mput T (k : Int) (newN b)) d = some p := by rw [mget_mput, if_neg hdk]; exact HD.out
            have hBd : updI B k c d = B d := if_neg hdk
            have hDd : updI D k dn d = D d := if_neg hdk
            have hnd3 := hin3.nd d p hd3
            rw [hBd, hDd] at hnd3
            have hin4 : TreeIn w4 tb nm (mput (mput T (k : Int) (newN b)) d { p with ds := mput p.ds s (k : Int) }) (updI B k c) (updI D k dn) := hin3.put hd3 rfl (by rw [hBd, hDd]; exact hnd3.setDs HDr.out hm4 t4 (H1.out.apart HD.out HDr.out)) (by rw [hBd, hDd]; exact t4.mono (fun _ _ e => .inr ⟨HDr.out, e⟩))
            have hok4 := HOk.out.make_ HD.out HDr.out HFn.out ⟨by omega, by omega⟩ HLen.out HMs.out HSn.out b
            have hTT : makeT T path b = mput (mput T (k : Int) (newN b)) d { p with ds := mput p.ds s (k : Int) } := by
              rw [HT.out]
              unfold nameT
              rw [hd3]; rfl
            have hfin : MakeTo tb c dn b (TrFoot tb nm T B D) w w4 (makeT T path b) := by
              rw [hTT]
              refine ⟨_, ⟨nm, _, _, hin4, hok4, rfl⟩, (HT1.out.mono (fun _ _ h => h.elim)).trans (((t12.mono (fun _ _ h => .inr h)).trans (t3.mono (fun _ _ h => .inl (by rw [h]; exact .inr (.inl rfl))))).trans (t4.mono (fun _ _ h => .inl (by rw [h]; exact .inr (.inr ⟨d, p, HD.out, .inr ⟨HDr.out, rfl⟩⟩))))), fun j hj => ?_⟩
              rw [foot_put (p' := { p with ds := mput p.ds s (k : Int) }) hd3 rfl] at hj
              exact foot_add HFn.out j hj
            have HFin := hid hfin
            clear nd1 hcn hcd t12 nd2 hm3 t3 ho hnd hdm hm4 t4 hin3 hdk hd3 hBd hDd hnd3 hin4 hok4 hTT hfin
            go_wp2_with fail
            go_returns
            rw [makeK_ok HE.out, HE.out, HK.out]
            exact ⟨rfl, HFin.out⟩
end
end Go.Proofs.YtiohpmcedfbcgacGreatDoor
/- Package tree: Link, Unlink. Conditions: each theorem's own premises. -/
namespace Go.Proofs.YtiohpmcedfbcgacGreatDoor
open Go.RowKit
set_option linter.unusedVariables false

section
variable {w w' w1 w2 w3 : World} {tb nm b d c dn : Nat} {T T1 T2 : PT} {B D : Int → Nat} {F : Nat → Prop} {p p' q nn : PN} {n k : Int} {s : ByteArray}
def updN (T : PT) (n : Int) (f : PN → PN) : PT := (mget T n).elim T fun p => mput T n (f p)
theorem updN_is (h : mget T n = some p) (f : PN → PN) : updN T n f = mput T n (f p) := by unfold updN; rw [h]; rfl
def linkE (T : PT) (old path : ByteArray) : Int :=
  if (findT T old).1 ≠ 0 then (findT T old).1 else if isDirT T (findT T old).2 then 6
  else if (placeT T path).1 ≠ 0 then (placeT T path).1 else if (mget (dsT T (placeT T path).2.1) (placeT T path).2.2).isSome then 9 else 0
def linkT (T : PT) (old path : ByteArray) : PT :=
  if linkE T old path = 0 then updN (updN T (placeT T path).2.1 fun p => { p with ds := mput p.ds (placeT T path).2.2 (findT T old).2 }) (findT T old).2 fun q => { q with names := q.names + 1 } else T
theorem findT_there (h : TOk T) {path : ByteArray} (hz : (findT T path).1 = 0) : ∃ q, mget T (findT T path).2 = some q := by
  unfold findT at *
  cases hn : namesOf path with
  | none => rw [hn] at hz; cases hz
  | some l =>
    rw [hn] at hz
    obtain ⟨p0, hp0, _⟩ := h.root
    exact walkT_there h l 0 p0 hp0 hz
/-- A directory's names change in memory. -/
theorem TreeIn.name (h : TreeIn w tb nm T B D) (hd : mget T k = some p) (hdir : p.isDir = true) {ds : List (ByteArray × Int)} (hm : MapIs w' (D k) .string encS encI ds) (t : Turn (fun j => j = D k) w w') : TreeIn w' tb nm (mput T k { p with ds := ds }) B D :=
  h.put hd rfl ((h.nd k p hd).setDs hdir hm t (h.apart hd hdir)) (t.mono (fun _ _ e => .inr ⟨hdir, e⟩))
/-- How many names lead to a node changes in memory. -/
theorem TreeIn.count (h : TreeIn w tb nm T B D) (hn : mget T n = some q) {z : Int} {c : Nat} (hz : z = c) : TreeIn (w.setCell ⟨B n, 2, none⟩ (.int .i64 z)) tb nm (mput T n { q with names := c }) B D :=
  h.put hn rfl ((h.nd n q hn).setNames (h.apart hn) hz) ((Turn.refl _ _).setCell _ _ (fun _ => .inl rfl))
theorem foot_name (hd : mget T k = some p) {ds : List (ByteArray × Int)} : TrFoot tb nm (mput T k { p with ds := ds }) B D = TrFoot tb nm T B D := foot_put hd rfl
theorem foot_count (hd : mget T k = some p) {c : Nat} : TrFoot tb nm (mput T k { p with names := c }) B D = TrFoot tb nm T B D := foot_put hd rfl
set_option maxHeartbeats 4000000 in
set_option maxRecDepth 100000 in
theorem link_is (h : TreeIs w tb T F) (old path : ByteArray) (hs1 : old.size < 4294967281) (hs2 : path.size < 4294967281) (hb : ∀ n p, mget T n = some p → p.names < 1000000) :
    Calls Tryz.prog 37 #[.pointer (some ⟨tb, 0, none⟩), .string old, .string path] w fun e w' => e = .returned (TErr (linkE T old path)) ∧ TreeTo tb F w w' (linkT T old path) := by
  have HI := hid h
  have HFd := hid (find_is h old hs1)
  have HB := hid hb
  have HSame : Hid (linkE T old path ≠ 0 → ∀ w', Turn (fun _ => False) w w' → TreeTo tb F w w' (linkT T old path)) := hid (fun hz w' tt => by
    have : linkT T old path = T := if_neg hz
    rw [this]
    exact TreeTo.same HI.out tt)
  clear h hb
  go_enter Tryz.func37, Tryz.ntmps37
  go_wp2_with fail
  refine HFd.out.mono ?_
  rintro e w1 ⟨rfl, t1⟩
  have HT1 := hid t1
  clear t1
  by_cases hz : (findT T old).1 = 0
  · obtain ⟨q, hq⟩ := findT_there HI.out.ok hz
    obtain ⟨n, hn⟩ : ∃ n, (findT T old).2 = n := ⟨_, rfl⟩
    rw [hn] at hq
    rw [hz, hn]
    have te : TErr 0 = .nilIface := rfl
    obtain ⟨nm, B, D, h1, hok, hF⟩ := HI.out.turned HT1.out (fun _ _ => id)
    have hh := h1.hdr
    have lk := h1.look hq
    have nd := h1.nd n q hq
    have c0 := nd.c0
    have mno := map_some_ne (D n) w1
    have myes := map_nil_ne w1
    have HOk := hid hok
    have H1 := hid h1
    have HF := hid hF
    have HFz := hid hz
    have HFn := hid hn
    have HQ := hid hq
    cases hqd : q.isDir with
    | true =>
      rw [hqd] at c0
      simp only [if_true] at c0
      have hE : linkE T old path = 6 := by
        unfold linkE
        rw [if_neg (by rw [hz]; simp), hn, if_pos (by unfold isDirT; rw [hq]; exact hqd)]
      have HR := hid (HSame.out (by rw [hE]; decide) w1 HT1.out)
      have HE := hid hE
      clear nd hqd hE h1 hok hF hz hn hq
      go_wp2_with fail
      go_returns
      rw [HE.out]
      exact ⟨rfl, HR.out⟩
    | false =>
      rw [hqd] at c0
      simp only [Bool.false_eq_true, if_false] at c0
      have HQd := hid hqd
      have HP := hid (place_is h1 hok path hs2)
      have hE0 : linkE T old path = if (placeT T path).1 ≠ 0 then (placeT T path).1 else if (mget (dsT T (placeT T path).2.1) (placeT T path).2.2).isSome then 9 else 0 := by
        unfold linkE
        rw [if_neg (by rw [hz]; simp), hn, if_neg (by unfold isDirT; rw [hq]; show ¬ q.isDir = true; rw [hqd]; decide)]
      have HE0 := hid hE0
      clear nd hqd hE0 h1 hok hF hz hn hq
      go_wp2_with fail
      refine HP.out.mono ?_
      rintro e w2 ⟨⟨hz, rfl⟩ | ⟨d, p, s, hpl, hd, hdir, rfl⟩, t2⟩
      · have te2 := TErr_of hz
        have hE : linkE T old path = (placeT T path).1 := by rw [HE0.out, if_pos hz]
        have HR := hid (HSame.out (by rw [hE]; exact hz) w2 (HT1.out.trans t2))
        have HE := hid hE
        clear hz t2 hE
        go_wp2_with fail
        go_returns
        rw [HE.out]
        exact ⟨congrArg Ending.returned te2.symm, HR.out⟩
      · have h2 := H1.out.turned t2 (fun _ _ => id)
        have H2 := hid h2
        have HT2 := hid (HT1.out.trans t2)
        have hds : dsT T d = p.ds := by unfold dsT; rw [hd]; rfl
        have hdm := (h2.nd d p hd).dir hdir
        have ln := look_name hdm s
        have hh2 := h2.hdr
        have lk2 := h2.look HQ.out
        have nd2 := h2.nd n q HQ.out
        have c2 := nd2.c2
        have f2 := nd2.fz 2
        have HD := hid hd
        have HDr := hid hdir
        cases hms : mget p.ds s with
        | some m =>
          have hE : linkE T old path = 9 := by
            rw [HE0.out, hpl, if_neg (by simp)]
            simp only
            rw [hds, hms]; rfl
          have HR := hid (HSame.out (by rw [hE]; decide) w2 HT2.out)
          rw [hms] at ln
          simp only [Option.getD_some, Option.isSome_some] at ln
          have HE := hid hE
          clear h2 hds hdm nd2 hms t2 hpl hd hdir hE
          go_wp2_with fail
          go_returns
          rw [HE.out]
          exact ⟨rfl, HR.out⟩
        | none =>
          rw [hms] at ln
          simp only [Option.getD_none, Option.isSome_none] at ln
          have hE : linkE T old path = 0 := by
            rw [HE0.out, hpl, if_neg (by simp)]
            simp only
            rw [hds, hms]; rfl
          have hne : n ≠ d := fun e => by have := HQ.out; rw [e, hd] at this; cases this; have := HQd.out; rw [hdir] at this; cases this
          have hT : linkT T old path = mput (mput T d { p with ds := mput p.ds s n }) n { q with names := q.names + 1 } := by
            unfold linkT
            rw [if_pos hE, hpl, HFn.out]
            simp only
            rw [updN_is hd, updN_is (p := q) (by rw [mget_mput, if_neg hne]; exact HQ.out)]
          obtain ⟨w3, hrun, hm3, t3⟩ := hdm.run_update (P := Tryz.prog) keyS Tryz.underlying166 Tryz.underlying9 s n
          replace hrun : (Instr.mapUpdate 166 (.map (some (D d))) (.string s) (.int .i64 n)).run Tryz.prog w2 = .ok () w3 := hrun
          have hin3 := h2.name hd hdir hm3 t3
          have hq3 : mget (mput T d { p with ds := mput p.ds s n }) n = some q := by rw [mget_mput, if_neg hne]; exact HQ.out
          have hh3 := hin3.hdr
          have lk3 := hin3.look hq3
          have c23 := (hin3.nd n q hq3).c2
          have f23 := (hin3.nd n q hq3).fz 2
          have hlt := HB.out n q HQ.out
          have hwr : wrap64 ((q.names : Int) + 1) = q.names + 1 := IntWalk.wrap64_in _ (by omega)
          have hin4 := hin3.count hq3 (z := (q.names : Int) + 1) (c := q.names + 1) (by omega)
          have hfin : TreeTo tb F w (w3.setCell ⟨B n, 2, none⟩ (.int .i64 ((q.names : Int) + 1))) (linkT T old path) := by
            rw [hT]
            refine ⟨_, ⟨nm, B, D, hin4, HOk.out.link_ hd hdir HQ.out HQd.out hms (placeT_name hpl), rfl⟩, (HT2.out.mono (fun _ _ h => h.elim)).trans ((t3.mono (fun j _ e => ?_)).trans ((Turn.refl _ _).setCell _ _ (fun _ => ?_))), fun j hj => .inl ?_⟩
            · rw [HF.out]; exact .inr (.inr ⟨d, p, hd, .inr ⟨hdir, e⟩⟩)
            · rw [HF.out]; exact .inr (.inr ⟨n, q, HQ.out, .inl rfl⟩)
            · rw [foot_count hq3, foot_name hd] at hj
              rw [HF.out]; exact hj
          have HFin := hid hfin
          have HE := hid hE
          clear h2 hds hdm nd2 hms t2 hpl hd hdir hE hne hT hm3 t3 hin3 hq3 hin4 hfin c2 f2 hh2 lk2
          go_wp2_with fail
          go_returns
          rw [HE.out]
          exact ⟨rfl, HFin.out⟩
  · have te := TErr_of hz
    have hE : linkE T old path = (findT T old).1 := if_pos hz
    have HR := hid (HSame.out (by rw [hE]; exact hz) w1 HT1.out)
    have HE := hid hE
    have HTe := hid te
    rw [te]
    clear hz hE te
    go_wp2_with fail
    go_returns
    rw [HE.out]
    exact ⟨congrArg Ending.returned HTe.out.symm, HR.out⟩
def unlinkE (T : PT) (path : ByteArray) : Int :=
  if (placeT T path).1 ≠ 0 then (placeT T path).1 else (mget (dsT T (placeT T path).2.1) (placeT T path).2.2).elim 7 fun n => if dsT T n ≠ [] then 6 else 0
def unlinkT (T : PT) (path : ByteArray) : PT :=
  if unlinkE T path = 0 then (mget (dsT T (placeT T path).2.1) (placeT T path).2.2).elim T fun n =>
    (mget T n).elim T fun q => goneT (mput (updN T (placeT T path).2.1 fun p => { p with ds := mdel p.ds (placeT T path).2.2 }) n { q with names := q.names - 1 }) n { q with names := q.names - 1 }
  else T
theorem len_nil_map (w : World) (ty : TypeId) : (Builtin.len_ #[166] ty #[.map none]).run Tryz.prog w = .ok (.int .i64 0) w := by kernel_rfl
set_option maxHeartbeats 4000000 in
set_option maxRecDepth 100000 in
theorem unlink_is (h : TreeIs w tb T F) (path : ByteArray) (hs : path.size < 4294967281) (hb : ∀ n p, mget T n = some p → p.names < 1000000 ∧ p.ds.length < 1000000) :
    Calls Tryz.prog 39 #[.pointer (some ⟨tb, 0, none⟩), .string path] w fun e w' => e = .returned (TErr (unlinkE T path)) ∧ TreeTo tb F w w' (unlinkT T path) := by
  have HI := hid h
  have HB := hid hb
  have HSame : Hid (unlinkE T path ≠ 0 → ∀ w', Turn (fun _ => False) w w' → TreeTo tb F w w' (unlinkT T path)) := hid (fun hz w' tt => by
    have : unlinkT T path = T := if_neg hz
    rw [this]
    exact TreeTo.same HI.out tt)
  obtain ⟨nm, B, D, h0, hok, hF⟩ := h
  have H := hid h0
  have HOk := hid hok
  have HF := hid hF
  have HP := hid (place_is h0 hok path hs)
  clear h0 hok hF hb
  go_enter Tryz.func39, Tryz.ntmps39
  go_wp2_with fail
  refine HP.out.mono ?_
  rintro e w1 ⟨⟨hz, rfl⟩ | ⟨d, p, s, hpl, hd, hdir, rfl⟩, t1⟩
  · have te := TErr_of hz
    have hE : unlinkE T path = (placeT T path).1 := if_pos hz
    have HR := hid (HSame.out (by rw [hE]; exact hz) w1 t1)
    have HE := hid hE
    clear hz hE t1
    go_wp2_with fail
    go_returns
    rw [HE.out]
    exact ⟨congrArg Ending.returned te.symm, HR.out⟩
  · have h1 := H.out.turned t1 (fun _ _ => id)
    have H1 := hid h1
    have HT1 := hid t1
    have hds : dsT T d = p.ds := by unfold dsT; rw [hd]; rfl
    have hdm := (h1.nd d p hd).dir hdir
    have ln := look_name hdm s
    have hh := h1.hdr
    have HD := hid hd
    have HDr := hid hdir
    have HPl := hid hpl
    have HDs := hid hds
    cases hms : mget p.ds s with
    | none =>
      rw [hms] at ln
      simp only [Option.getD_none, Option.isSome_none] at ln
      have hE : unlinkE T path = 7 := by
        unfold unlinkE
        rw [hpl, if_neg (by simp)]
        simp only
        rw [hds, hms]; rfl
      have HR := hid (HSame.out (by rw [hE]; decide) w1 t1)
      have HE := hid hE
      clear h1 hds hdm hms t1 hpl hd hdir hE
      go_wp2_with fail
      go_returns
      rw [HE.out]
      exact ⟨rfl, HR.out⟩
    | some n =>
      rw [hms] at ln
      simp only [Option.getD_some, Option.isSome_some] at ln
      obtain ⟨q, hq⟩ := HOk.out.link d p hd s n hms
      have lk := h1.look hq
      have nd := h1.nd n q hq
      have c0 := nd.c0
      have hdq : dsT T n = q.ds := by unfold dsT; rw [hq]; rfl
      have hbq := HB.out n q hq
      have hlen : ∃ m : Option Nat, w1.cell? ⟨B n, 0, none⟩ = some (.map m) ∧ ∀ ty, (Builtin.len_ #[166] ty #[.map m]).run Tryz.prog w1 = .ok (.int .i64 (q.ds.length : Int)) w1 := by
        cases hqd : q.isDir with
        | true =>
          rw [hqd] at c0
          exact ⟨_, c0, fun ty => (nd.dir hqd).run_len Tryz.underlying166 ty⟩
        | false =>
          rw [hqd] at c0
          exact ⟨_, c0, fun ty => by rw [HOk.out.file n q hq hqd]; exact len_nil_map w1 ty⟩
      obtain ⟨m, cm, hl⟩ := hlen
      have HQ := hid hq
      have HMs := hid hms
      have hE0 : unlinkE T path = if dsT T n ≠ [] then 6 else 0 := by
        unfold unlinkE
        rw [hpl, if_neg (by simp)]
        simp only
        rw [hds, hms]; rfl
      by_cases h0 : q.ds.length = 0
      · have hnil : q.ds = [] := List.length_eq_zero_iff.1 h0
        have hE : unlinkE T path = 0 := by rw [hE0, if_neg (by rw [hdq]; exact fun e => e hnil)]
        have hne : n ≠ d := fun e => by
          rw [e, hd] at hq
          cases hq
          rw [hnil] at hms
          cases hms
        have hT : unlinkT T path = goneT (mput (mput T d { p with ds := mdel p.ds s }) n { q with names := q.names - 1 }) n { q with names := q.names - 1 } := by
          unfold unlinkT
          rw [if_pos hE, hpl]
          simp only
          rw [hds, hms, updN_is hd]
          show (mget T n).elim T _ = _
          rw [hq]; rfl
        have hl0 : ∀ ty, (Builtin.len_ #[166] ty #[.map m]).run Tryz.prog w1 = .ok (.int .i64 0) w1 := fun ty => by rw [hl ty, h0]; rfl
        obtain ⟨w3, hrun, hm3, t3⟩ := hdm.run_delete (P := Tryz.prog) (ty := 0) keyS Tryz.underlying166 Tryz.underlying9 s
        replace hrun : (Builtin.delete_ #[166, 9] 0 #[.map (some (D d)), .string s]).run Tryz.prog w1 = .ok (.tuple #[]) w3 := hrun
        have hin3 := h1.name hd hdir hm3 t3
        have hq3 : mget (mput T d { p with ds := mdel p.ds s }) n = some q := by rw [mget_mput, if_neg hne]; exact hq
        have hh3 := hin3.hdr
        have lk3 := hin3.look hq3
        have c23 := (hin3.nd n q hq3).c2
        have f23 := (hin3.nd n q hq3).fz 2
        have hnm : 1 ≤ q.names := by
          have := HOk.out.named hd hms
          have := HOk.out.cnt n q hq
          omega
        have hwr : wrap64 ((q.names : Int) - 1) = q.names - 1 := IntWalk.wrap64_in _ (by omega)
        have hin4 := hin3.count hq3 (z := (q.names : Int) - 1) (c := q.names - 1) (by omega)
        have hok4 := HOk.out.unlink_ hd hdir hq hne hms
        have HG := hid (goes_is hin4 hok4 (n := n) (p := { q with names := q.names - 1 }) (by rw [mget_mput, if_pos rfl]) hnil)
        have htw : Turn F w (w3.setCell ⟨B n, 2, none⟩ (.int .i64 ((q.names : Int) - 1))) := by
          refine (HT1.out.mono (fun _ _ h => h.elim)).trans ((t3.mono (fun j _ e => ?_)).trans ((Turn.refl _ _).setCell _ _ (fun _ => ?_)))
          · rw [HF.out]; exact .inr (.inr ⟨d, p, hd, .inr ⟨hdir, e⟩⟩)
          · rw [HF.out]; exact .inr (.inr ⟨n, q, hq, .inl rfl⟩)
        have HTw := hid htw
        have HT := hid hT
        have HFt : Hid (∀ k, TrFoot tb nm (mput (mput T d { p with ds := mdel p.ds s }) n { q with names := q.names - 1 }) B D k → F k ∨ w.heap.size ≤ k) := hid (fun k hk => by
          rw [foot_count hq3, foot_name hd] at hk
          rw [HF.out]; exact .inl hk)
        have HE := hid hE
        clear h1 hds hdm nd hms t1 hpl hd hdir hE hE0 hne hT hm3 t3 hin3 hq3 hin4 hok4 htw c0 hdq hl h0 hnil hq hbq
        go_wp2_with fail
        refine HG.out.mono ?_
        rintro e w5 ⟨rfl, hto⟩
        have HTo := hid hto
        clear hto
        go_wp2_with fail
        go_returns
        rw [HE.out, HT.out]
        exact ⟨rfl, HTo.out.then_ HTw.out HFt.out⟩
      · have hE : unlinkE T path = 6 := by rw [hE0, if_pos (by rw [hdq]; exact fun e => h0 (by rw [e]; rfl))]
        have HR := hid (HSame.out (by rw [hE]; decide) w1 t1)
        have HE := hid hE
        have hpos : (0 : Int) < q.ds.length := by omega
        clear h1 hds hdm nd hms t1 hpl hd hdir hE hE0 c0 hdq h0 hq
        go_wp2_with fail
        go_returns
        rw [HE.out]
        exact ⟨rfl, HR.out⟩
end
end Go.Proofs.YtiohpmcedfbcgacGreatDoor
/- Package tree: Rename. Conditions: each theorem's own premises. -/
namespace Go.Proofs.YtiohpmcedfbcgacGreatDoor
open Go.RowKit
set_option linter.unusedVariables false
/-- Whether a text begins so. -/
def preB (s p : ByteArray) : Bool := decide (p.size ≤ s.size) && ((s.extract 0 p.size).toList == p.toList)
theorem prefix_is (s p : ByteArray) (w : World) (h1 : s.size < 4294967281) (h2 : p.size < 4294967281) : Calls Tryz.prog 209 #[.string s, .string p] w fun e w' => e = .returned (.bool (preB s p)) ∧ w' = w := by
  have hin : Calls Tryz.prog 292 #[.string s, .string p] w fun e w' => e = .returned (.bool (preB s p)) ∧ w' = w := by
    by_cases h : p.size ≤ s.size
    · have h' : (p.size : Int) ≤ s.size := by omega
      have e1 : preB s p = ((s.extract 0 p.size).toList == p.toList) := by unfold preB; rw [decide_eq_true h, Bool.true_and]
      rw [e1]
      go_enter Tryz.func292, Tryz.ntmps292
      go_wp2_with fail
      go_ret
      exact ⟨rfl, rfl⟩
    · have h' : ¬ (p.size : Int) ≤ s.size := by omega
      have e1 : preB s p = false := by unfold preB; rw [decide_eq_false h, Bool.false_and]
      rw [e1]
      go_enter Tryz.func292, Tryz.ntmps292
      go_wp2_with fail
      go_ret
      exact ⟨rfl, rfl⟩
  have H := hid hin
  clear hin
  go_enter Tryz.func209, Tryz.ntmps209
  go_wp2_with fail
  refine H.out.mono ?_
  rintro e w' ⟨rfl, rfl⟩
  go_wp2_with fail
  go_ret
  exact ⟨rfl, rfl⟩
def moveE (T : PT) (old path : ByteArray) : Int :=
  if (placeT T old).1 ≠ 0 then (placeT T old).1 else (mget (dsT T (placeT T old).2.1) (placeT T old).2.2).elim 7 fun _ =>
    if (placeT T path).1 ≠ 0 then (placeT T path).1 else if (mget (dsT T (placeT T path).2.1) (placeT T path).2.2).isSome then 9 else if preB path (old ++ ⟨#[47]⟩) then 6 else 0
def moveT (T : PT) (old path : ByteArray) : PT :=
  if moveE T old path = 0 then (mget (dsT T (placeT T old).2.1) (placeT T old).2.2).elim T fun n =>
    updN (updN T (placeT T old).2.1 fun p => { p with ds := mdel p.ds (placeT T old).2.2 }) (placeT T path).2.1 fun q => { q with ds := mput q.ds (placeT T path).2.2 n }
  else T
section
variable {w w' w1 w2 w3 : World} {tb nm b d : Nat} {T T1 T2 : PT} {B D : Int → Nat} {F : Nat → Prop} {p q : PN} {n k : Int}
set_option maxHeartbeats 4000000 in
set_option maxRecDepth 100000 in
theorem rename_is (h : TreeIs w tb T F) (old path : ByteArray) (hs : old.size < 1000000) (hs2 : path.size < 1000000) :
    Calls Tryz.prog 102 #[.pointer (some ⟨tb, 0, none⟩), .string old, .string path] w fun e w' => e = .returned (TErr (moveE T old path)) ∧ TreeTo tb F w w' (moveT T old path) := by
  have HI := hid h
  have HSame : Hid (moveE T old path ≠ 0 → ∀ w', Turn (fun _ => False) w w' → TreeTo tb F w w' (moveT T old path)) := hid (fun hz w' tt => by
    have : moveT T old path = T := if_neg hz
    rw [this]
    exact TreeTo.same HI.out tt)
  obtain ⟨nm, B, D, h0, hok, hF⟩ := h
  have H := hid h0
  have HOk := hid hok
  have HF := hid hF
  have HP := hid (place_is h0 hok old (by omega))
  clear h0 hok hF
  go_enter Tryz.func102, Tryz.ntmps102
  go_wp2_with fail
  refine HP.out.mono ?_
  rintro e w1 ⟨⟨hz, rfl⟩ | ⟨d, p, s, hpl, hd, hdir, rfl⟩, t1⟩
  · have te := TErr_of hz
    have hE : moveE T old path = (placeT T old).1 := if_pos hz
    have HR := hid (HSame.out (by rw [hE]; exact hz) w1 t1)
    have HE := hid hE
    clear hz hE t1
    go_wp2_with fail
    go_returns
    rw [HE.out]
    exact ⟨congrArg Ending.returned te.symm, HR.out⟩
  · have h1 := H.out.turned t1 (fun _ _ => id)
    have hds : dsT T d = p.ds := by unfold dsT; rw [hd]; rfl
    have hdm := (h1.nd d p hd).dir hdir
    have ln := look_name hdm s
    have hE1 : moveE T old path = (mget p.ds s).elim 7 fun _ => if (placeT T path).1 ≠ 0 then (placeT T path).1 else if (mget (dsT T (placeT T path).2.1) (placeT T path).2.2).isSome then 9 else if preB path (old ++ ⟨#[47]⟩) then 6 else 0 := by
      unfold moveE
      rw [hpl, if_neg (by simp)]
      simp only
      rw [hds]
    have HT1 := hid t1
    have H1 := hid h1
    have HD := hid hd
    have HDr := hid hdir
    have HPl := hid hpl
    have HDs := hid hds
    have HE1 := hid hE1
    have HP2 := hid (place_is h1 HOk.out path (by omega))
    cases hms : mget p.ds s with
    | none =>
      rw [hms] at ln
      simp only [Option.getD_none, Option.isSome_none] at ln
      have hE : moveE T old path = 7 := by rw [hE1, hms]; rfl
      have HR := hid (HSame.out (by rw [hE]; decide) w1 t1)
      have HE := hid hE
      clear h1 hds hdm hms t1 hpl hd hdir hE hE1
      go_wp2_with fail
      go_returns
      rw [HE.out]
      exact ⟨rfl, HR.out⟩
    | some n =>
      rw [hms] at ln hE1
      simp only [Option.getD_some, Option.isSome_some] at ln
      have hE1 : moveE T old path = if (placeT T path).1 ≠ 0 then (placeT T path).1 else if (mget (dsT T (placeT T path).2.1) (placeT T path).2.2).isSome then 9 else if preB path (old ++ ⟨#[47]⟩) then 6 else 0 := hE1
      have HMs := hid hms
      clear h1 hds hdm hms t1 hpl hd hdir HE1
      have HE2 := hid hE1
      clear hE1
      go_wp2_with fail
      refine HP2.out.mono ?_
      rintro e w2 ⟨⟨hz, rfl⟩ | ⟨e2, q, s2, hpl2, hq, hqdir, rfl⟩, t2⟩
      · have te := TErr_of hz
        have hE : moveE T old path = (placeT T path).1 := by rw [HE2.out, if_pos hz]
        have HR := hid (HSame.out (by rw [hE]; exact hz) w2 (HT1.out.trans t2))
        have HE := hid hE
        clear hz hE t2
        go_wp2_with fail
        go_returns
        rw [HE.out]
        exact ⟨congrArg Ending.returned te.symm, HR.out⟩
      · have h2 := H1.out.turned t2 (fun _ _ => id)
        have hdsq : dsT T e2 = q.ds := by unfold dsT; rw [hq]; rfl
        have ln2 := look_name ((h2.nd e2 q hq).dir hqdir) s2
        have hE3 : moveE T old path = if (mget q.ds s2).isSome then 9 else if preB path (old ++ ⟨#[47]⟩) then 6 else 0 := by
          rw [HE2.out, hpl2, if_neg (by simp)]
          simp only
          rw [hdsq]
        have HT2 := hid (HT1.out.trans t2)
        have H2 := hid h2
        cases hms2 : mget q.ds s2 with
        | some m =>
          rw [hms2] at ln2
          simp only [Option.getD_some, Option.isSome_some] at ln2
          have hE : moveE T old path = 9 := by rw [hE3, hms2]; rfl
          have HR := hid (HSame.out (by rw [hE]; decide) w2 HT2.out)
          have HE := hid hE
          clear h2 hdsq hms2 t2 hpl2 hq hqdir hE hE3
          go_wp2_with fail
          go_returns
          rw [HE.out]
          exact ⟨rfl, HR.out⟩
        | none =>
          rw [hms2] at ln2
          simp only [Option.getD_none, Option.isSome_none] at ln2
          have hE4 : moveE T old path = if preB path (old ++ ⟨#[47]⟩) then 6 else 0 := by rw [hE3, hms2]; rfl
          have hos : (old ++ (⟨#[47]⟩ : ByteArray)).size = old.size + 1 := ByteArray.size_append
          have HPr := hid (prefix_is path (old ++ ⟨#[47]⟩) w2 (by omega) (by omega))
          cases hpr : preB path (old ++ ⟨#[47]⟩) with
          | true =>
            rw [hpr] at hE4 HPr
            have hE : moveE T old path = 6 := hE4
            have HR := hid (HSame.out (by rw [hE]; decide) w2 HT2.out)
            have HE := hid hE
            clear h2 hdsq hms2 t2 hpl2 hq hqdir hE hE3 hE4 hpr hos
            go_wp2_with fail
            refine HPr.out.mono ?_
            rintro e w4 ⟨rfl, rfl⟩
            go_wp2_with fail
            go_returns
            rw [HE.out]
            exact ⟨rfl, HR.out⟩
          | false =>
            rw [hpr] at hE4 HPr
            have hE : moveE T old path = 0 := hE4
            have hd2 := HD.out
            have hdm2 := (h2.nd d p hd2).dir HDr.out
            obtain ⟨w4, hrun, hm4, t4⟩ := hdm2.run_delete (P := Tryz.prog) (ty := 0) keyS Tryz.underlying166 Tryz.underlying9 s
            replace hrun : (Builtin.delete_ #[166, 9] 0 #[.map (some (D d)), .string s]).run Tryz.prog w2 = .ok (.tuple #[]) w4 := hrun
            have hin4 := h2.name hd2 HDr.out hm4 t4
            obtain ⟨q', hq', hq'd, hq's⟩ : ∃ q', mget (mput T d { p with ds := mdel p.ds s }) e2 = some q' ∧ q'.isDir = true ∧ mget q'.ds s2 = none := by
              rw [mget_mput]
              by_cases e : e2 = d
              · rw [if_pos e]
                refine ⟨_, rfl, HDr.out, ?_⟩
                rw [e, hd2] at hq
                cases hq
                show mget (mdel p.ds s) s2 = none
                rw [mget_mdel, hms2]; split <;> rfl
              · rw [if_neg e]
                exact ⟨q, hq, hqdir, hms2⟩
            have hdq4 := (hin4.nd e2 q' hq').dir hq'd
            obtain ⟨w5, hrun5, hm5, t5⟩ := hdq4.run_update (P := Tryz.prog) keyS Tryz.underlying166 Tryz.underlying9 s2 n
            replace hrun5 : (Instr.mapUpdate 166 (.map (some (D e2))) (.string s2) (.int .i64 n)).run Tryz.prog w4 = .ok () w5 := hrun5
            have hin5 := hin4.name hq' hq'd hm5 t5
            have hok5 := HOk.out.move_ hd2 HDr.out HMs.out hq' hq'd hq's (placeT_name hpl2)
            have hT : moveT T old path = mput (mput T d { p with ds := mdel p.ds s }) e2 { q' with ds := mput q'.ds s2 n } := by
              unfold moveT
              rw [if_pos hE, HPl.out, hpl2]
              simp only
              rw [HDs.out, HMs.out, updN_is hd2]
              show updN (mput T d { p with ds := mdel p.ds s }) e2 _ = _
              rw [updN_is hq']
            have hfin : TreeTo tb F w w5 (moveT T old path) := by
              rw [hT]
              refine ⟨_, ⟨nm, _, _, hin5, hok5, rfl⟩, (HT2.out.mono (fun _ _ h => h.elim)).trans ((t4.mono (fun j _ e => ?_)).trans (t5.mono (fun j _ e => ?_))), fun k hk => ?_⟩
              · rw [HF.out]; exact .inr (.inr ⟨d, p, hd2, .inr ⟨HDr.out, e⟩⟩)
              · rw [HF.out]; exact .inr (.inr ⟨e2, q, hq, .inr ⟨hqdir, e⟩⟩)
              · rw [foot_name hq', foot_name hd2] at hk
                rw [HF.out]; exact .inl hk
            have HE := hid hE
            have HFin := hid hfin
            clear h2 hdsq hms2 t2 hpl2 hq hqdir hE hE3 hE4 hpr hos hd2 hdm2 hm4 t4 hin4 hq' hq'd hq's hdq4 hm5 t5 hin5 hok5 hT hfin
            go_wp2_with fail
            refine HPr.out.mono ?_
            rintro e w6 ⟨rfl, rfl⟩
            go_wp2_with fail
            go_returns
            rw [HE.out]
            exact ⟨rfl, HFin.out⟩
end
end Go.Proofs.YtiohpmcedfbcgacGreatDoor
/- A map literal's insert in a walk. No program in sight. Conditions: each theorem's own premises. -/
namespace Go.Proofs.YtiohpmcedfbcgacGreatDoor
open Go.RowKit Go.MapKept
set_option linter.unusedVariables false

section
variable {κ β : Type} [DecidableEq κ] {d : TypeDesc} {enc : κ → Value} {val : β → Value} {w : World} {m : List (κ × β)} {P : Program}
variable {ops : Array Oper} {rest : List Oper} {o : Oper} {a : Act} {Q : Exit → Act → World → Prop}
theorem wpList_insput (hg : o.guard = none) (mo x vo : Operand) (T kt et : TypeId) (hop : o.op = .insert T mo x vo) (hT : P.underlying T = some (.map kt et)) (hd : P.underlying kt = some d) (K : KeyEnc d enc)
    (b : Nat) (hm : a.eval mo = .map (some b)) (h : MapIs w b d enc val m) (k : κ) (hx : a.eval x = enc k) (v : β) (hv : a.eval vo = val v)
    (hK : ∀ w', MapIs w' b d enc val (mput m k v) → Turn (fun j => j = b) w w' → wpList P ops Q rest (a.put o.dst undef) w') : wpList P ops Q (o :: rest) a w := by
  refine wpList_plain hg fun K' hK' => ?_
  obtain ⟨w', hrun, r1, r2⟩ := h.run_update K hT hd k v
  unfold Oper.wp
  simp [execOp, hop, hm, hx, hv, hrun, Result.andThen]
  exact hK' _ _ (hK w' r1 r2)
end

end Go.Proofs.YtiohpmcedfbcgacGreatDoor
