/- Several texts of ours in one, in build order (VmStore, VmStoreNew, VmUse). Conditions: each theorem's own premises. -/
import Derived.Test.YtiohpmcedfbcgabGreatDoorVmLoad
import Derived.Test.YtiohpmcedfbcgabGreatDoorBuddyGive
import Derived.Deep.DeepCutAuto
import Derived.Deep.CutBlock
/- Package vm: Store. Conditions: each theorem's own premises. -/
namespace Go.Proofs.YtiohpmcedfbcgabGreatDoor
open Go.RowKit
set_option linter.unusedVariables false

section
variable {w w' w1 w2 w3 : World} {s : SB} {n : Nat} {t t1 t2 : St} {sp pm sb : Nat} {P P' : Int → Option Pg} {O : Int → Nat}
theorem VmOne.stored (h : VmOne w s n t sp pm P O) {m' : Nat → Nat → Int} (tt : Turn (fun b => b = s.wb) w w') (hm : MemIs w' s.mb s.wb n m') : VmAfter s n t sp pm O w w' P { t with m := m' } := by
  obtain ⟨a1, b1, c1⟩ := h.store.words tt hm
  exact ⟨⟨a1, h.space.turned b1 h.off.1 h.off.2, h.off, h.refs, h.one⟩, b1.mono (fun _ _ h => .inr h), c1⟩
theorem StAfter.also {S : Nat → Prop} (h : StAfter s n t w w1 t1) (tt : Turn S w1 w2) (h1 : ∀ k, S k → ¬ StFoot s t1.vs k) (h2 : ∀ k, S k → ¬ k < w.heap.size) : StAfter s n t w w2 t1 :=
  ⟨h.1.turned tt (fun k hk hs => h1 k hs hk), h.2.1.trans' tt (fun k hk hs => absurd hk (h2 k hs)), h.2.2⟩
theorem StAfter.before (h : StAfter s n t w1 w2 t2) (tt : Turn (fun _ => False) w w1) : StAfter s n t w w2 t2 :=
  ⟨h.1, (tt.mono (S' := StFoot s t.vs) (fun _ _ h => h.elim)).trans h.2.1, fun k hk => (h.2.2 k hk).imp id (fun h => Nat.le_trans tt.size h)⟩
theorem usedN_lt {R : Int → Nat} {n : Nat} {g : Int} (h0 : 0 ≤ g) (h : g < n) (hR : R g = 0) : usedN R n < n := by
  have h1 : usedN R n ≤ n := cntB_le _ _
  by_cases e : usedN R n = n
  · have := cntB_all (g := fun f => decide (0 < R (f : Int))) (k := n) e g.toNat (by omega)
    rw [show ((g.toNat : Nat) : Int) = g by omega] at this
    have := of_decide_eq_true this
    omega
  · omega
theorem leftOf_none {fr : Fr} (h : ∀ k, 0 ≤ k → k < 7 → fr k = []) : leftOf fr = 0 := by
  unfold leftOf
  rw [h 0 (by omega) (by omega), h 1 (by omega) (by omega), h 2 (by omega) (by omega), h 3 (by omega) (by omega), h 4 (by omega) (by omega), h 5 (by omega) (by omega), h 6 (by omega) (by omega)]
  rfl
/-- The pages behind a store that took the frame g. -/
theorem store_refs {R R' : Int → Nat} {a pr f g : Int} (ha : 0 ≤ a ∧ a < 64) (hP : P a = some (pr, f)) (hr : ∀ x, 0 ≤ x → R x = O x + cntF P x) (h1 : ∀ x, 0 ≤ x → cntF P x ≤ 1) (hg : 0 ≤ g) (hg0 : R g = 0)
    (hR : R' = fun x => if x = g then 1 else if 0 ≤ f ∧ x = f then R f - 1 else R x) :
    (∀ x, 0 ≤ x → R' x = O x + cntF (setP P a (some (pr, g))) x) ∧ ∀ x, 0 ≤ x → cntF (setP P a (some (pr, g))) x ≤ 1 := by
  have hc : ∀ x, cntF (setP P a (some (pr, g))) x + (if f = x then 1 else 0) = cntF P x + (if g = x then 1 else 0) := fun x => by
    have := cntF_set P a (some (pr, g)) x ha.1 ha.2
    rw [hP, hasF_some, hasF_some] at this
    exact this
  have hfg : f ≠ g := fun e => by
    have h2 := hr g hg
    have h3 := cntF_ge (P := P) (i := a) (f := g) ha.1 ha.2
    rw [hP, hasF_some, if_pos e] at h3
    omega
  refine ⟨fun x hx => ?_, fun x hx => ?_⟩
  · have h2 := hc x
    have h3 := hr x hx
    rw [hR]
    show (if x = g then 1 else if 0 ≤ f ∧ x = f then R f - 1 else R x) = _
    by_cases e : x = g
    · subst e
      rw [if_pos rfl]
      rw [if_neg hfg, if_pos rfl] at h2
      omega
    · rw [if_neg e]
      have e' : ¬ g = x := fun e2 => e e2.symm
      by_cases e3 : x = f
      · subst e3
        rw [if_pos ⟨hx, rfl⟩]
        rw [if_pos rfl, if_neg e'] at h2
        omega
      · rw [if_neg (fun e4 => e3 e4.2)]
        have e3' : ¬ f = x := fun e2 => e3 e2.symm
        rw [if_neg e3', if_neg e'] at h2
        omega
  · have h2 := hc x
    have h3 := h1 x hx
    by_cases e : x = g
    · subst e
      have h4 := hr x hx
      rw [if_neg hfg, if_pos rfl] at h2
      omega
    · have e' : ¬ g = x := fun e2 => e e2.symm
      rw [if_neg e'] at h2
      omega

def StoredOwn (s : SB) (n : Nat) (t : St) (sp pm : Nat) (P : Int → Option Pg) (O : Int → Nat) (a wd v : Int) (q : Pg) (w : World) (e : Ending) (w' : World) : Prop :=
  (0 ≤ q.2 ∧ t.R q.2 ≤ 1) ∧ e = .returned .nilIface ∧ ∃ t', t'.R = t.R ∧ t'.m = memSet t.m q.2.toNat wd.toNat v ∧ VmAfter s n t sp pm O w w' P t'
def StoredFull (s : SB) (n : Nat) (t : St) (sp pm : Nat) (P : Int → Option Pg) (O : Int → Nat) (q : Pg) (w : World) (e : Ending) (w' : World) : Prop :=
  ¬ (0 ≤ q.2 ∧ t.R q.2 ≤ 1) ∧ usedN t.R n = n ∧ e = .returned (VmErr 12) ∧ VmAfter s n t sp pm O w w' P t
def newM (m : Nat → Nat → Int) (f g wd v : Int) : Nat → Nat → Int := memSet (if f < 0 then memZero m g.toNat else memCopy m g.toNat f.toNat) g.toNat wd.toNat v
def StoredNew (s : SB) (n : Nat) (t : St) (sp pm : Nat) (P : Int → Option Pg) (O : Int → Nat) (a wd v : Int) (q : Pg) (w : World) (e : Ending) (w' : World) : Prop :=
  ¬ (0 ≤ q.2 ∧ t.R q.2 ≤ 1) ∧ e = .returned .nilIface ∧ ∃ (g : Int) (t' : St), 0 ≤ g ∧ g < n ∧ t.R g = 0 ∧ t'.m = newM t.m q.2 g wd v ∧ VmAfter s n t sp pm O w w' (setP P a (some (q.1, g))) t'
set_option maxHeartbeats 1000000 in
set_option maxRecDepth 100000 in
theorem vmStore_err {a wd v z q1 f : Int} (HA : Hid (Calls Tryz.prog 64 #[.pointer (some ⟨sp, 0, none⟩), .int .i64 a, .int .i64 wd, .int .i64 2] w fun e w' => e = .returned (.tuple #[.agg #[.int .i64 q1, .int .i64 f], .iface 28 (.int .i64 z)]) ∧ Turn (fun _ => False) w w')) :
    Calls Tryz.prog 18 #[.pointer (some ⟨sp, 0, none⟩), .int .i64 a, .int .i64 wd, .int .i64 v] w fun e w' => e = .returned (.iface 28 (.int .i64 z)) ∧ Turn (fun _ => False) w w' := by
  go_enter Tryz.func18, Tryz.ntmps18
  go_wp2_with fail
  refine HA.out.mono ?_
  rintro e w1 ⟨rfl, t1⟩
  have HT1 := hid t1
  clear t1
  go_wp2_with fail
  go_ret
  exact ⟨rfl, HT1.out.alloc _⟩
def AccOk (sp : Nat) (a wd q1 f : Int) (w : World) : Prop := Calls Tryz.prog 64 #[.pointer (some ⟨sp, 0, none⟩), .int .i64 a, .int .i64 wd, .int .i64 2] w fun e w' => e = .returned (.tuple #[.agg #[.int .i64 q1, .int .i64 f], .nilIface]) ∧ Turn (fun _ => False) w w'
set_option maxHeartbeats 2000000 in
set_option maxRecDepth 100000 in
theorem vmStore_own (h : VmOne w s n t sp pm P O) {a wd v q1 f : Int} (hq : P a = some (q1, f)) (h0 : 0 ≤ wd) (h8 : wd < 8) (HA : AccOk sp a wd q1 f w) (hf : 0 ≤ f) (hr : t.R f ≤ 1) :
    Calls Tryz.prog 18 #[.pointer (some ⟨sp, 0, none⟩), .int .i64 a, .int .i64 wd, .int .i64 v] w (StoredOwn s n t sp pm P O a wd v (q1, f) w) := by
  have hpos : 0 < t.R f := by
    have h1 := h.refs f hf
    have hd := h.space.dom _ _ hq
    have h2 := cntF_ge (P := P) (i := a) (f := f) hd.1 hd.2
    rw [hq, hasF_some, if_pos rfl] at h2
    omega
  have hfr := h.store.frame hpos
  have HRf : Hid (t.R f ≤ 1) := hid hr
  have HF := hid hf
  have H := hid h
  have hrv : ((mget t.rl f).getD 0 : Nat) ≤ 1 := hr
  obtain ⟨rv, hrv2⟩ : ∃ rv : Nat, (mget t.rl f).getD 0 = rv := ⟨_, rfl⟩
  have HA' := hid HA
  unfold AccOk at HA'
  clear h hq HA hpos hr
  go_enter Tryz.func18, Tryz.ntmps18
  go_wp2_with fail
  refine HA'.out.mono ?_
  rintro e w1 ⟨rfl, tt1⟩
  have T2 := tt1.alloc (.cells #[.int .i64 q1, .int .i64 f] 143)
  have e0 : (w1.alloc (.cells #[.int .i64 q1, .int .i64 f] 143)).cell? ⟨w1.heap.size, 1, none⟩ = some (.int .i64 f) := by simp
  have h2 := H.out.turned T2 id id (fun _ _ => id)
  have HT2 := hid T2
  have H2 := hid h2
  clear T2 h2 tt1
  go_wp2_with fail
  generalize w1.alloc (.cells #[.int .i64 q1, .int .i64 f] 143) = W at *
  have h2 := H2.out
  have lk := fun k => look_rc (h2.store.refs.turned ((Turn.refl (fun _ => False) W).drewN k) id) f
  rw [hrv2] at hrv lk
  have hrv3 : decide ((1 : Int) < rv) = false := decide_eq_false (by omega)
  have hfn : decide (f < 0) = false := decide_eq_false (by omega)
  have c0 := h2.space.c0
  have d0 := h2.store.c0
  have d2 := h2.store.c2
  clear h2 hrv2
  go_quiet (fail)
  all_goals go_wp2_with fail
  have hf2 := hfr.2
  have HSet := hid (set_yes (H2.out.store.mem.turned (((Turn.refl (fun _ => False) W).drewN nq).drew) id id) f wd v hf hf2 h0 h8)
  go_region_with (go_at_call 70; refine HSet.out.mono ?_; rintro e w3 ⟨rfl, hm3, tt3⟩; have HM3 := hid hm3; have HT3 := hid tt3; clear hm3 tt3)
  all_goals go_wp2_with fail
  all_goals go_ret
  all_goals exact ⟨⟨HF.out, HRf.out⟩, rfl, { t with m := memSet t.m f.toNat wd.toNat v }, rfl, rfl, (H.out.same (HT2.out.drewN _).drew).trans ((H2.out.turned (((Turn.refl (fun _ => False) W).drewN nq).drew) id id (fun _ _ => id)).stored HT3.out HM3.out)⟩
theorem StAfter.cells (h : VmOne w s n t sp pm P O) (hA : StAfter s n t w w' t1) :
    w'.cell? ⟨sp, 0, none⟩ = some (.pointer (some ⟨s.sb, 0, none⟩)) ∧ w'.cell? ⟨sp, 1, none⟩ = some (.map (some pm)) ∧ w'.cell? ⟨s.sb, 0, none⟩ = some (.pointer (some ⟨s.mb, 0, none⟩)) ∧ w'.cell? ⟨s.sb, 1, none⟩ = some (.pointer (some ⟨s.p, 0, none⟩)) ∧ w'.cell? ⟨s.sb, 2, none⟩ = some (.map (some s.rm)) :=
  ⟨(hA.2.1.cell (a := ⟨sp, 0, none⟩) (lt_of_cell h.space.c0) h.off.1).trans h.space.c0, (hA.2.1.cell (a := ⟨sp, 1, none⟩) (lt_of_cell h.space.c1) h.off.1).trans h.space.c1, hA.1.c0, hA.1.c1, hA.1.c2⟩
theorem StAfter.own (hA : StAfter s n t w w' t1) {c : Nat} (hc : c < w.heap.size) (hn : ¬ StFoot s t.vs c) : (∀ i, w'.cell? ⟨c, i, none⟩ = w.cell? ⟨c, i, none⟩) ∧ (∀ i, w'.frozen? ⟨c, i, none⟩ = w.frozen? ⟨c, i, none⟩) ∧ ¬ StFoot s t1.vs c :=
  ⟨fun i => hA.2.1.cell (a := ⟨c, i, none⟩) hc hn, fun i => hA.2.1.frozen (a := ⟨c, i, none⟩) hc hn, fun hf => (hA.2.2 c hf).elim hn (fun h => by omega)⟩
end
end Go.Proofs.YtiohpmcedfbcgabGreatDoor
/- Package vm: Store, at a page that wants a new frame. Conditions: each theorem's own premises. -/
namespace Go.Proofs.YtiohpmcedfbcgabGreatDoor
open Go.RowKit
set_option linter.unusedVariables false

section
variable {w w' w1 w2 w3 : World} {s : SB} {n : Nat} {t t1 t2 : St} {sp pm sb : Nat} {P P' : Int → Option Pg} {O : Int → Nat}
set_option maxHeartbeats 4000000 in
set_option maxRecDepth 100000 in
theorem vmStore_new (h : VmOne w s n t sp pm P O) {a wd v q1 f : Int} (hq : P a = some (q1, f)) (h0 : 0 ≤ wd) (h8 : wd < 8) (HA : AccOk sp a wd q1 f w) (hno : ¬ (0 ≤ f ∧ t.R f ≤ 1)) :
    Calls Tryz.prog 18 #[.pointer (some ⟨sp, 0, none⟩), .int .i64 a, .int .i64 wd, .int .i64 v] w fun e w' => StoredFull s n t sp pm P O (q1, f) w e w' ∨ StoredNew s n t sp pm P O a wd v (q1, f) w e w' := by
  have HNo := hid hno
  have H := hid h
  have HQ := hid hq
  have HA' := hid HA
  unfold AccOk at HA'
  clear h hq HA hno
  go_enter Tryz.func18, Tryz.ntmps18
  go_wp2_with fail
  refine HA'.out.mono ?_
  rintro e w1 ⟨rfl, tt1⟩
  have T2 := tt1.alloc (.cells #[.int .i64 q1, .int .i64 f] 143)
  have e0 : (w1.alloc (.cells #[.int .i64 q1, .int .i64 f] 143)).cell? ⟨w1.heap.size, 1, none⟩ = some (.int .i64 f) := by simp
  have e1 : (w1.alloc (.cells #[.int .i64 q1, .int .i64 f] 143)).cell? ⟨w1.heap.size, 0, none⟩ = some (.int .i64 q1) := by simp
  have e2 : (w1.alloc (.cells #[.int .i64 q1, .int .i64 f] 143)).frozen? ⟨w1.heap.size, 1, none⟩ = false := by simp
  have hWs : (w1.alloc (.cells #[.int .i64 q1, .int .i64 f] 143)).heap.size = w1.heap.size + 1 := by simp
  have hW0 := tt1.size
  have h2 := H.out.turned T2 id id (fun _ _ => id)
  have HT2 := hid T2
  have H2 := hid h2
  clear T2 h2 tt1
  go_wp2_with fail
  generalize w1.alloc (.cells #[.int .i64 q1, .int .i64 f] 143) = W at *
  obtain ⟨c, hc⟩ : ∃ c, w1.heap.size = c := ⟨_, rfl⟩
  rw [hc] at hWs hW0 e0 e1 e2 ⊢
  have HC : Hid (¬ StFoot s t.vs c ∧ c < W.heap.size) := hid ⟨fun hf => by have := H.out.store.foot_lt c hf; omega, by omega⟩
  have hsc : sp ≠ c := by have := H.out.space.lt.1; omega
  have hbc : s.sb ≠ c := fun e => HC.out.1 (.inl e.symm)
  have h2 := H2.out
  have HWs := hid hWs
  have c0 := h2.space.c0
  have d0 := h2.store.c0
  have d1 := h2.store.c1
  have d2 := h2.store.c2
  have lk := fun k => look_rc (h2.store.refs.turned ((Turn.refl (fun _ => False) W).drewN k) id) f
  clear h2 hc hWs
  go_cut [38] (fun v wx => v = .bool true ∧ Hid (Turn (fun _ => False) W wx))
  case first =>
    as_aux_lemma =>
      by_cases hf : f < 0
      · have hfn : decide (f < 0) = true := decide_eq_true hf
        go_quiet (fail)
        go_wp2_with fail
        go_meet
        exact ⟨rfl, hid (Turn.drewN (Turn.refl _ _) _)⟩
      · have hfn : decide (f < 0) = false := decide_eq_false hf
        have hrv : 1 < ((mget t.rl f).getD 0 : Nat) := Nat.lt_of_not_le (fun h => HNo.out ⟨by omega, h⟩)
        obtain ⟨rv, hrv2⟩ : ∃ rv : Nat, (mget t.rl f).getD 0 = rv := ⟨_, rfl⟩
        rw [hrv2] at hrv lk
        have hrv3 : decide ((1 : Int) < rv) = true := decide_eq_true (by omega)
        clear hrv2
        go_quiet (fail)
        go_wp2_with fail
        go_meet
        exact ⟨rfl, hid (Turn.drewN (Turn.refl _ _) _)⟩
  case rest =>
    obtain ⟨rfl, ht⟩ := hcut
    have h3 := H2.out.turned ht.out id id (fun _ _ => id)
    have HT3 := hid (HT2.out.trans ht.out)
    have hlt3 := ht.out.size
    replace e0 := (ht.out.cell (a := ⟨c, 1, none⟩) HC.out.2 id).trans e0
    replace e1 := (ht.out.cell (a := ⟨c, 0, none⟩) HC.out.2 id).trans e1
    replace e2 := (ht.out.frozen (a := ⟨c, 1, none⟩) HC.out.2 id).trans e2
    replace HC : Hid (¬ StFoot s t.vs c ∧ c < wc.heap.size) := hid ⟨HC.out.1, by have := HC.out.2; omega⟩
    replace c0 := h3.space.c0
    replace d0 := h3.store.c0
    replace d1 := h3.store.c1
    replace d2 := h3.store.c2
    have H3 := hid h3
    have HAl := hid (alloc_any h3.store.pool 0 (by omega) h3.store.good (by have := h3.store.hn; show (n : Int) ≤ 256; omega))
    have hc1 := h3.space.c1
    clear h3 lk ht HT2 H2 HA' hlt3
    go_wp2_with fail
    refine HAl.out.mono ?_
    rintro e w2 hres
    rcases hres with ⟨rfl, rfl, hnone⟩ | ⟨k, base, fr', hk0, hk7, hbef, hmem, hle, rfl, hnew, hgood, hpa⟩
    · have HNone := hid hnone
      clear hnone
      go_wp2_with fail
      go_ret
      refine .inl ⟨HNo.out, ?_, rfl, H.out.same HT3.out⟩
      have h1 := H.out.store.left
      rw [leftOf_none HNone.out] at h1
      omega
    · obtain ⟨vs2, hp2, tp2, gp2⟩ := hpa
      have hbase := H.out.store.good.okF k base hk7 hmem
      have HB : Hid (0 ≤ base ∧ base < n ∧ t.R base = 0) := by
        refine hid ⟨hbase.2.1, ?_, ?_⟩
        · have h1 := hbase.2.2.2
          have h2 := sz_pos k
          omega
        · have h1 := H.out.store.same base
          rw [hnew] at h1
          unfold St.R
          cases hm : mget t.rl base with
          | none => rfl
          | some x => rw [hm] at h1; cases h1
      have HNew := hid hnew
      have HP2 := hid hp2
      have HTp := hid tp2
      have HGp := hid gp2
      have HGood := hid hgood
      have nsb : ¬ Foot s.p s.pmb t.vs s.sb := fun hf => (H.out.store.ap _ hf).1 rfl
      have nrm : ¬ Foot s.p s.pmb t.vs s.rm := fun hf => (H.out.store.ap _ hf).2.1 rfl
      have nsp : ¬ Foot s.p s.pmb t.vs sp := fun hf => H.out.off.1 (.inr (.inr (.inr (.inr hf))))
      have HRf := hid (H3.out.store.refs.turned tp2 nrm)
      have c02 := (tp2.cell (a := ⟨sp, 0, none⟩) (lt_of_cell c0) nsp).trans c0
      have d22 := (tp2.cell (a := ⟨s.sb, 2, none⟩) (lt_of_cell d2) nsb).trans d2
      have HCells : Hid (∀ w' t', StAfter s n t wc w' t' → _) := hid (fun w' t' (hA : StAfter s n t wc w' t') => (⟨hA.cells H3.out, hA.own HC.out.2 HC.out.1⟩ : _ ∧ _))
      have E0 := hid e0
      have E1 := hid e1
      have E2 := hid e2
      clear hnew hp2 tp2 gp2 hgood nsb nrm nsp hmem hle hbef hbase c0 d0 d1 d2 e0 e1 e2 hc1
      go_upto_if 63 with (at_mapUpdate; refine wpList_mapput rfl _ _ _ 92 3 3 rfl Tryz.underlying92 Tryz.underlying3 keyI s.rm rfl HRf.out base rfl 1 (by first | rfl | go_num) ?_; intro w4 hm4 t4; have hA4 := H3.out.store.taken HNew.out HP2.out HGood.out HTp.out HGp.out t4 hm4; obtain ⟨⟨c04, c14, d04, d14, d24⟩, k4, f4, n4⟩ := HCells.out _ _ hA4; have e04 := (k4 1).trans E0.out; have HA4 := hid hA4; clear k4 f4 n4 hm4 t4 hA4 c02 d22)
      have HBn : base < n := HB.out.2.1
      have HB0 : 0 ≤ base := HB.out.1
      go_cut [12] (fun er wx => er = .nilIface ∧ Hid (∃ t5, StAfter s n t wc wx t5 ∧ t5.R = (fun x => if x = base then 1 else if 0 ≤ f ∧ x = f then t.R f - 1 else t.R x) ∧ t5.m = if f < 0 then memZero t.m base.toNat else memCopy t.m base.toNat f.toNat))
      case first =>
        by_cases hf : f < 0
        · have hfn : decide (f < 0) = true := decide_eq_true hf
          have HZ := hid (zero_yes HA4.out.1.mem base HB0 HBn)
          go_wp2_with fail
          refine HZ.out.mono ?_
          rintro e w5 ⟨rfl, hm5, tt5⟩
          have HM5 := hid hm5
          have HT5 := hid tt5
          clear hm5 tt5
          go_wp2_with fail
          go_meet
          refine ⟨rfl, hid ⟨_, HA4.out.trans (HA4.out.1.words HT5.out HM5.out), ?_, ?_⟩⟩
          · refine (R_new t base vs2 fr' (mput t.tk base 0) _).trans ?_
            funext x
            rw [if_neg (show ¬ (0 ≤ f ∧ x = f) from fun h => by omega)]
          · rw [if_pos hf]
        · have hfn : decide (f < 0) = false := decide_eq_false hf
          have hrv : 1 < t.R f := Nat.lt_of_not_le (fun h => HNo.out ⟨by omega, h⟩)
          have hfr := H.out.store.frame (f := f) (by omega)
          have HCp := hid (copy_yes (HA4.out.1.mem.turned ((Turn.refl (fun _ => False) _).drew) id id) base f HB0 HBn hfr.1 hfr.2)
          have Hrv := hid hrv
          have HFn := hid hf
          clear hrv hf
          go_upto_region 11 with fail
          go_cut [12] (fun er wx => er = .nilIface ∧ Hid (∃ m5, m5 = memCopy t.m base.toNat f.toNat ∧ StAfter s n t wc wx ⟨vs2, fr', mput t.tk base 0, mput t.rl base 1, m5⟩))
          case first =>
            --<<
            as_aux_lemma =>
              go_region_with (go_at_call 69; refine HCp.out.mono ?_; rintro e w5 ⟨rfl, hm5, tt5⟩; have HM5 := hid hm5; have HT5 := hid (Turn.trans' (Turn.drew (Turn.refl _ _)) tt5 (fun _ _ h => h)); clear hm5 tt5)
              all_goals go_wp2_with fail
              all_goals go_meet
              all_goals exact ⟨rfl, hid ⟨_, rfl, HA4.out.trans (HA4.out.1.words HT5.out HM5.out)⟩⟩
            -->>
          case rest =>
            obtain ⟨rfl, hx⟩ := hcut
            obtain ⟨m5, hm5, hA5⟩ := hx.out
            have HM5 := hid hm5
            have HA5 := hid hA5
            have HD := hid (drop_is (hA5.1.turned ((Turn.refl (fun _ => False) _).drew) (fun _ _ => id)) f (by
              have h1 := R_new t base vs2 fr' (mput t.tk base 0) m5
              rw [h1]
              show 0 < if f = base then 1 else t.R f
              split
              · omega
              · have := Hrv.out; omega))
            obtain ⟨⟨c05, c15, d05, d15, d25⟩, k5, f5, n5⟩ := HCells.out _ _ hA5
            have e05 := (k5 1).trans E0.out
            clear hx hm5 hA5 c04 c14 d04 d14 d24 e04 k5 f5 n5
            go_upto_region 12 with fail
            go_region_with (go_at_call 63; refine HD.out.mono ?_; rintro e w6 ⟨rfl, t6, hA6, hm6, hR6⟩; have HA6 := hid hA6; have HM6 := hid hm6; have HR6 := hid hR6; clear hA6 hm6 hR6)
            all_goals go_wp2_with fail
            all_goals go_meet
            all_goals
              refine ⟨rfl, hid ⟨t6, (HA5.out.also (Turn.drew (Turn.refl (fun _ => False) _)) (fun _ h => h.elim) (fun _ h => h.elim)).trans HA6.out, ?_, ?_⟩⟩
            all_goals first
              | (rw [HR6.out]
                 have h1 := R_new t base vs2 fr' (mput t.tk base 0) m5
                 funext x
                 rw [h1]
                 have h2 := HB.out.2.2
                 have h3 := Hrv.out
                 have h4 : f ≠ base := fun e => by rw [e, h2] at h3; omega
                 show (if x = f then (if f = base then 1 else t.R f) - 1 else if x = base then 1 else t.R x) = _
                 by_cases e : x = f
                 · subst e
                   rw [if_pos rfl, if_neg h4, if_neg h4, if_pos ⟨by omega, rfl⟩]
                 · rw [if_neg e]
                   by_cases e2 : x = base
                   · rw [if_pos e2, if_pos e2]
                   · rw [if_neg e2, if_neg e2, if_neg (fun e3 => e e3.2)])
              | (rw [HM6.out, if_neg (Int.not_lt.2 HFn.out)]; exact HM5.out)
      case rest =>
        obtain ⟨rfl, hx⟩ := hcut
        obtain ⟨t5, hA5, hR5, hm5⟩ := hx.out
        have HA5 := hid hA5
        have HR5 := hid hR5
        have HM5 := hid hm5
        obtain ⟨⟨c05, c15, d05, d15, d25⟩, k5, f5, n5⟩ := HCells.out _ _ hA5
        have e05 := (k5 1).trans E0.out
        have e15 := (k5 0).trans E1.out
        have e25 := (f5 1).trans E2.out
        have N5 := hid n5
        clear hx hA5 hR5 hm5 k5 f5 n5 c04 c14 d04 d14 d24 e04
        go_wp2_with fail
        have hA6 := (HA5.out.before HT3.out).also ((Turn.refl (fun k => k = c) wc).setCell ⟨c, 1, none⟩ (.int .i64 base) (fun _ => rfl)) (fun k e => e ▸ N5.out) (fun k e => by omega)
        have g1 : (wc.setCell ⟨c, 1, none⟩ (.int .i64 base)).cell? ⟨c, 1, none⟩ = some (.int .i64 base) := World.cell?_setCell_same _ _ _ e05
        have g0 : (wc.setCell ⟨c, 1, none⟩ (.int .i64 base)).cell? ⟨c, 0, none⟩ = some (.int .i64 q1) := by
          exact (World.cell?_setCell_other _ _ _ _ (fun e => by simp at e)).trans e15
        generalize wc.setCell ⟨c, 1, none⟩ (.int .i64 base) = W5 at *
        obtain ⟨c06, c16, d06, d16, d26⟩ := hA6.cells H.out
        obtain ⟨pl, hpl, he⟩ := H.out.space.pages
        have HE := hid he
        have hpd : MapIs W5.drew pm (.int .i64) encI encPg pl := (hpl.turned hA6.2.1 H.out.off.2).of_heap rfl
        obtain ⟨w7, hrun, hm7, t7⟩ := hpd.run_update (P := Tryz.prog) keyI Tryz.underlying135 Tryz.underlying3 a (q1, base)
        simp only [encI, encPg] at hrun
        have hpc : pm ≠ c := by have := H.out.space.lt.2; omega
        have hdm := H.out.space.dom _ _ HQ.out
        have hok := H.out.space.ok _ _ HQ.out
        have hsr := store_refs (O := O) (R := t.R) (R' := t5.R) (f := f) (pr := q1) hdm HQ.out H.out.refs H.out.one HB0 HB.out.2.2 HR5.out
        have hV := H.out.step hA6 (Turn.trans' ((Turn.refl (fun q => q = pm) W5).drew) t7 (fun _ _ h => h)) hm7 (P' := setP P a (some (q1, base))) (fun i => by rw [mget_mput, HE.out]; rfl) (setP_dom H.out.space hdm) (setP_ok H.out.space (fun q hq => by have := H.out.store.hn; cases hq; exact ⟨hok.1, hok.2.1, by simp only; omega, by simp only; omega⟩)) hsr.1 hsr.2
        have HV := hid hV
        have g17 := (t7.cell (a := ⟨c, 1, none⟩) (by rw [show W5.drew.heap = W5.heap from rfl]; exact lt_of_cell g1) (fun e => hpc e.symm)).trans (show W5.drew.cell? ⟨c, 1, none⟩ = _ from g1)
        have c07 := hV.1.space.c0
        have d07 := hV.1.store.c0
        have HSet := hid (set_yes (hV.1.store.mem.turned ((Turn.refl (fun _ => False) w7).drew) id id) base wd v HB0 HBn h0 h8)
        clear hA6 hpl he hpd hm7 t7 hdm hok hsr hV c05 c15 d05 d15 d25 e05 e15 e25
        go_region
        go_wp2_with fail
        go_region_with (go_at_call 70; refine HSet.out.mono ?_; rintro e w8 ⟨rfl, hm8, tt8⟩; have HM8 := hid hm8; have HT8 := hid (Turn.trans' (Turn.drew (Turn.refl (fun b => b = s.wb) w7)) tt8 (fun _ _ h => h)); clear hm8 tt8)
        all_goals go_wp2_with fail
        all_goals go_ret
        all_goals exact .inr ⟨HNo.out, rfl, base, { t5 with m := memSet t5.m base.toNat wd.toNat v }, HB.out.1, HB.out.2.1, HB.out.2.2, by unfold newM; rw [← HM5.out], HV.out.trans (HV.out.1.stored HT8.out HM8.out)⟩
end
end Go.Proofs.YtiohpmcedfbcgabGreatDoor
/- Package vm: Store at any page; what a use does to a space, told as one. Conditions: each theorem's own premises. -/
namespace Go.Proofs.YtiohpmcedfbcgabGreatDoor
open Go.RowKit
set_option linter.unusedVariables false

section
variable {w w' w1 w2 w3 : World} {s : SB} {n : Nat} {t t1 t2 : St} {sp pm sb : Nat} {P P' : Int → Option Pg} {O : Int → Nat}
def StoredAny (s : SB) (n : Nat) (t : St) (sp pm : Nat) (P : Int → Option Pg) (O : Int → Nat) (a wd v : Int) (w : World) (e : Ending) (w' : World) : Prop :=
  (accE P a wd 2 ≠ 0 ∧ e = .returned (VmErr (accE P a wd 2)) ∧ VmAfter s n t sp pm O w w' P t) ∨
  (accE P a wd 2 = 0 ∧ 0 ≤ wd ∧ wd < 8 ∧ ∃ q, P a = some q ∧ (StoredOwn s n t sp pm P O a wd v q w e w' ∨ StoredFull s n t sp pm P O q w e w' ∨ StoredNew s n t sp pm P O a wd v q w e w'))
theorem vmStore_any (h : VmOne w s n t sp pm P O) (a wd v : Int) :
    Calls Tryz.prog 18 #[.pointer (some ⟨sp, 0, none⟩), .int .i64 a, .int .i64 wd, .int .i64 v] w (StoredAny s n t sp pm P O a wd v w) := by
  have hA := access_is h.space a wd 2 (by omega)
  unfold Accessed at hA
  by_cases hz : accE P a wd 2 = 0
  · rcases accE_or P a wd 2 with ⟨he, hn⟩ | he | he | ⟨he, h0, h8, ⟨q1, f⟩, hq, hq1⟩
    · omega
    · omega
    · omega
    · rw [hz, hq] at hA
      have hA' : AccOk sp a wd q1 f w := hA
      by_cases hown : 0 ≤ f ∧ t.R f ≤ 1
      · refine (vmStore_own h hq h0 h8 hA' hown.1 hown.2 (v := v)).mono fun e w' hr => .inr ⟨hz, h0, h8, _, hq, .inl hr⟩
      · refine (vmStore_new h hq h0 h8 hA' hown (v := v)).mono fun e w' hr => .inr ⟨hz, h0, h8, _, hq, .inr hr⟩
  · rw [vmErr_of hz] at hA
    generalize (P a).getD noPg = q at hA
    refine (vmStore_err (z := accE P a wd 2) (q1 := q.1) (f := q.2) (v := v) hA).mono ?_
    rintro e w' ⟨rfl, tt⟩
    exact .inl ⟨hz, by rw [vmErr_of hz], h.same tt⟩

/-- What a use of a space does. -/
def Used (s : SB) (n : Nat) (t : St) (sp pm : Nat) (P : Int → Option Pg) (O : Int → Nat) (v : Int) (w : World) (e : Ending) (w' : World) : Prop :=
  ∃ (z : Int) (P' : Int → Option Pg) (t' : St), e = .returned (VmErr z) ∧ 0 ≤ z ∧ z < 15 ∧ VmAfter s n t sp pm O w w' P' t' ∧ (z ≠ 0 → P' = P) ∧ (z = 12 → usedN t.R n = n) ∧ (∀ f, 0 ≤ f → 0 < O f → ∀ k, t'.m f.toNat k = t.m f.toNat k) ∧ ∀ B : Int → Prop, B 0 → B v → (∀ f k, B (t.m f k)) → ∀ f k, B (t'.m f k)
theorem used_of_store {a wd v : Int} {e : Ending} (h : VmOne w s n t sp pm P O) (hs : StoredAny s n t sp pm P O a wd v w e w') : Used s n t sp pm P O v w e w' := by
  rcases hs with ⟨hz, rfl, hA⟩ | ⟨hz, h0, h8, ⟨q1, f⟩, hq, ⟨⟨hf, hr⟩, rfl, t', hR, hm, hA⟩ | ⟨hno, hu, rfl, hA⟩ | ⟨hno, rfl, g, t', g0, gn, gR, hm, hA⟩⟩
  · refine ⟨_, P, t, rfl, ?_, ?_, hA, fun _ => rfl, fun he => ?_, fun _ _ _ _ => rfl, fun B _ _ h => h⟩
    · rcases accE_or P a wd 2 with ⟨he, hn⟩ | he | he | ⟨he, _⟩ <;> omega
    · rcases accE_or P a wd 2 with ⟨he, hn⟩ | he | he | ⟨he, _⟩ <;> omega
    · rcases accE_or P a wd 2 with ⟨he', hn⟩ | he' | he' | ⟨he', _⟩ <;> omega
  · refine ⟨0, P, t', rfl, by omega, by omega, hA, fun _ => rfl, fun he => by omega, fun g hg hO k => ?_, fun B _ hv h g k => by
      rw [hm]
      unfold memSet
      split
      · exact hv
      · exact h g k⟩
    have h1 := h.refs f hf
    have hd := h.space.dom _ _ hq
    have h2 := cntF_ge (P := P) (i := a) (f := f) hd.1 hd.2
    rw [hq, hasF_some, if_pos rfl] at h2
    simp only at hr hm hf
    rw [hm]
    unfold memSet
    rw [if_neg]
    rintro ⟨e, _⟩
    have : g = f := by omega
    subst this
    omega
  · exact ⟨12, P, t, rfl, by omega, by omega, hA, fun _ => rfl, fun _ => hu, fun _ _ _ _ => rfl, fun B _ _ h => h⟩
  · refine ⟨0, _, t', rfl, by omega, by omega, hA, fun h => absurd rfl h, fun he => by omega, fun x hx hO k => ?_, fun B b0 hv h x k => by
      rw [hm]
      unfold newM memSet
      split
      · exact hv
      · split
        · unfold memZero
          split
          · exact b0
          · exact h x k
        · unfold memCopy
          split
          · exact h _ k
          · exact h x k⟩
    have h1 := h.refs g g0
    have hne : x.toNat ≠ g.toNat := fun e => by
      have : x = g := by omega
      subst this
      omega
    rw [hm]
    unfold newM memSet
    rw [if_neg (fun e => hne e.1)]
    split
    · unfold memZero; rw [if_neg hne]
    · unfold memCopy; rw [if_neg hne]
theorem used_of_unmap (v : Int) {a k : Int} {e : Ending} (h : VmOne w s n t sp pm P O) (hs : Unmapped s n t sp pm P O a k w e w') : Used s n t sp pm P O v w e w' := by
  obtain ⟨rfl, t', hm, hA⟩ := hs
  have hz : unmapE P a k = 0 ∨ unmapE P a k = 2 ∨ unmapE P a k = 7 := by
    unfold unmapE
    split
    · exact .inr (.inl rfl)
    · split
      · exact .inr (.inr rfl)
      · exact .inl rfl
  refine ⟨_, _, t', rfl, by omega, by omega, hA, fun hne => by rw [if_neg hne], fun he => by omega, fun _ _ _ _ => by rw [hm], fun B _ _ h => by rw [hm]; exact h⟩
theorem used_of_prot (v : Int) {a k p : Int} {e : Ending} (h : VmOne w s n t sp pm P O) (hs : Protected s n t sp pm P O a k p w e w') : Used s n t sp pm P O v w e w' := by
  obtain ⟨rfl, hA⟩ := hs
  have hz : protE P a k p = 0 ∨ protE P a k p = 1 ∨ protE P a k p = 2 ∨ protE P a k p = 7 := by
    unfold protE
    split
    · exact .inr (.inr (.inl rfl))
    · split
      · exact .inr (.inl rfl)
      · split
        · exact .inr (.inr (.inr rfl))
        · exact .inl rfl
  refine ⟨_, _, t, rfl, by omega, by omega, hA, fun hne => by rw [if_neg hne], fun he => by omega, fun _ _ _ _ => rfl, fun B _ _ h => h⟩
theorem mapP_cnt {a k p : Int} (h0 : mapE P a k p = 0) (f : Int) (hf : 0 ≤ f) : cntF (mapP P a k p) f = cntF P f := sumN_congr fun i hi => by
  unfold mapE at h0
  split at h0
  · omega
  · rename_i hr
    have hr' : RightP a k := Classical.byContradiction hr
    split at h0
    · omega
    · split at h0
      · omega
      · rename_i hth
        unfold mapP
        by_cases h1 : a ≤ (i : Int) ∧ (i : Int) < a + k
        · rw [if_pos h1]
          have e : P (i : Int) = none := by
            have hc : thereN P a k.toNat = 0 := by omega
            have h2 : (P (i : Int)).isSome = false := by
              cases hs : (P (i : Int)).isSome with
              | false => rfl
              | true =>
                exfalso
                have h3 : ((i : Int) - a).toNat < k.toNat := by omega
                have h4 : (fun j : Nat => (P (a + (j : Int))).isSome) ((i : Int) - a).toNat = true := by
                  show (P (a + (((i : Int) - a).toNat : Int))).isSome = true
                  rw [show a + ((((i : Int) - a).toNat : Nat) : Int) = (i : Int) by omega]; exact hs
                have h5 : ∀ (g : Nat → Bool) (k j : Nat), j < k → g j = true → 0 < cntB g k := by
                  intro g k
                  induction k with
                  | zero => intro j hj; omega
                  | succ k ih =>
                    intro j hj hg
                    rw [cntB_succ]
                    by_cases e : j = k
                    · subst e; rw [hg]; simp
                    · have := ih j (by omega) hg; omega
                have h6 := h5 (fun j : Nat => (P (a + (j : Int))).isSome) _ _ h3 h4
                unfold thereN at hc
                omega
            cases hq : P (i : Int) with
            | none => rfl
            | some q => rw [hq] at h2; cases h2
          rw [e, hasF_some]
          simp only
          rw [if_neg (by omega)]
          rfl
        · rw [if_neg h1]
theorem used_of_map (v : Int) {a k p : Int} {e : Ending} (h : VmOne w s n t sp pm P O) (hs : e = .returned (VmErr (mapE P a k p)) ∧ SpIs w' sp pm s.sb (if mapE P a k p = 0 then mapP P a k p else P) ∧ Turn (fun j => j = pm) w w') : Used s n t sp pm P O v w e w' := by
  obtain ⟨rfl, hS, tt⟩ := hs
  have hz : mapE P a k p = 0 ∨ mapE P a k p = 1 ∨ mapE P a k p = 2 ∨ mapE P a k p = 9 := by
    unfold mapE
    split
    · exact .inr (.inr (.inl rfl))
    · split
      · exact .inr (.inl rfl)
      · split
        · exact .inr (.inr (.inr rfl))
        · exact .inl rfl
  refine ⟨_, _, t, rfl, by omega, by omega, h.ofSp tt hS (fun f hf => ?_), fun hne => by rw [if_neg hne], fun he => by omega, fun _ _ _ _ => rfl, fun B _ _ h => h⟩
  by_cases h0 : mapE P a k p = 0
  · rw [if_pos h0, mapP_cnt h0 f hf]
  · rw [if_neg h0]
theorem used_before {v : Int} {e : Ending} (tt : Turn (fun _ => False) w w1) (hs : Used s n t sp pm P O v w1 e w') : Used s n t sp pm P O v w e w' := by
  obtain ⟨z, P', t', h1, h2, h3, ⟨a, b, c⟩, h5, h6, h7⟩ := hs
  exact ⟨z, P', t', h1, h2, h3, ⟨a, (tt.mono (fun _ _ h => h.elim)).trans b, fun k hk => (c k hk).imp id (fun h => Nat.le_trans tt.size h)⟩, h5, h6, h7⟩

end
end Go.Proofs.YtiohpmcedfbcgabGreatDoor
