/- Package vm: Store. Conditions: each theorem's own premises. -/
import Derived.Test.YtiohpmcedfbcgabDoorVmLoad
import Derived.Test.YtiohpmcedfbcgabDoorBuddyGive
import Derived.Deep.DeepCutAuto
import Derived.Deep.CutBlock
namespace Go.Proofs.YtiohpmcedfbcgabDoor
open Go.RowKit
set_option linter.unusedVariables false

section
variable {w w' w1 w2 w3 : World} {s : SB} {n : Nat} {t t1 t2 : St} {sp pm sb : Nat} {P P' : Int → Option Pg} {O : Int → Nat}
theorem VmOne.stored (h : VmOne w s n t sp pm P O) {m' : Nat → Nat → Int} (tt : Turn (fun b => b = s.wb) w w') (hm : MemIs w' s.mb s.wb n m') : VmAfter s n t sp pm O w w' P { t with m := m' } := by
  obtain ⟨a1, b1, c1⟩ := h.store.words tt hm
  exact ⟨⟨a1, h.space.turned b1 h.off.1 h.off.2, h.off, h.refs, h.one⟩, b1.mono (fun _ _ h => .inr h), c1⟩
theorem StAfter.also {S : Nat → Prop} (h : StAfter s n t w w1 t1) (tt : Turn S w1 w2) (h1 : ∀ k, S k → ¬ StFoot s t1.vs k) (h2 : ∀ k, S k → ¬ k < w.heap.size) : StAfter s n t w w2 t1 :=
  ⟨h.1.turned tt (fun k hk hs => h1 k hs hk), h.2.1.trans' tt (fun k hk hs => absurd hk (h2 k hs)), h.2.2⟩
theorem StAfter.before (h : StAfter s n t w1 w2 t2) (tt : Turn (fun _ => False) w w1) : StAfter s n t w w2 t2 :=
  ⟨h.1, (tt.mono (S' := StFoot s t.vs) (fun _ _ h => h.elim)).trans h.2.1, fun k hk => (h.2.2 k hk).imp id (fun h => Nat.le_trans tt.size h)⟩
theorem usedN_lt {R : Int → Nat} {n : Nat} {g : Int} (h0 : 0 ≤ g) (h : g < n) (hR : R g = 0) : usedN R n < n := by
  have h1 : usedN R n ≤ n := cntB_le _ _
  by_cases e : usedN R n = n
  · have := cntB_all (g := fun f => decide (0 < R (f : Int))) (k := n) e g.toNat (by omega)
    rw [show ((g.toNat : Nat) : Int) = g by omega] at this
    have := of_decide_eq_true this
    omega
  · omega
theorem leftOf_none {fr : Fr} (h : ∀ k, 0 ≤ k → k < 7 → fr k = []) : leftOf fr = 0 := by
  unfold leftOf
  rw [h 0 (by omega) (by omega), h 1 (by omega) (by omega), h 2 (by omega) (by omega), h 3 (by omega) (by omega), h 4 (by omega) (by omega), h 5 (by omega) (by omega), h 6 (by omega) (by omega)]
  rfl
/-- The pages behind a store that took the frame g. -/
theorem store_refs {R R' : Int → Nat} {a pr f g : Int} (ha : 0 ≤ a ∧ a < 64) (hP : P a = some (pr, f)) (hr : ∀ x, 0 ≤ x → R x = O x + cntF P x) (h1 : ∀ x, 0 ≤ x → cntF P x ≤ 1) (hg : 0 ≤ g) (hg0 : R g = 0)
    (hR : R' = fun x => if x = g then 1 else if 0 ≤ f ∧ x = f then R f - 1 else R x) :
    (∀ x, 0 ≤ x → R' x = O x + cntF (setP P a (some (pr, g))) x) ∧ ∀ x, 0 ≤ x → cntF (setP P a (some (pr, g))) x ≤ 1 := by
  have hc : ∀ x, cntF (setP P a (some (pr, g))) x + (if f = x then 1 else 0) = cntF P x + (if g = x then 1 else 0) := fun x => by
    have := cntF_set P a (some (pr, g)) x ha.1 ha.2
    rw [hP, hasF_some, hasF_some] at this
    exact this
  have hfg : f ≠ g := fun e => by
    have h2 := hr g hg
    have h3 := cntF_ge (P := P) (i := a) (f := g) ha.1 ha.2
    rw [hP, hasF_some, if_pos e] at h3
    omega
  refine ⟨fun x hx => ?_, fun x hx => ?_⟩
  · have h2 := hc x
    have h3 := hr x hx
    rw [hR]
    show (if x = g then 1 else if 0 ≤ f ∧ x = f then R f - 1 else R x) = _
    by_cases e : x = g
    · subst e
      rw [if_pos rfl]
      rw [if_neg hfg, if_pos rfl] at h2
      omega
    · rw [if_neg e]
      have e' : ¬ g = x := fun e2 => e e2.symm
      by_cases e3 : x = f
      · subst e3
        rw [if_pos ⟨hx, rfl⟩]
        rw [if_pos rfl, if_neg e'] at h2
        omega
      · rw [if_neg (fun e4 => e3 e4.2)]
        have e3' : ¬ f = x := fun e2 => e3 e2.symm
        rw [if_neg e3', if_neg e'] at h2
        omega
  · have h2 := hc x
    have h3 := h1 x hx
    by_cases e : x = g
    · subst e
      have h4 := hr x hx
      rw [if_neg hfg, if_pos rfl] at h2
      omega
    · have e' : ¬ g = x := fun e2 => e e2.symm
      rw [if_neg e'] at h2
      omega

def StoredOwn (s : SB) (n : Nat) (t : St) (sp pm : Nat) (P : Int → Option Pg) (O : Int → Nat) (a wd v : Int) (q : Pg) (w : World) (e : Ending) (w' : World) : Prop :=
  (0 ≤ q.2 ∧ t.R q.2 ≤ 1) ∧ e = .returned .nilIface ∧ ∃ t', t'.R = t.R ∧ t'.m = memSet t.m q.2.toNat wd.toNat v ∧ VmAfter s n t sp pm O w w' P t'
def StoredFull (s : SB) (n : Nat) (t : St) (sp pm : Nat) (P : Int → Option Pg) (O : Int → Nat) (q : Pg) (w : World) (e : Ending) (w' : World) : Prop :=
  ¬ (0 ≤ q.2 ∧ t.R q.2 ≤ 1) ∧ usedN t.R n = n ∧ e = .returned (VmErr 12) ∧ VmAfter s n t sp pm O w w' P t
def newM (m : Nat → Nat → Int) (f g wd v : Int) : Nat → Nat → Int := memSet (if f < 0 then memZero m g.toNat else memCopy m g.toNat f.toNat) g.toNat wd.toNat v
def StoredNew (s : SB) (n : Nat) (t : St) (sp pm : Nat) (P : Int → Option Pg) (O : Int → Nat) (a wd v : Int) (q : Pg) (w : World) (e : Ending) (w' : World) : Prop :=
  ¬ (0 ≤ q.2 ∧ t.R q.2 ≤ 1) ∧ e = .returned .nilIface ∧ ∃ (g : Int) (t' : St), 0 ≤ g ∧ g < n ∧ t.R g = 0 ∧ t'.m = newM t.m q.2 g wd v ∧ VmAfter s n t sp pm O w w' (setP P a (some (q.1, g))) t'
set_option maxHeartbeats 1000000 in
set_option maxRecDepth 100000 in
theorem vmStore_err {a wd v z q1 f : Int} (HA : Hid (Calls Tryd.prog 163 #[.pointer (some ⟨sp, 0, none⟩), .int .i64 a, .int .i64 wd, .int .i64 2] w fun e w' => e = .returned (.tuple #[.agg #[.int .i64 q1, .int .i64 f], .iface 40 (.int .i64 z)]) ∧ Turn (fun _ => False) w w')) :
    Calls Tryd.prog 122 #[.pointer (some ⟨sp, 0, none⟩), .int .i64 a, .int .i64 wd, .int .i64 v] w fun e w' => e = .returned (.iface 40 (.int .i64 z)) ∧ Turn (fun _ => False) w w' := by
  go_enter Tryd.func122, Tryd.ntmps122
  go_wp2_with fail
  refine HA.out.mono ?_
  rintro e w1 ⟨rfl, t1⟩
  have HT1 := hid t1
  clear t1
  go_wp2_with fail
  go_ret
  exact ⟨rfl, HT1.out.alloc _⟩
def AccOk (sp : Nat) (a wd q1 f : Int) (w : World) : Prop := Calls Tryd.prog 163 #[.pointer (some ⟨sp, 0, none⟩), .int .i64 a, .int .i64 wd, .int .i64 2] w fun e w' => e = .returned (.tuple #[.agg #[.int .i64 q1, .int .i64 f], .nilIface]) ∧ Turn (fun _ => False) w w'
set_option maxHeartbeats 2000000 in
set_option maxRecDepth 100000 in
theorem vmStore_own (h : VmOne w s n t sp pm P O) {a wd v q1 f : Int} (hq : P a = some (q1, f)) (h0 : 0 ≤ wd) (h8 : wd < 8) (HA : AccOk sp a wd q1 f w) (hf : 0 ≤ f) (hr : t.R f ≤ 1) :
    Calls Tryd.prog 122 #[.pointer (some ⟨sp, 0, none⟩), .int .i64 a, .int .i64 wd, .int .i64 v] w (StoredOwn s n t sp pm P O a wd v (q1, f) w) := by
  have hpos : 0 < t.R f := by
    have h1 := h.refs f hf
    have hd := h.space.dom _ _ hq
    have h2 := cntF_ge (P := P) (i := a) (f := f) hd.1 hd.2
    rw [hq, hasF_some, if_pos rfl] at h2
    omega
  have hfr := h.store.frame hpos
  have HRf : Hid (t.R f ≤ 1) := hid hr
  have HF := hid hf
  have H := hid h
  have hrv : ((mget t.rl f).getD 0 : Nat) ≤ 1 := hr
  obtain ⟨rv, hrv2⟩ : ∃ rv : Nat, (mget t.rl f).getD 0 = rv := ⟨_, rfl⟩
  have HA' := hid HA
  unfold AccOk at HA'
  clear h hq HA hpos hr
  go_enter Tryd.func122, Tryd.ntmps122
  go_wp2_with fail
  refine HA'.out.mono ?_
  rintro e w1 ⟨rfl, tt1⟩
  have T2 := tt1.alloc (.cells #[.int .i64 q1, .int .i64 f] 198)
  have e0 : (w1.alloc (.cells #[.int .i64 q1, .int .i64 f] 198)).cell? ⟨w1.heap.size, 1, none⟩ = some (.int .i64 f) := by simp
  have h2 := H.out.turned T2 id id (fun _ _ => id)
  have HT2 := hid T2
  have H2 := hid h2
  clear T2 h2 tt1
  go_wp2_with fail
  generalize w1.alloc (.cells #[.int .i64 q1, .int .i64 f] 198) = W at *
  have h2 := H2.out
  have lk := fun k => look_rc (h2.store.refs.turned ((Turn.refl (fun _ => False) W).drewN k) id) f
  rw [hrv2] at hrv lk
  have hrv3 : decide ((1 : Int) < rv) = false := decide_eq_false (by omega)
  have hfn : decide (f < 0) = false := decide_eq_false (by omega)
  have c0 := h2.space.c0
  have d0 := h2.store.c0
  have d2 := h2.store.c2
  clear h2 hrv2
  go_quiet (fail)
  all_goals go_wp2_with fail
  have hf2 := hfr.2
  have HSet := hid (set_yes (H2.out.store.mem.turned (((Turn.refl (fun _ => False) W).drewN nq).drew) id id) f wd v hf hf2 h0 h8)
  go_region_with (go_at_call 167; refine HSet.out.mono ?_; rintro e w3 ⟨rfl, hm3, tt3⟩; have HM3 := hid hm3; have HT3 := hid tt3; clear hm3 tt3)
  all_goals go_wp2_with fail
  all_goals go_ret
  all_goals exact ⟨⟨HF.out, HRf.out⟩, rfl, { t with m := memSet t.m f.toNat wd.toNat v }, rfl, rfl, (H.out.same (HT2.out.drewN _).drew).trans ((H2.out.turned (((Turn.refl (fun _ => False) W).drewN nq).drew) id id (fun _ _ => id)).stored HT3.out HM3.out)⟩
theorem StAfter.cells (h : VmOne w s n t sp pm P O) (hA : StAfter s n t w w' t1) :
    w'.cell? ⟨sp, 0, none⟩ = some (.pointer (some ⟨s.sb, 0, none⟩)) ∧ w'.cell? ⟨sp, 1, none⟩ = some (.map (some pm)) ∧ w'.cell? ⟨s.sb, 0, none⟩ = some (.pointer (some ⟨s.mb, 0, none⟩)) ∧ w'.cell? ⟨s.sb, 1, none⟩ = some (.pointer (some ⟨s.p, 0, none⟩)) ∧ w'.cell? ⟨s.sb, 2, none⟩ = some (.map (some s.rm)) :=
  ⟨(hA.2.1.cell (a := ⟨sp, 0, none⟩) (lt_of_cell h.space.c0) h.off.1).trans h.space.c0, (hA.2.1.cell (a := ⟨sp, 1, none⟩) (lt_of_cell h.space.c1) h.off.1).trans h.space.c1, hA.1.c0, hA.1.c1, hA.1.c2⟩
theorem StAfter.own (hA : StAfter s n t w w' t1) {c : Nat} (hc : c < w.heap.size) (hn : ¬ StFoot s t.vs c) : (∀ i, w'.cell? ⟨c, i, none⟩ = w.cell? ⟨c, i, none⟩) ∧ (∀ i, w'.frozen? ⟨c, i, none⟩ = w.frozen? ⟨c, i, none⟩) ∧ ¬ StFoot s t1.vs c :=
  ⟨fun i => hA.2.1.cell (a := ⟨c, i, none⟩) hc hn, fun i => hA.2.1.frozen (a := ⟨c, i, none⟩) hc hn, fun hf => (hA.2.2 c hf).elim hn (fun h => by omega)⟩
end
end Go.Proofs.YtiohpmcedfbcgabDoor
