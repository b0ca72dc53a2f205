/- Package proc: Wait. Conditions: each theorem's own premises. Package proc: who is whose: the table's own law, kept by each call. Conditions: each theorem's own premises. -/
import Derived.Test.YtamleilijmgoeaaGreatDoorProcPids
import Derived.Test.YtamleilijmgoeaaGreatDoorProc
import Derived.Test.YtamleilijmgoeaaGreatDoorBase
import Derived.Deep.RegionWith
import Derived.Deep.RegionHeld3
import Derived.OwnWalk
namespace Go.Proofs.YtamleilijmgoeaaGreatDoor
open Go.RowKit Go.Shelf
set_option linter.unusedVariables false
theorem PrTab.del {w w' : World} {tb mb : Nat} {l : List (Int × Nat)} {f : Nat → Pr} (h : PrTab w tb mb l f) (k : Int) (hm : MapIs w' mb (.int .i64) encI (fun b : Nat => Value.pointer (some ⟨b, 0, none⟩)) (mdel l k)) (t : Turn (fun j => j = mb) w w') : PrTab w' tb mb (mdel l k) f := by
 have hsub : ∀ s ∈ mdel l k, s ∈ l := fun s hs => (List.mem_filter.1 hs).1
 refine ⟨(t.cell (a := ⟨tb, 0, none⟩) (lt_of_cell h.hdr) h.ne).trans h.hdr, hm, fun s hs => (h.pr s (hsub s hs)).turned t (h.ap s (hsub s hs)).2, ?_, fun s hs => h.ap s (hsub s hs), h.ne⟩
 exact ((List.filter_sublist (p := fun p : Int × Nat => decide (p.1 ≠ k)) (l := l)).map (·.2)).nodup h.inj
end Go.Proofs.YtamleilijmgoeaaGreatDoor
namespace Go.Proofs.YtamleilijmgoeaaGreatDoor
open Go.RowKit
set_option linter.unusedVariables false
def Sigs (p : Pr) : Prop := ∃ W I : Nat, p.waits = (W : Nat) ∧ p.ignores = (I : Nat) ∧ W < 512 ∧ I < 512
structure Kin (l : List (Int × Nat)) (f : Nat → Pr) : Prop where
 rng : ∀ t ∈ l, 1 ≤ t.1 ∧ t.1 ≤ 24
 len : l.length ≤ 24
 nd : MNodup l
 inj : (l.map (·.2)).Nodup
 one : ∃ b, mget l 1 = some b ∧ (f b).state = 1 ∧ (f b).parent = 0
 par : ∀ t ∈ l, t.1 ≠ 1 → stR l f (f t.2).parent = 1
 st : ∀ t ∈ l, (f t.2).state = 1 ∨ (f t.2).state = 2
 bits : ∀ t ∈ l, Sigs (f t.2)
theorem Kin.wf {l : List (Int × Nat)} {f : Nat → Pr} (h : Kin l f) : ∀ t ∈ l, (Lit.int .i64 t.1).wf = true := fun t ht => by
 obtain ⟨h1, h2⟩ := h.rng t ht
 have e1 : IntKind.i64.min = -9223372036854775808 := by decide
 have e2 : IntKind.i64.max = 9223372036854775807 := by decide
 simp [Lit.wf]
 omega
theorem Kin.runs1 {l : List (Int × Nat)} {f : Nat → Pr} (h : Kin l f) : RunsIn l f 1 := by
 obtain ⟨b, h1, h2, _⟩ := h.one
 unfold RunsIn stR
 rw [h1]
 exact h2
theorem inj_mem : ∀ {l : List (Int × Nat)}, (l.map (·.2)).Nodup → ∀ {p q b}, (p, b) ∈ l → (q, b) ∈ l → p = q
 | [], _, _, _, _, h, _ => by cases h
 | t :: l, hn, p, q, b, hp, hq => by
  simp only [List.map_cons, List.nodup_cons] at hn
  rcases List.mem_cons.1 hp with rfl | hp2
  ·rcases List.mem_cons.1 hq with e | hq2
   ·cases e; rfl
   ·exact absurd (show b ∈ l.map (·.2) from List.mem_map.2 ⟨(q, b), hq2, rfl⟩) hn.1
  ·rcases List.mem_cons.1 hq with rfl | hq2
   ·exact absurd (show b ∈ l.map (·.2) from List.mem_map.2 ⟨(p, b), hp2, rfl⟩) hn.1
   ·exact inj_mem hn.2 hp2 hq2
theorem stR_congr {l : List (Int × Nat)} {f g : Nat → Pr} (h : ∀ t ∈ l, (g t.2).state = (f t.2).state) (q : Int) : stR l g q = stR l f q := by
 unfold stR
 cases e : mget l q with
 | none => rfl
 | some b => exact h _ (mem_of_mget e)
theorem Kin.congr {l : List (Int × Nat)} {f g : Nat → Pr} (h : Kin l f) (e1 : ∀ t ∈ l, (g t.2).parent = (f t.2).parent) (e2 : ∀ t ∈ l, (g t.2).state = (f t.2).state) (e3 : ∀ t ∈ l, Sigs (g t.2)) : Kin l g := by
 obtain ⟨b, h1, h2, h3⟩ := h.one
 refine ⟨h.rng, h.len, h.nd, h.inj, ⟨b, h1, ?_, ?_⟩, fun t ht hne => ?_, fun t ht => ?_, e3⟩
 ·rw [e2 _ (mem_of_mget h1)]; exact h2
 ·rw [e1 _ (mem_of_mget h1)]; exact h3
 ·rw [stR_congr e2, e1 t ht]; exact h.par t ht hne
 ·rw [e2 t ht]; exact h.st t ht
theorem Kin.upd {l : List (Int × Nat)} {f : Nat → Pr} (h : Kin l f) (b : Nat) (p : Pr) (e1 : p.parent = (f b).parent) (e2 : p.state = (f b).state) (e3 : Sigs p) : Kin l (updPr f b p) := by
 refine h.congr (fun t ht => ?_) (fun t ht => ?_) (fun t ht => ?_)
 ·by_cases e : t.2 = b
  ·rw [e, updPr_same]; exact e1
  ·rw [updPr_other _ _ e]
 ·by_cases e : t.2 = b
  ·rw [e, updPr_same]; exact e2
  ·rw [updPr_other _ _ e]
 ·by_cases e : t.2 = b
  ·rw [e, updPr_same]; exact e3
  ·rw [updPr_other _ _ e]; exact h.bits t ht
theorem mget_snoc {l : List (Int × Nat)} {k : Int} {c : Nat} (hn : mget l k = none) (q : Int) : mget (l ++ [(k, c)]) q = if q = k then some c else mget l q := by
 rw [← mput_new hn, mget_mput]
theorem Kin.fork {l : List (Int × Nat)} {f : Nat → Pr} (h : Kin l f) {pid : Int} {b : Nat} (hr : RunsIn l f pid) (hb : mget l pid = some b) {k : Int} {c : Nat} (k1 : 1 ≤ k) (k24 : k ≤ 24) (hn : mget l k = none) (hl : l.length < 24) (hc : ∀ t ∈ l, t.2 ≠ c) :
  Kin (l ++ [(k, c)]) (updPr f c ⟨pid, 1, 0, 0, (f b).ignores⟩) := by
 obtain ⟨b1, h1, h2, h3⟩ := h.one
 have hs : ∀ q, q ≠ k → stR (l ++ [(k, c)]) (updPr f c ⟨pid, 1, 0, 0, (f b).ignores⟩) q = stR l f q := fun q hq => by
  have e1 : mget (l ++ [(k, c)]) q = mget l q := by rw [mget_snoc hn, if_neg hq]
  have e2 : stR (l ++ [(k, c)]) (updPr f c ⟨pid, 1, 0, 0, (f b).ignores⟩) q = stR l (updPr f c ⟨pid, 1, 0, 0, (f b).ignores⟩) q := by unfold stR; rw [e1]
  rw [e2]
  exact stR_congr (fun t ht => by rw [updPr_other _ _ (hc t ht)]) q
 have hk : ∀ q, stR l f q = 1 → q ≠ k := fun q hq e => by
  subst e
  unfold stR at hq
  rw [hn] at hq
  cases hq
 refine ⟨fun t ht => ?_, by simp; omega, ?_, ?_, ⟨b1, ?_, ?_, ?_⟩, fun t ht hne => ?_, fun t ht => ?_, fun t ht => ?_⟩
 ·rcases List.mem_append.1 ht with ht | ht
  ·exact h.rng t ht
  ·rw [List.mem_singleton.1 ht]; exact ⟨k1, k24⟩
 ·rw [← mput_new hn]; exact mput_nodup h.nd k c
 ·rw [List.map_append, List.nodup_append]
  refine ⟨h.inj, by simp, fun x hx y hy e => ?_⟩
  obtain ⟨t, ht, rfl⟩ := List.mem_map.1 hx
  simp at hy
  exact hc t ht (e.trans hy)
 ·rw [mget_snoc hn, if_neg (fun e => by rw [e, hn] at h1; cases h1)]; exact h1
 ·rw [updPr_other _ _ (hc _ (mem_of_mget h1))]; exact h2
 ·rw [updPr_other _ _ (hc _ (mem_of_mget h1))]; exact h3
 ·rcases List.mem_append.1 ht with ht | ht
  ·rw [updPr_other _ _ (hc t ht)]
   have := h.par t ht hne
   rw [hs _ (hk _ this)]
   exact this
  ·rw [List.mem_singleton.1 ht, updPr_same]
   rw [hs _ (hk _ hr)]
   exact hr
 ·rcases List.mem_append.1 ht with ht | ht
  ·rw [updPr_other _ _ (hc t ht)]; exact h.st t ht
  ·rw [List.mem_singleton.1 ht, updPr_same]; exact .inl rfl
 ·rcases List.mem_append.1 ht with ht | ht
  ·rw [updPr_other _ _ (hc t ht)]; exact h.bits t ht
  ·rw [List.mem_singleton.1 ht, updPr_same]
   obtain ⟨W, I, _, e2, _, i9⟩ := h.bits _ (mem_of_mget hb)
   exact ⟨0, I, rfl, e2, by decide, i9⟩
theorem exitF_self (f : Nat → Pr) (b : Nat) (pid c : Int) : (exitF f b pid c b).state = 2 ∧ (exitF f b pid c b).waits = 0 ∧ (exitF f b pid c b).ignores = (f b).ignores ∧ (exitF f b pid c b).code = c := by
 unfold exitF reparent
 rw [updPr_same]
 unfold deadP
 split <;> exact ⟨rfl, rfl, rfl, rfl⟩
theorem exitF_other (f : Nat → Pr) {b j : Nat} (pid c : Int) (h : j ≠ b) : (exitF f b pid c j).state = (f j).state ∧ (exitF f b pid c j).waits = (f j).waits ∧ (exitF f b pid c j).ignores = (f j).ignores ∧ (exitF f b pid c j).code = (f j).code := by
 unfold exitF reparent
 rw [updPr_other _ _ h]
 split <;> exact ⟨rfl, rfl, rfl, rfl⟩
theorem exitF_parent (f : Nat → Pr) (b j : Nat) (pid c : Int) : (exitF f b pid c j).parent = if (f j).parent = pid then 1 else (f j).parent := by
 unfold exitF reparent
 by_cases e : j = b
 ·subst e
  rw [updPr_same]
  unfold deadP
  simp only
  split <;> rfl
 ·rw [updPr_other _ _ e]
  split <;> rfl
theorem stR_exit {l : List (Int × Nat)} {f : Nat → Pr} (hi : (l.map (·.2)).Nodup) {pid : Int} {b : Nat} (hb : mget l pid = some b) (c q : Int) : stR l (exitF f b pid c) q = if q = pid then 2 else stR l f q := by
 unfold stR
 split
 ·subst q
  rw [hb]
  exact (exitF_self f b pid c).1
 ·rename_i hne
  cases e : mget l q with
  | none => rfl
  | some bq => exact (exitF_other f pid c (fun e2 => hne (inj_mem hi (mem_of_mget e) (by rw [e2]; exact mem_of_mget hb)))).1
theorem Kin.exit {l : List (Int × Nat)} {f : Nat → Pr} (h : Kin l f) {pid : Int} {b : Nat} (hb : mget l pid = some b) (h1 : pid ≠ 1) (c : Int) : Kin l (exitF f b pid c) := by
 obtain ⟨b1, g1, g2, g3⟩ := h.one
 have hne : b1 ≠ b := fun e => h1 (inj_mem h.inj (mem_of_mget hb) (by rw [← e]; exact mem_of_mget g1))
 refine ⟨h.rng, h.len, h.nd, h.inj, ⟨b1, g1, ?_, ?_⟩, fun t ht hne => ?_, fun t ht => ?_, fun t ht => ?_⟩
 ·rw [(exitF_other f pid c hne).1]; exact g2
 ·rw [exitF_parent, g3]
  by_cases e : (0 : Int) = pid
  ·exfalso
   have := h.rng _ (mem_of_mget hb)
   simp only at this
   omega
  ·rw [if_neg e]
 ·rw [exitF_parent, stR_exit h.inj hb]
  by_cases e : (f t.2).parent = pid
  ·rw [if_pos e, if_neg (fun e => h1 e.symm)]
   exact h.runs1
  ·rw [if_neg e, if_neg e]
   exact h.par t ht hne
 ·by_cases e : t.2 = b
  ·rw [e]; exact .inr (exitF_self f b pid c).1
  ·rw [(exitF_other f pid c e).1]; exact h.st t ht
 ·by_cases e : t.2 = b
  ·obtain ⟨W, I, _, e2, _, i9⟩ := h.bits t ht
   rw [e] at e2 ⊢
   exact ⟨0, I, (exitF_self f b pid c).2.1, (exitF_self f b pid c).2.2.1.trans e2, by decide, i9⟩
  ·obtain ⟨W, I, e1, e2, w9, i9⟩ := h.bits t ht
   exact ⟨W, I, (exitF_other f pid c e).2.1.trans e1, (exitF_other f pid c e).2.2.1.trans e2, w9, i9⟩
theorem stR_del {l : List (Int × Nat)} {f : Nat → Pr} (k q : Int) : stR (mdel l k) f q = if q = k then 0 else stR l f q := by
 unfold stR
 rw [mget_mdel]
 split <;> rfl
theorem Kin.del {l : List (Int × Nat)} {f : Nat → Pr} (h : Kin l f) {k : Int} {b : Nat} (hb : mget l k = some b) (hs : (f b).state = 2) : Kin (mdel l k) f := by
 have hsub : ∀ t ∈ mdel l k, t ∈ l ∧ t.1 ≠ k := fun t ht => ⟨(List.mem_filter.1 ht).1, of_decide_eq_true (List.mem_filter.1 ht).2⟩
 have hk : ∀ q, stR l f q = 1 → q ≠ k := fun q hq e => by
  subst e
  unfold stR at hq
  rw [hb] at hq
  simp only [Option.elim] at hq
  rw [hs] at hq
  cases hq
 obtain ⟨b1, g1, g2, g3⟩ := h.one
 refine ⟨fun t ht => h.rng t (hsub t ht).1, Nat.le_trans (List.length_filter_le _ _) h.len, mdel_nodup h.nd k, ((List.filter_sublist (p := fun p : Int × Nat => decide (p.1 ≠ k)) (l := l)).map (·.2)).nodup h.inj, ⟨b1, ?_, g2, g3⟩, fun t ht hne => ?_, fun t ht => h.st t (hsub t ht).1, fun t ht => h.bits t (hsub t ht).1⟩
 ·rw [mget_mdel, if_neg (hk 1 h.runs1)]; exact g1
 ·have := h.par t (hsub t ht).1 hne
  rw [stR_del, if_neg (hk _ this)]
  exact this
def After (tb mb : Nat) (l : List (Int × Nat)) (w : World) (v : Value) (w' : World) : Prop :=
 ∃ l' f', (v = .nilIface ∨ (∃ c : Int, v = .iface 36 (.int .i64 c)) ∧ l' = l) ∧ PrTab w' tb mb l' f' ∧ Kin l' f' ∧ Turn (TFoot tb mb l) w w' ∧ ∀ k, TFoot tb mb l' k → TFoot tb mb l k ∨ w.heap.size ≤ k
section
variable {w : World} {tb mb : Nat} {l : List (Int × Nat)} {f : Nat → Pr}
theorem After.same (h : PrTab w tb mb l f) (hk : Kin l f) (c : Int) : After tb mb l w (.iface 36 (.int .i64 c)) w := ⟨l, f, .inr ⟨⟨c, rfl⟩, rfl⟩, h, hk, Turn.refl _ _, fun _ h => .inl h⟩
theorem runs_block {pid : Int} (hr : RunsIn l f pid) : ∃ b, mget l pid = some b := by obtain ⟨b, h, _⟩ := hr.at_; exact ⟨b, h⟩
end
end Go.Proofs.YtamleilijmgoeaaGreatDoor
