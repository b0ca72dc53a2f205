/- Package proc: who is whose: the table's own law, kept by each call. Conditions: each theorem's own premises. -/
import Derived.Test.YtiohpmcedfbcgabDoorProcWait
import Derived.Test.YtiohpmcedfbcgabDoorProcSig
import Derived.Test.YtiohpmcedfbcgabDoorProcParent
namespace Go.Proofs.YtiohpmcedfbcgabDoor
open Go.RowKit
set_option linter.unusedVariables false

def Sigs (p : Pr) : Prop := ∃ W I : Nat, p.waits = (W : Nat) ∧ p.ignores = (I : Nat) ∧ W < 512 ∧ I < 512
/-- Numbers are 1 to 24; 1 runs, and is nobody's; each other one is one's that runs. -/
structure Kin (l : List (Int × Nat)) (f : Nat → Pr) : Prop where
  rng : ∀ t ∈ l, 1 ≤ t.1 ∧ t.1 ≤ 24
  len : l.length ≤ 24
  nd : MNodup l
  inj : (l.map (·.2)).Nodup
  one : ∃ b, mget l 1 = some b ∧ (f b).state = 1 ∧ (f b).parent = 0
  par : ∀ t ∈ l, t.1 ≠ 1 → stR l f (f t.2).parent = 1
  st : ∀ t ∈ l, (f t.2).state = 1 ∨ (f t.2).state = 2
  bits : ∀ t ∈ l, Sigs (f t.2)
theorem Kin.wf {l : List (Int × Nat)} {f : Nat → Pr} (h : Kin l f) : ∀ t ∈ l, (Lit.int .i64 t.1).wf = true := fun t ht => by
  obtain ⟨h1, h2⟩ := h.rng t ht
  have e1 : IntKind.i64.min = -9223372036854775808 := by decide
  have e2 : IntKind.i64.max = 9223372036854775807 := by decide
  simp [Lit.wf]
  omega
theorem Kin.runs1 {l : List (Int × Nat)} {f : Nat → Pr} (h : Kin l f) : RunsIn l f 1 := by
  obtain ⟨b, h1, h2, _⟩ := h.one
  unfold RunsIn stR
  rw [h1]
  exact h2
theorem inj_mem : ∀ {l : List (Int × Nat)}, (l.map (·.2)).Nodup → ∀ {p q b}, (p, b) ∈ l → (q, b) ∈ l → p = q
  | [], _, _, _, _, h, _ => by cases h
  | t :: l, hn, p, q, b, hp, hq => by
    simp only [List.map_cons, List.nodup_cons] at hn
    rcases List.mem_cons.1 hp with rfl | hp2
    · rcases List.mem_cons.1 hq with e | hq2
      · cases e; rfl
      · exact absurd (show b ∈ l.map (·.2) from List.mem_map.2 ⟨(q, b), hq2, rfl⟩) hn.1
    · rcases List.mem_cons.1 hq with rfl | hq2
      · exact absurd (show b ∈ l.map (·.2) from List.mem_map.2 ⟨(p, b), hp2, rfl⟩) hn.1
      · exact inj_mem hn.2 hp2 hq2
theorem stR_congr {l : List (Int × Nat)} {f g : Nat → Pr} (h : ∀ t ∈ l, (g t.2).state = (f t.2).state) (q : Int) : stR l g q = stR l f q := by
  unfold stR
  cases e : mget l q with
  | none => rfl
  | some b => exact h _ (mem_of_mget e)
theorem Kin.congr {l : List (Int × Nat)} {f g : Nat → Pr} (h : Kin l f) (e1 : ∀ t ∈ l, (g t.2).parent = (f t.2).parent) (e2 : ∀ t ∈ l, (g t.2).state = (f t.2).state) (e3 : ∀ t ∈ l, Sigs (g t.2)) : Kin l g := by
  obtain ⟨b, h1, h2, h3⟩ := h.one
  refine ⟨h.rng, h.len, h.nd, h.inj, ⟨b, h1, ?_, ?_⟩, fun t ht hne => ?_, fun t ht => ?_, e3⟩
  · rw [e2 _ (mem_of_mget h1)]; exact h2
  · rw [e1 _ (mem_of_mget h1)]; exact h3
  · rw [stR_congr e2, e1 t ht]; exact h.par t ht hne
  · rw [e2 t ht]; exact h.st t ht
theorem Kin.upd {l : List (Int × Nat)} {f : Nat → Pr} (h : Kin l f) (b : Nat) (p : Pr) (e1 : p.parent = (f b).parent) (e2 : p.state = (f b).state) (e3 : Sigs p) : Kin l (updP f b p) := by
  refine h.congr (fun t ht => ?_) (fun t ht => ?_) (fun t ht => ?_)
  · by_cases e : t.2 = b
    · rw [e, updP_same]; exact e1
    · rw [updP_other _ _ e]
  · by_cases e : t.2 = b
    · rw [e, updP_same]; exact e2
    · rw [updP_other _ _ e]
  · by_cases e : t.2 = b
    · rw [e, updP_same]; exact e3
    · rw [updP_other _ _ e]; exact h.bits t ht
theorem mget_snoc {l : List (Int × Nat)} {k : Int} {c : Nat} (hn : mget l k = none) (q : Int) : mget (l ++ [(k, c)]) q = if q = k then some c else mget l q := by
  rw [← mput_new hn, mget_mput]
theorem Kin.fork {l : List (Int × Nat)} {f : Nat → Pr} (h : Kin l f) {pid : Int} {b : Nat} (hr : RunsIn l f pid) (hb : mget l pid = some b) {k : Int} {c : Nat} (k1 : 1 ≤ k) (k24 : k ≤ 24) (hn : mget l k = none) (hl : l.length < 24) (hc : ∀ t ∈ l, t.2 ≠ c) :
    Kin (l ++ [(k, c)]) (updP f c ⟨pid, 1, 0, 0, (f b).ignores⟩) := by
  obtain ⟨b1, h1, h2, h3⟩ := h.one
  have hs : ∀ q, q ≠ k → stR (l ++ [(k, c)]) (updP f c ⟨pid, 1, 0, 0, (f b).ignores⟩) q = stR l f q := fun q hq => by
    have e1 : mget (l ++ [(k, c)]) q = mget l q := by rw [mget_snoc hn, if_neg hq]
    have e2 : stR (l ++ [(k, c)]) (updP f c ⟨pid, 1, 0, 0, (f b).ignores⟩) q = stR l (updP f c ⟨pid, 1, 0, 0, (f b).ignores⟩) q := by unfold stR; rw [e1]
    rw [e2]
    exact stR_congr (fun t ht => by rw [updP_other _ _ (hc t ht)]) q
  have hk : ∀ q, stR l f q = 1 → q ≠ k := fun q hq e => by
    subst e
    unfold stR at hq
    rw [hn] at hq
    cases hq
  refine ⟨fun t ht => ?_, by simp; omega, ?_, ?_, ⟨b1, ?_, ?_, ?_⟩, fun t ht hne => ?_, fun t ht => ?_, fun t ht => ?_⟩
  · rcases List.mem_append.1 ht with ht | ht
    · exact h.rng t ht
    · rw [List.mem_singleton.1 ht]; exact ⟨k1, k24⟩
  · rw [← mput_new hn]; exact mput_nodup h.nd k c
  · rw [List.map_append, List.nodup_append]
    refine ⟨h.inj, by simp, fun x hx y hy e => ?_⟩
    obtain ⟨t, ht, rfl⟩ := List.mem_map.1 hx
    simp at hy
    exact hc t ht (e.trans hy)
  · rw [mget_snoc hn, if_neg (fun e => by rw [e, hn] at h1; cases h1)]; exact h1
  · rw [updP_other _ _ (hc _ (mem_of_mget h1))]; exact h2
  · rw [updP_other _ _ (hc _ (mem_of_mget h1))]; exact h3
  · rcases List.mem_append.1 ht with ht | ht
    · rw [updP_other _ _ (hc t ht)]
      have := h.par t ht hne
      rw [hs _ (hk _ this)]
      exact this
    · rw [List.mem_singleton.1 ht, updP_same]
      rw [hs _ (hk _ hr)]
      exact hr
  · rcases List.mem_append.1 ht with ht | ht
    · rw [updP_other _ _ (hc t ht)]; exact h.st t ht
    · rw [List.mem_singleton.1 ht, updP_same]; exact .inl rfl
  · rcases List.mem_append.1 ht with ht | ht
    · rw [updP_other _ _ (hc t ht)]; exact h.bits t ht
    · rw [List.mem_singleton.1 ht, updP_same]
      obtain ⟨W, I, _, e2, _, i9⟩ := h.bits _ (mem_of_mget hb)
      exact ⟨0, I, rfl, e2, by decide, i9⟩

theorem exitF_self (f : Nat → Pr) (b : Nat) (pid c : Int) : (exitF f b pid c b).state = 2 ∧ (exitF f b pid c b).waits = 0 ∧ (exitF f b pid c b).ignores = (f b).ignores ∧ (exitF f b pid c b).code = c := by
  unfold exitF reparent
  rw [updP_same]
  unfold deadP
  split <;> exact ⟨rfl, rfl, rfl, rfl⟩
theorem exitF_other (f : Nat → Pr) {b j : Nat} (pid c : Int) (h : j ≠ b) : (exitF f b pid c j).state = (f j).state ∧ (exitF f b pid c j).waits = (f j).waits ∧ (exitF f b pid c j).ignores = (f j).ignores ∧ (exitF f b pid c j).code = (f j).code := by
  unfold exitF reparent
  rw [updP_other _ _ h]
  split <;> exact ⟨rfl, rfl, rfl, rfl⟩
theorem exitF_parent (f : Nat → Pr) (b j : Nat) (pid c : Int) : (exitF f b pid c j).parent = if (f j).parent = pid then 1 else (f j).parent := by
  unfold exitF reparent
  by_cases e : j = b
  · subst e
    rw [updP_same]
    unfold deadP
    simp only
    split <;> rfl
  · rw [updP_other _ _ e]
    split <;> rfl
theorem stR_exit {l : List (Int × Nat)} {f : Nat → Pr} (hi : (l.map (·.2)).Nodup) {pid : Int} {b : Nat} (hb : mget l pid = some b) (c q : Int) : stR l (exitF f b pid c) q = if q = pid then 2 else stR l f q := by
  unfold stR
  split
  · subst q
    rw [hb]
    exact (exitF_self f b pid c).1
  · rename_i hne
    cases e : mget l q with
    | none => rfl
    | some bq => exact (exitF_other f pid c (fun e2 => hne (inj_mem hi (mem_of_mget e) (by rw [e2]; exact mem_of_mget hb)))).1
theorem Kin.exit {l : List (Int × Nat)} {f : Nat → Pr} (h : Kin l f) {pid : Int} {b : Nat} (hb : mget l pid = some b) (h1 : pid ≠ 1) (c : Int) : Kin l (exitF f b pid c) := by
  obtain ⟨b1, g1, g2, g3⟩ := h.one
  have hne : b1 ≠ b := fun e => h1 (inj_mem h.inj (mem_of_mget hb) (by rw [← e]; exact mem_of_mget g1))
  refine ⟨h.rng, h.len, h.nd, h.inj, ⟨b1, g1, ?_, ?_⟩, fun t ht hne => ?_, fun t ht => ?_, fun t ht => ?_⟩
  · rw [(exitF_other f pid c hne).1]; exact g2
  · rw [exitF_parent, g3]
    by_cases e : (0 : Int) = pid
    · exfalso
      have := h.rng _ (mem_of_mget hb)
      simp only at this
      omega
    · rw [if_neg e]
  · rw [exitF_parent, stR_exit h.inj hb]
    by_cases e : (f t.2).parent = pid
    · rw [if_pos e, if_neg (fun e => h1 e.symm)]
      exact h.runs1
    · rw [if_neg e, if_neg e]
      exact h.par t ht hne
  · by_cases e : t.2 = b
    · rw [e]; exact .inr (exitF_self f b pid c).1
    · rw [(exitF_other f pid c e).1]; exact h.st t ht
  · by_cases e : t.2 = b
    · obtain ⟨W, I, _, e2, _, i9⟩ := h.bits t ht
      rw [e] at e2 ⊢
      exact ⟨0, I, (exitF_self f b pid c).2.1, (exitF_self f b pid c).2.2.1.trans e2, by decide, i9⟩
    · obtain ⟨W, I, e1, e2, w9, i9⟩ := h.bits t ht
      exact ⟨W, I, (exitF_other f pid c e).2.1.trans e1, (exitF_other f pid c e).2.2.1.trans e2, w9, i9⟩
theorem stR_del {l : List (Int × Nat)} {f : Nat → Pr} (k q : Int) : stR (mdel l k) f q = if q = k then 0 else stR l f q := by
  unfold stR
  rw [mget_mdel]
  split <;> rfl
theorem Kin.del {l : List (Int × Nat)} {f : Nat → Pr} (h : Kin l f) {k : Int} {b : Nat} (hb : mget l k = some b) (hs : (f b).state = 2) : Kin (mdel l k) f := by
  have hsub : ∀ t ∈ mdel l k, t ∈ l ∧ t.1 ≠ k := fun t ht => ⟨(List.mem_filter.1 ht).1, of_decide_eq_true (List.mem_filter.1 ht).2⟩
  have hk : ∀ q, stR l f q = 1 → q ≠ k := fun q hq e => by
    subst e
    unfold stR at hq
    rw [hb] at hq
    simp only [Option.elim] at hq
    rw [hs] at hq
    cases hq
  obtain ⟨b1, g1, g2, g3⟩ := h.one
  refine ⟨fun t ht => h.rng t (hsub t ht).1, Nat.le_trans (List.length_filter_le _ _) h.len, mdel_nodup h.nd k, ((List.filter_sublist (p := fun p : Int × Nat => decide (p.1 ≠ k)) (l := l)).map (·.2)).nodup h.inj, ⟨b1, ?_, g2, g3⟩, fun t ht hne => ?_, fun t ht => h.st t (hsub t ht).1, fun t ht => h.bits t (hsub t ht).1⟩
  · rw [mget_mdel, if_neg (hk 1 h.runs1)]; exact g1
  · have := h.par t (hsub t ht).1 hne
    rw [stR_del, if_neg (hk _ this)]
    exact this

/-- What a call leaves: the table's law; who is refused has changed no number. -/
def After (tb mb : Nat) (l : List (Int × Nat)) (w : World) (v : Value) (w' : World) : Prop :=
  ∃ l' f', (v = .nilIface ∨ (∃ c : Int, v = .iface 40 (.int .i64 c)) ∧ l' = l) ∧ TabIs w' tb mb l' f' ∧ Kin l' f' ∧ Turn (TFoot tb mb l) w w' ∧ ∀ k, TFoot tb mb l' k → TFoot tb mb l k ∨ w.heap.size ≤ k
section
variable {w : World} {tb mb : Nat} {l : List (Int × Nat)} {f : Nat → Pr}
theorem After.same (h : TabIs w tb mb l f) (hk : Kin l f) (c : Int) : After tb mb l w (.iface 40 (.int .i64 c)) w := ⟨l, f, .inr ⟨⟨c, rfl⟩, rfl⟩, h, hk, Turn.refl _ _, fun _ h => .inl h⟩
theorem runs_block {pid : Int} (hr : RunsIn l f pid) : ∃ b, mget l pid = some b := by obtain ⟨b, h, _⟩ := hr.at_; exact ⟨b, h⟩
theorem fork_kin (h : TabIs w tb mb l f) (hk : Kin l f) (pid : Int) :
    Calls Tryd.prog 32 #[.pointer (some ⟨tb, 0, none⟩), .int .i64 pid] w fun e w' => ∃ (n : Int) (v : Value), e = .returned (.tuple #[.int .i64 n, v]) ∧ After tb mb l w v w' := by
  by_cases hr : RunsIn l f pid
  · obtain ⟨b, hb⟩ := runs_block hr
    by_cases hl : l.length < 24
    · refine (fork_runs h pid b hr hb hl).mono ?_
      rintro e w' ⟨k, c, k1, k24, hn, _, rfl, hc, hT, t⟩
      refine ⟨_, _, rfl, _, _, .inl rfl, hT, hk.fork hr hb (by omega) (by omega) hn hl (fun s hs e => ?_), t.mono (fun k _ e => .inr (.inl e)), fun j hj => ?_⟩
      · have := (h.pr s hs).lt; omega
      · rcases hj with e | e | hj
        · exact .inl (.inl e)
        · exact .inl (.inr (.inl e))
        · rw [List.map_append, List.mem_append] at hj
          rcases hj with hj | hj
          · exact .inl (.inr (.inr hj))
          · simp at hj; exact .inr (by omega)
    · refine (fork_full h pid hr (by omega)).mono ?_
      rintro e w' ⟨rfl, rfl⟩
      exact ⟨_, _, rfl, After.same h hk _⟩
  · refine (fork_missing h pid hr).mono ?_
    rintro e w' ⟨rfl, rfl⟩
    exact ⟨_, _, rfl, After.same h hk _⟩
theorem exit_kin (h : TabIs w tb mb l f) (hk : Kin l f) (pid c : Int) :
    Calls Tryd.prog 34 #[.pointer (some ⟨tb, 0, none⟩), .int .i64 pid, .int .i64 c] w fun e w' => ∃ v, e = .returned v ∧ After tb mb l w v w' := by
  by_cases hr : RunsIn l f pid
  · by_cases h1 : pid = 1
    · subst h1
      refine (exit_one h c hr).mono ?_
      rintro e w' ⟨rfl, rfl⟩
      exact ⟨_, rfl, After.same h hk _⟩
    · obtain ⟨b, hb⟩ := runs_block hr
      refine (exit_runs h pid c b hr hb h1).mono ?_
      rintro e w' ⟨rfl, hT, t⟩
      exact ⟨_, rfl, _, _, .inl rfl, hT, hk.exit hb h1 c, t.mono (fun k _ e => .inr (.inr e)), fun j hj => .inl hj⟩
  · refine (exit_missing h pid c hr).mono ?_
    rintro e w' ⟨rfl, rfl⟩
    exact ⟨_, rfl, After.same h hk _⟩
theorem foot_del {k : Int} {j : Nat} (h : TFoot tb mb (mdel l k) j) : TFoot tb mb l j := by
  rcases h with e | e | h
  · exact .inl e
  · exact .inr (.inl e)
  · obtain ⟨t, ht, rfl⟩ := List.mem_map.1 h
    exact .inr (.inr (List.mem_map.2 ⟨t, (List.mem_filter.1 ht).1, rfl⟩))
theorem wait_kin (h : TabIs w tb mb l f) (hk : Kin l f) (pid : Int) :
    Calls Tryd.prog 36 #[.pointer (some ⟨tb, 0, none⟩), .int .i64 pid] w fun e w' => ∃ (n c : Int) (v : Value), e = .returned (.tuple #[.int .i64 n, .int .i64 c, v]) ∧ After tb mb l w v w' := by
  have same : ∀ (c : Int) w', Turn (fun _ => False) w w' → After tb mb l w (.iface 40 (.int .i64 c)) w' := fun c w' t => ⟨l, f, .inr ⟨⟨c, rfl⟩, rfl⟩, h.turned t (fun _ _ => id), hk, t.mono (fun _ _ h => h.elim), fun _ h => .inl h⟩
  by_cases hr : RunsIn l f pid
  · refine (wait_runs h pid hr hk.wf (by have := hk.len; omega)).mono ?_
    rintro e w' (⟨_, rfl, t⟩ | ⟨_, _, rfl, t⟩ | ⟨j, k, b, _, _, hb, hs, rfl, hT, t⟩)
    · exact ⟨_, _, _, rfl, same _ _ t⟩
    · exact ⟨_, _, _, rfl, same _ _ t⟩
    · exact ⟨_, _, _, rfl, _, _, .inl rfl, hT, hk.del hb hs, t.mono (fun k _ e => .inr (.inl e)), fun j hj => .inl (foot_del hj)⟩
  · refine (wait_missing h pid hr).mono ?_
    rintro e w' ⟨rfl, t⟩
    exact ⟨_, _, _, rfl, same _ _ t⟩
theorem kill_kin (h : TabIs w tb mb l f) (hk : Kin l f) (pid s : Int) :
    Calls Tryd.prog 38 #[.pointer (some ⟨tb, 0, none⟩), .int .i64 pid, .int .i64 s] w fun e w' => ∃ v, e = .returned v ∧ After tb mb l w v w' := by
  by_cases hs : 1 ≤ s ∧ s ≤ 8
  · by_cases hr : RunsIn l f pid
    · obtain ⟨b, hb⟩ := runs_block hr
      obtain ⟨s, rfl⟩ : ∃ n : Nat, s = n := ⟨s.toNat, by omega⟩
      have hm := mem_of_mget hb
      obtain ⟨W, I, e1, e2, w9, i9⟩ := hk.bits _ hm
      simp only at e1 e2
      refine (kill_runs h pid b s W I hr hb (by omega) (by omega) e1 e2 w9 i9).mono ?_
      rintro e w' ⟨rfl, hT, t⟩
      refine ⟨_, rfl, _, _, .inl rfl, hT, hk.upd b _ rfl rfl ⟨_, I, rfl, e2, ?_, i9⟩, t.mono (fun k _ e => .inr (.inr (List.mem_map.2 ⟨_, hm, e.symm⟩))), fun j hj => .inl hj⟩
      unfold killR
      split
      · exact w9
      · exact or_lt ⟨W, w9⟩ ⟨s, by omega⟩
    · refine (kill_missing h pid s hr hs.1 hs.2).mono ?_
      rintro e w' ⟨rfl, rfl⟩
      exact ⟨_, rfl, After.same h hk _⟩
  · refine (kill_range tb pid s hs).mono ?_
    rintro e w' ⟨rfl, rfl⟩
    exact ⟨_, rfl, After.same h hk _⟩
theorem ignore_kin (h : TabIs w tb mb l f) (hk : Kin l f) (pid s : Int) (on : Bool) :
    Calls Tryd.prog 40 #[.pointer (some ⟨tb, 0, none⟩), .int .i64 pid, .int .i64 s, .bool on] w fun e w' => ∃ v, e = .returned v ∧ After tb mb l w v w' := by
  by_cases hs : 1 ≤ s ∧ s ≤ 8
  · by_cases hr : RunsIn l f pid
    · by_cases h8 : s = 8
      · subst h8
        refine (ignore_last h pid on hr).mono ?_
        rintro e w' ⟨rfl, rfl⟩
        exact ⟨_, rfl, After.same h hk _⟩
      · obtain ⟨b, hb⟩ := runs_block hr
        obtain ⟨s, rfl⟩ : ∃ n : Nat, s = n := ⟨s.toNat, by omega⟩
        have hm := mem_of_mget hb
        obtain ⟨W, I, e1, e2, w9, i9⟩ := hk.bits _ hm
        simp only at e1 e2
        refine (ignore_runs h pid b s W I on hr hb (by omega) (by omega) e1 e2 w9 i9).mono ?_
        rintro e w' ⟨rfl, hT, t⟩
        refine ⟨_, rfl, _, _, .inl rfl, hT, hk.upd b _ ?_ ?_ ?_, t.mono (fun k _ e => .inr (.inr (List.mem_map.2 ⟨_, hm, e.symm⟩))), fun j hj => .inl hj⟩
        · unfold ignR; split <;> rfl
        · unfold ignR; split <;> rfl
        · unfold ignR; split
          · exact ⟨_, _, rfl, rfl, offR_lt w9 (by omega), or_lt ⟨offR I s, offR_lt i9 (by omega)⟩ ⟨s, by omega⟩⟩
          · exact ⟨W, _, e1, rfl, w9, offR_lt i9 (by omega)⟩
    · refine (ignore_missing h pid s on hr hs.1 hs.2).mono ?_
      rintro e w' ⟨rfl, rfl⟩
      exact ⟨_, rfl, After.same h hk _⟩
  · refine (ignore_range tb pid s on hs).mono ?_
    rintro e w' ⟨rfl, rfl⟩
    exact ⟨_, rfl, After.same h hk _⟩
theorem take_kin (h : TabIs w tb mb l f) (hk : Kin l f) (pid : Int) :
    Calls Tryd.prog 42 #[.pointer (some ⟨tb, 0, none⟩), .int .i64 pid] w fun e w' => ∃ r : Int, e = .returned (.int .i64 r) ∧ After tb mb l w .nilIface w' := by
  by_cases hr : RunsIn l f pid
  · obtain ⟨b, hb⟩ := runs_block hr
    have hm := mem_of_mget hb
    obtain ⟨W, I, e1, e2, w9, i9⟩ := hk.bits _ hm
    simp only at e1 e2
    refine (take_runs h pid b W hr hb e1 w9).mono ?_
    rintro e w' ⟨r, hl, rfl, hT, t⟩
    refine ⟨_, rfl, _, _, .inl rfl, hT, hk.upd b _ ?_ ?_ ?_, t.mono (fun k _ e => .inr (.inr (List.mem_map.2 ⟨_, hm, e.symm⟩))), fun j hj => .inl hj⟩
    · unfold takenR; split <;> rfl
    · unfold takenR; split <;> rfl
    · unfold takenR; split
      · exact ⟨W, I, e1, e2, w9, i9⟩
      · rcases hl with ⟨_, h8, _⟩ | ⟨h0, _⟩
        · exact ⟨_, I, rfl, e2, offR_lt w9 h8, i9⟩
        · exact absurd h0 ‹_›
  · refine (take_missing h pid hr).mono ?_
    rintro e w' ⟨rfl, rfl⟩
    exact ⟨_, rfl, l, f, .inl rfl, h, hk, Turn.refl _ _, fun _ h => .inl h⟩
end
end Go.Proofs.YtiohpmcedfbcgabDoor
