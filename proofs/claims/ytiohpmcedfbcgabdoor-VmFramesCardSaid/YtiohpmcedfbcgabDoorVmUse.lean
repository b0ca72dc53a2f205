/- Package vm: Store at any page; what a use does to a space, told as one. Conditions: each theorem's own premises. -/
import Derived.Test.YtiohpmcedfbcgabDoorVmStoreNew
namespace Go.Proofs.YtiohpmcedfbcgabDoor
open Go.RowKit
set_option linter.unusedVariables false

section
variable {w w' w1 w2 w3 : World} {s : SB} {n : Nat} {t t1 t2 : St} {sp pm sb : Nat} {P P' : Int → Option Pg} {O : Int → Nat}
def StoredAny (s : SB) (n : Nat) (t : St) (sp pm : Nat) (P : Int → Option Pg) (O : Int → Nat) (a wd v : Int) (w : World) (e : Ending) (w' : World) : Prop :=
  (accE P a wd 2 ≠ 0 ∧ e = .returned (VmErr (accE P a wd 2)) ∧ VmAfter s n t sp pm O w w' P t) ∨
  (accE P a wd 2 = 0 ∧ 0 ≤ wd ∧ wd < 8 ∧ ∃ q, P a = some q ∧ (StoredOwn s n t sp pm P O a wd v q w e w' ∨ StoredFull s n t sp pm P O q w e w' ∨ StoredNew s n t sp pm P O a wd v q w e w'))
theorem vmStore_any (h : VmOne w s n t sp pm P O) (a wd v : Int) :
    Calls Tryd.prog 122 #[.pointer (some ⟨sp, 0, none⟩), .int .i64 a, .int .i64 wd, .int .i64 v] w (StoredAny s n t sp pm P O a wd v w) := by
  have hA := access_is h.space a wd 2 (by omega)
  unfold Accessed at hA
  by_cases hz : accE P a wd 2 = 0
  · rcases accE_or P a wd 2 with ⟨he, hn⟩ | he | he | ⟨he, h0, h8, ⟨q1, f⟩, hq, hq1⟩
    · omega
    · omega
    · omega
    · rw [hz, hq] at hA
      have hA' : AccOk sp a wd q1 f w := hA
      by_cases hown : 0 ≤ f ∧ t.R f ≤ 1
      · refine (vmStore_own h hq h0 h8 hA' hown.1 hown.2 (v := v)).mono fun e w' hr => .inr ⟨hz, h0, h8, _, hq, .inl hr⟩
      · refine (vmStore_new h hq h0 h8 hA' hown (v := v)).mono fun e w' hr => .inr ⟨hz, h0, h8, _, hq, .inr hr⟩
  · rw [vmErr_of hz] at hA
    generalize (P a).getD noPg = q at hA
    refine (vmStore_err (z := accE P a wd 2) (q1 := q.1) (f := q.2) (v := v) hA).mono ?_
    rintro e w' ⟨rfl, tt⟩
    exact .inl ⟨hz, by rw [vmErr_of hz], h.same tt⟩

/-- What a use of a space does. -/
def Used (s : SB) (n : Nat) (t : St) (sp pm : Nat) (P : Int → Option Pg) (O : Int → Nat) (w : World) (e : Ending) (w' : World) : Prop :=
  ∃ (z : Int) (P' : Int → Option Pg) (t' : St), e = .returned (VmErr z) ∧ 0 ≤ z ∧ z < 15 ∧ VmAfter s n t sp pm O w w' P' t' ∧ (z ≠ 0 → P' = P) ∧ (z = 12 → usedN t.R n = n) ∧ (∀ f, 0 ≤ f → 0 < O f → ∀ k, t'.m f.toNat k = t.m f.toNat k)
theorem used_of_store {a wd v : Int} {e : Ending} (h : VmOne w s n t sp pm P O) (hs : StoredAny s n t sp pm P O a wd v w e w') : Used s n t sp pm P O w e w' := by
  rcases hs with ⟨hz, rfl, hA⟩ | ⟨hz, h0, h8, ⟨q1, f⟩, hq, ⟨⟨hf, hr⟩, rfl, t', hR, hm, hA⟩ | ⟨hno, hu, rfl, hA⟩ | ⟨hno, rfl, g, t', g0, gn, gR, hm, hA⟩⟩
  · refine ⟨_, P, t, rfl, ?_, ?_, hA, fun _ => rfl, fun he => ?_, fun _ _ _ _ => rfl⟩
    · rcases accE_or P a wd 2 with ⟨he, hn⟩ | he | he | ⟨he, _⟩ <;> omega
    · rcases accE_or P a wd 2 with ⟨he, hn⟩ | he | he | ⟨he, _⟩ <;> omega
    · rcases accE_or P a wd 2 with ⟨he', hn⟩ | he' | he' | ⟨he', _⟩ <;> omega
  · refine ⟨0, P, t', rfl, by omega, by omega, hA, fun _ => rfl, fun he => by omega, fun g hg hO k => ?_⟩
    have h1 := h.refs f hf
    have hd := h.space.dom _ _ hq
    have h2 := cntF_ge (P := P) (i := a) (f := f) hd.1 hd.2
    rw [hq, hasF_some, if_pos rfl] at h2
    simp only at hr hm hf
    rw [hm]
    unfold memSet
    rw [if_neg]
    rintro ⟨e, _⟩
    have : g = f := by omega
    subst this
    omega
  · exact ⟨12, P, t, rfl, by omega, by omega, hA, fun _ => rfl, fun _ => hu, fun _ _ _ _ => rfl⟩
  · refine ⟨0, _, t', rfl, by omega, by omega, hA, fun h => absurd rfl h, fun he => by omega, fun x hx hO k => ?_⟩
    have h1 := h.refs g g0
    have hne : x.toNat ≠ g.toNat := fun e => by
      have : x = g := by omega
      subst this
      omega
    rw [hm]
    unfold newM memSet
    rw [if_neg (fun e => hne e.1)]
    split
    · unfold memZero; rw [if_neg hne]
    · unfold memCopy; rw [if_neg hne]
theorem used_of_unmap {a k : Int} {e : Ending} (h : VmOne w s n t sp pm P O) (hs : Unmapped s n t sp pm P O a k w e w') : Used s n t sp pm P O w e w' := by
  obtain ⟨rfl, t', hm, hA⟩ := hs
  have hz : unmapE P a k = 0 ∨ unmapE P a k = 2 ∨ unmapE P a k = 7 := by
    unfold unmapE
    split
    · exact .inr (.inl rfl)
    · split
      · exact .inr (.inr rfl)
      · exact .inl rfl
  refine ⟨_, _, t', rfl, by omega, by omega, hA, fun hne => by rw [if_neg hne], fun he => by omega, fun _ _ _ _ => by rw [hm]⟩
theorem used_of_prot {a k p : Int} {e : Ending} (h : VmOne w s n t sp pm P O) (hs : Protected s n t sp pm P O a k p w e w') : Used s n t sp pm P O w e w' := by
  obtain ⟨rfl, hA⟩ := hs
  have hz : protE P a k p = 0 ∨ protE P a k p = 1 ∨ protE P a k p = 2 ∨ protE P a k p = 7 := by
    unfold protE
    split
    · exact .inr (.inr (.inl rfl))
    · split
      · exact .inr (.inl rfl)
      · split
        · exact .inr (.inr (.inr rfl))
        · exact .inl rfl
  refine ⟨_, _, t, rfl, by omega, by omega, hA, fun hne => by rw [if_neg hne], fun he => by omega, fun _ _ _ _ => rfl⟩
theorem mapP_cnt {a k p : Int} (h0 : mapE P a k p = 0) (f : Int) (hf : 0 ≤ f) : cntF (mapP P a k p) f = cntF P f := sumN_congr fun i hi => by
  unfold mapE at h0
  split at h0
  · omega
  · rename_i hr
    have hr' : RightP a k := Classical.byContradiction hr
    split at h0
    · omega
    · split at h0
      · omega
      · rename_i hth
        unfold mapP
        by_cases h1 : a ≤ (i : Int) ∧ (i : Int) < a + k
        · rw [if_pos h1]
          have e : P (i : Int) = none := by
            have hc : thereN P a k.toNat = 0 := by omega
            have h2 : (P (i : Int)).isSome = false := by
              cases hs : (P (i : Int)).isSome with
              | false => rfl
              | true =>
                exfalso
                have h3 : ((i : Int) - a).toNat < k.toNat := by omega
                have h4 : (fun j : Nat => (P (a + (j : Int))).isSome) ((i : Int) - a).toNat = true := by
                  show (P (a + (((i : Int) - a).toNat : Int))).isSome = true
                  rw [show a + ((((i : Int) - a).toNat : Nat) : Int) = (i : Int) by omega]; exact hs
                have h5 : ∀ (g : Nat → Bool) (k j : Nat), j < k → g j = true → 0 < cntB g k := by
                  intro g k
                  induction k with
                  | zero => intro j hj; omega
                  | succ k ih =>
                    intro j hj hg
                    rw [cntB_succ]
                    by_cases e : j = k
                    · subst e; rw [hg]; simp
                    · have := ih j (by omega) hg; omega
                have h6 := h5 (fun j : Nat => (P (a + (j : Int))).isSome) _ _ h3 h4
                unfold thereN at hc
                omega
            cases hq : P (i : Int) with
            | none => rfl
            | some q => rw [hq] at h2; cases h2
          rw [e, hasF_some]
          simp only
          rw [if_neg (by omega)]
          rfl
        · rw [if_neg h1]
theorem used_of_map {a k p : Int} {e : Ending} (h : VmOne w s n t sp pm P O) (hs : e = .returned (VmErr (mapE P a k p)) ∧ SpIs w' sp pm s.sb (if mapE P a k p = 0 then mapP P a k p else P) ∧ Turn (fun j => j = pm) w w') : Used s n t sp pm P O w e w' := by
  obtain ⟨rfl, hS, tt⟩ := hs
  have hz : mapE P a k p = 0 ∨ mapE P a k p = 1 ∨ mapE P a k p = 2 ∨ mapE P a k p = 9 := by
    unfold mapE
    split
    · exact .inr (.inr (.inl rfl))
    · split
      · exact .inr (.inl rfl)
      · split
        · exact .inr (.inr (.inr rfl))
        · exact .inl rfl
  refine ⟨_, _, t, rfl, by omega, by omega, h.ofSp tt hS (fun f hf => ?_), fun hne => by rw [if_neg hne], fun he => by omega, fun _ _ _ _ => rfl⟩
  by_cases h0 : mapE P a k p = 0
  · rw [if_pos h0, mapP_cnt h0 f hf]
  · rw [if_neg h0]
theorem used_before {e : Ending} (tt : Turn (fun _ => False) w w1) (hs : Used s n t sp pm P O w1 e w') : Used s n t sp pm P O w e w' := by
  obtain ⟨z, P', t', h1, h2, h3, ⟨a, b, c⟩, h5, h6, h7⟩ := hs
  exact ⟨z, P', t', h1, h2, h3, ⟨a, (tt.mono (fun _ _ h => h.elim)).trans b, fun k hk => (c k hk).imp id (fun h => Nat.le_trans tt.size h)⟩, h5, h6, h7⟩

set_option maxHeartbeats 1000000 in
set_option maxRecDepth 100000 in
theorem keepUse_is (h : VmOne w s n t sp pm P O) (x0 x1 x2 x3 x4 : Int) :
    Calls Tryd.prog 71 #[.pointer (some ⟨sp, 0, none⟩), .agg #[.int .i64 x0, .int .i64 x1, .int .i64 x2, .int .i64 x3, .int .i64 x4]] w (Used s n t sp pm P O w) := by
  have T1 : Turn (fun _ => False) w (w.alloc (.cells #[.int .i64 x0, .int .i64 x1, .int .i64 x2, .int .i64 x3, .int .i64 x4] 113)) := (Turn.refl _ _).alloc _
  have H1 := hid (h.turned T1 id id (fun _ _ => id))
  have HT1 := hid T1
  have H := hid h
  clear h T1
  go_enter Tryd.func71, Tryd.ntmps71
  go_wp2_with fail
  all_goals first
    | ((with_reducible refine (vmMap_any H1.out.space x1 x2 x3).mono ?_)
       intro e w2 hres
       obtain ⟨z, P', t', rfl, hrest⟩ := used_before HT1.out (used_of_map H1.out hres)
       have HR := hid hrest
       clear hrest hres
       go_wp2_with fail
       go_ret
       exact ⟨z, P', t', rfl, HR.out⟩)
    | ((with_reducible refine (vmUnmap_any H1.out x1 x2).mono ?_)
       intro e w2 hres
       obtain ⟨z, P', t', rfl, hrest⟩ := used_before HT1.out (used_of_unmap H1.out hres)
       have HR := hid hrest
       clear hrest hres
       go_wp2_with fail
       go_ret
       exact ⟨z, P', t', rfl, HR.out⟩)
    | ((with_reducible refine (vmProt_any H1.out x1 x2 x3).mono ?_)
       intro e w2 hres
       obtain ⟨z, P', t', rfl, hrest⟩ := used_before HT1.out (used_of_prot H1.out hres)
       have HR := hid hrest
       clear hrest hres
       go_wp2_with fail
       go_ret
       exact ⟨z, P', t', rfl, HR.out⟩)
    | ((with_reducible refine (vmStore_any H1.out x1 x2 x4).mono ?_)
       intro e w2 hres
       obtain ⟨z, P', t', rfl, hrest⟩ := used_before HT1.out (used_of_store H1.out hres)
       have HR := hid hrest
       clear hrest hres
       go_wp2_with fail
       go_ret
       exact ⟨z, P', t', rfl, HR.out⟩)
    | (go_ret
       exact ⟨0, P, t, rfl, by omega, by omega, H.out.same HT1.out, fun _ => rfl, fun h => by omega, fun _ _ _ _ => rfl⟩)
end
end Go.Proofs.YtiohpmcedfbcgabDoor
