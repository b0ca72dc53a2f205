/- Several texts of ours in one, in build order (VmMap, VmOne, VmDrop, VmUnmap, VmProt). Conditions: each theorem's own premises. -/
import Derived.Test.YtiohpmcedfbcgabGreatDoorVm
import Derived.Deep.QuietTactic
import Derived.BigQuiet
import Derived.Deep.RegionLaw
import Derived.Deep.RegionWith
import Derived.Test.YtiohpmcedfbcgabGreatDoorBuddyGive
/- Package vm: there, Map, Protect. Conditions: each theorem's own premises. -/
namespace Go.Proofs.YtiohpmcedfbcgabGreatDoor
open Go.RowKit
set_option linter.unusedVariables false

section
variable {w w' : World} {sp pm sb : Nat} {P P' : Int → Option Pg}
/-- How many of k pages from a on are there. -/
def thereN (P : Int → Option Pg) (a : Int) (k : Nat) : Nat := cntB (fun j => (P (a + (j : Int))).isSome) k
set_option maxRecDepth 100000 in
theorem there_is (h : SpIs w sp pm sb P) (a : Int) (k : Nat) (h0 : 0 ≤ a) (hk : a + k ≤ 64) :
    Calls Tryz.prog 58 #[.pointer (some ⟨sp, 0, none⟩), .int .i64 a, .int .i64 k] w fun e w' => e = .returned (.int .i64 (thereN P a k)) ∧ Turn (fun _ => False) w w' := by
  have H := hid h
  have hw0 : IntKind.i64.wrap (a + k) = a + k := IntWalk.i64_in _ (by omega)
  clear h
  go_enter Tryz.func58, Tryz.ntmps58
  go_wp2_with fail
  go_loopg [7, 8] k (fun gl c i wr => ∃ j : Nat, j + gl = k ∧ i = .int .i64 (a + j) ∧ c = .int .i64 (thereN P a j) ∧ Hid (Turn (fun _ => False) w wr))
  case atStart => exact ⟨0, by omega, by simp, rfl, hid (Turn.refl _ _)⟩
  case round =>
    obtain ⟨j, hj, rfl, rfl, hT⟩ := hrel
    by_cases hlt : j < k
    · have hlt' : a + j < a + k := by omega
      have HC := hid (H.out.turned hT.out id id)
      have c1 := HC.out.c1
      have lk := lookok_page HC.out (a + j)
      have hs : thereN P a (j + 1) = thereN P a j + if (P (a + j)).isSome then 1 else 0 := cntB_succ _ _
      have hle : thereN P a j ≤ j := cntB_le _ _
      obtain ⟨N, hN⟩ : ∃ N, thereN P a j = N := ⟨_, rfl⟩
      obtain ⟨⟨q1, q2⟩, hq⟩ : ∃ q : Pg, (P (a + j)).getD noPg = q := ⟨_, rfl⟩
      obtain ⟨ok, hok⟩ : ∃ ok, (P (a + j)).isSome = ok := ⟨_, rfl⟩
      rw [hq, hok] at lk
      rw [hN, hok] at hs
      rw [hN] at hle
      unfold encPg at lk
      have hw1 : IntKind.i64.wrap (a + j + 1) = a + j + 1 := IntWalk.i64_in _ (by omega)
      have hT2 : Turn (fun _ => False) w (wr.alloc (.cells #[.int .i64 q1, .int .i64 q2] 143)) := hT.out.alloc _
      have HT2 := hid hT2
      have HS := hid hs
      clear hq hok hs HC hT2
      rw [hN]
      clear hN
      cases ok with
      | true =>
        go_wp2_with fail
        go_roundg (gk - 1)
        case measure => omega
        case rel => exact ⟨j + 1, by omega, by go_num, by rw [HS.out]; go_num, HT2⟩
      | false =>
        go_wp2_with fail
        go_roundg (gk - 1)
        case measure => omega
        case rel => exact ⟨j + 1, by omega, by go_num, by rw [HS.out]; rfl, HT2⟩
    · have hlt' : ¬ a + j < a + k := by omega
      obtain rfl : j = k := by omega
      go_wp2_with fail
      go_ret
      exact ⟨rfl, hT.out⟩

/-- Map. -/
def mapE (P : Int → Option Pg) (a k prot : Int) : Int := if ¬ RightP a k then 2 else if prot < 1 ∨ 3 < prot then 1 else if 0 < thereN P a k.toNat then 9 else 0
def mapP (P : Int → Option Pg) (a k prot : Int) : Int → Option Pg := fun i => if a ≤ i ∧ i < a + k then some (prot, -1) else P i
theorem mapP_start (P : Int → Option Pg) (a prot : Int) : mapP P a 0 prot = P := by
  funext i
  unfold mapP
  rw [if_neg (by omega)]
theorem mapP_more (P : Int → Option Pg) (a prot : Int) (j : Nat) : mapP P a ((j + 1 : Nat) : Int) prot = fun i => if i = a + j then some (prot, -1) else mapP P a j prot i := by
  funext i
  unfold mapP
  by_cases h : i = a + j
  · rw [if_pos h, if_pos (by omega)]
  · rw [if_neg h]
    by_cases h2 : a ≤ i ∧ i < a + j
    · rw [if_pos h2, if_pos (by omega)]
    · rw [if_neg h2, if_neg (by omega)]
def VmErr (z : Int) : Value := if z = 0 then .nilIface else .iface 28 (.int .i64 z)
theorem SpIs.put (h : SpIs w sp pm sb P) (tt : Turn (fun k => k = pm) w w') {pl : List (Int × Pg)} {i : Int} {q : Pg} (he : ∀ i, mget pl i = P i) (hp : MapIs w' pm (.int .i64) encI encPg (mput pl i q)) (hi : 0 ≤ i ∧ i < 64) (hq : 1 ≤ q.1 ∧ q.1 ≤ 3 ∧ -1 ≤ q.2 ∧ q.2 < 256) : SpIs w' sp pm sb (fun j => if j = i then some q else P j) := by
  refine h.mapped tt hp (fun j => ?_) (fun j p hj => ?_) (fun j p hj => ?_)
  · rw [mget_mput, he]
  · by_cases e : j = i
    · rw [e]; exact hi
    · rw [if_neg e] at hj; exact h.dom j p hj
  · by_cases e : j = i
    · rw [if_pos e] at hj; cases hj; exact hq
    · rw [if_neg e] at hj; exact h.ok j p hj
set_option maxHeartbeats 1000000 in
set_option maxRecDepth 100000 in
theorem vmMap_any (h : SpIs w sp pm sb P) (a k prot : Int) :
    Calls Tryz.prog 12 #[.pointer (some ⟨sp, 0, none⟩), .int .i64 a, .int .i64 k, .int .i64 prot] w fun e w' => e = .returned (VmErr (mapE P a k prot)) ∧ SpIs w' sp pm sb (if mapE P a k prot = 0 then mapP P a k prot else P) ∧ Turn (fun j => j = pm) w w' := by
  have H := hid h
  have HR := hid (vright_is a k w)
  by_cases hr : RightP a k
  · rw [decide_eq_true hr] at HR
    obtain ⟨r0, r1, r2, r3⟩ := hr
    obtain ⟨k, rfl⟩ : ∃ n : Nat, k = n := ⟨k.toNat, by omega⟩
    have e1 : mapE P a k prot = if prot < 1 ∨ 3 < prot then 1 else if 0 < thereN P a k then 9 else 0 := by
      unfold mapE
      rw [if_neg (fun h => h ⟨r0, r1, r2, r3⟩), Int.toNat_natCast]
    by_cases hp : prot < 1 ∨ 3 < prot
    · rw [if_pos hp] at e1
      rw [e1]
      by_cases hp1 : prot < 1
      · clear h hp e1
        go_enter Tryz.func12, Tryz.ntmps12
        go_wp2_with fail
        refine HR.out.mono ?_
        rintro e w1 ⟨rfl, rfl⟩
        go_wp2_with fail
        go_ret
        exact ⟨rfl, H.out, Turn.refl _ _⟩
      · have hp2 : 3 < prot := hp.resolve_left hp1
        clear h hp e1
        go_enter Tryz.func12, Tryz.ntmps12
        go_wp2_with fail
        refine HR.out.mono ?_
        rintro e w1 ⟨rfl, rfl⟩
        go_wp2_with fail
        go_ret
        exact ⟨rfl, H.out, Turn.refl _ _⟩
    · rw [if_neg hp] at e1
      have hp1 : ¬ prot < 1 := fun h => hp (.inl h)
      have hp2 : ¬ 3 < prot := fun h => hp (.inr h)
      have HTh := hid (there_is h a k r0 (by omega))
      obtain ⟨T, hT⟩ : ∃ T, thereN P a k = T := ⟨_, rfl⟩
      rw [hT] at HTh e1
      by_cases ht : 0 < T
      · rw [if_pos ht] at e1
        rw [e1]
        have ht' : (0 : Int) < T := by omega
        clear h hp e1 hT
        go_enter Tryz.func12, Tryz.ntmps12
        go_wp2_with fail
        refine HR.out.mono ?_
        rintro e w1 ⟨rfl, rfl⟩
        go_wp2_with fail
        refine HTh.out.mono ?_
        rintro e w1 ⟨rfl, t1⟩
        have HT1 := hid t1
        clear t1
        go_wp2_with fail
        go_ret
        exact ⟨rfl, H.out.turned HT1.out id id, HT1.out.mono fun _ _ h => h.elim⟩
      · rw [if_neg ht] at e1
        rw [e1]
        have ht' : ¬ (0 : Int) < T := by omega
        clear h hp e1 hT
        go_enter Tryz.func12, Tryz.ntmps12
        go_wp2_with fail
        refine HR.out.mono ?_
        rintro e w1 ⟨rfl, rfl⟩
        go_wp2_with fail
        refine HTh.out.mono ?_
        rintro e w1 ⟨rfl, t1⟩
        have HT1 := hid t1
        clear t1
        go_wp2_with fail
        go_loopg [32] k (fun gl i wr => ∃ j : Nat, j + gl = k ∧ i = .int .i64 j ∧ Hid (SpIs wr sp pm sb (mapP P a j prot)) ∧ Hid (Turn (fun q => q = pm) w wr))
        case atStart => exact ⟨0, by omega, rfl, hid (by rw [Int.natCast_zero, mapP_start]; exact H.out.turned HT1.out id id), hid (HT1.out.mono fun _ _ h => h.elim)⟩
        case round =>
          obtain ⟨j, hj, rfl, hS, hT⟩ := hrel
          by_cases hlt : j < k
          · have hlt' : (j : Int) < k := by omega
            have c1 := hS.out.c1
            obtain ⟨pl, hpl, he⟩ := hS.out.pages
            have HPl := hid hpl
            have HE := hid he
            have hw1 : IntKind.i64.wrap (a + j) = a + j := IntWalk.i64_in _ (by omega)
            clear hpl he
            go_wp2_with (at_mapUpdate; refine wpList_mapput rfl _ _ _ 135 3 143 rfl Tryz.underlying135 Tryz.underlying3 keyI pm rfl HPl.out (a + j) rfl (prot, -1) rfl ?_; intro w4 hm4 t4; have HM4 := hid hm4; have HT4 := hid t4; clear hm4 t4)
            go_roundg (gk - 1)
            case measure => omega
            case rel =>
              refine ⟨j + 1, by omega, by go_num, hid ?_, hid (hT.out.trans HT4.out)⟩
              rw [mapP_more]
              exact hS.out.put HT4.out HE.out HM4.out ⟨by omega, by omega⟩ ⟨by simp only; omega, by simp only; omega, by simp only; omega, by simp only; omega⟩
          · have hlt' : ¬ (j : Int) < k := by omega
            obtain rfl : j = k := by omega
            go_wp2_with fail
            go_ret
            exact ⟨rfl, hS.out, hT.out⟩
  · rw [decide_eq_false hr] at HR
    have e1 : mapE P a k prot = 2 := by unfold mapE; rw [if_pos hr]
    rw [e1]
    clear h e1
    go_enter Tryz.func12, Tryz.ntmps12
    go_wp2_with fail
    refine HR.out.mono ?_
    rintro e w1 ⟨rfl, rfl⟩
    go_wp2_with fail
    go_ret
    exact ⟨rfl, H.out, Turn.refl _ _⟩
end
end Go.Proofs.YtiohpmcedfbcgabGreatDoor
/- Package vm: one space and what others hold: counts of frames, and the store behind one change of it. No walk. Conditions: each theorem's own premises. -/
namespace Go.Proofs.YtiohpmcedfbcgabGreatDoor
open Go.RowKit
set_option linter.unusedVariables false

/-- A sum of the first k. -/
def sumN (c : Nat → Nat) : Nat → Nat
  | 0 => 0
  | k + 1 => sumN c k + c k
theorem sumN_congr {c d : Nat → Nat} : ∀ {k : Nat}, (∀ i, i < k → c i = d i) → sumN c k = sumN d k
  | 0, _ => rfl
  | k + 1, h => by
    show sumN c k + c k = sumN d k + d k
    rw [sumN_congr (fun i hi => h i (by omega)), h k (by omega)]
theorem sumN_upd (c : Nat → Nat) (i x : Nat) : ∀ k, i < k → sumN (fun j => if j = i then x else c j) k + c i = sumN c k + x
  | 0, h => by omega
  | k + 1, h => by
    show sumN (fun j => if j = i then x else c j) k + (if k = i then x else c k) + c i = sumN c k + c k + x
    by_cases e : k = i
    · subst e
      rw [if_pos rfl, sumN_congr (d := c) (fun j hj => if_neg (by omega))]
      omega
    · have h1 := sumN_upd c i x k (by omega)
      rw [if_neg e]
      omega
theorem sumN_le {c d : Nat → Nat} : ∀ {k : Nat}, (∀ i, i < k → c i ≤ d i) → sumN c k ≤ sumN d k
  | 0, _ => Nat.le_refl _
  | k + 1, h => Nat.add_le_add (sumN_le fun i hi => h i (by omega)) (h k (by omega))
theorem sumN_add (c d : Nat → Nat) : ∀ k, sumN (fun i => c i + d i) k = sumN c k + sumN d k
  | 0 => rfl
  | k + 1 => by
    show sumN (fun i => c i + d i) k + (c k + d k) = sumN c k + c k + (sumN d k + d k)
    rw [sumN_add c d k]
    omega
theorem sumN_zero : ∀ {c : Nat → Nat} {k : Nat}, (∀ i, i < k → c i = 0) → sumN c k = 0
  | _, 0, _ => rfl
  | c, k + 1, h => by
    show sumN c k + c k = 0
    rw [sumN_zero (fun i hi => h i (by omega)), h k (by omega)]
theorem sumN_pos {c : Nat → Nat} : ∀ {k i : Nat}, i < k → c i ≤ sumN c k
  | 0, i, h => by omega
  | k + 1, i, h => by
    show c i ≤ sumN c k + c k
    by_cases e : i = k
    · rw [e]; omega
    · have := sumN_pos (c := c) (k := k) (i := i) (by omega); omega
theorem sumN_some {c : Nat → Nat} : ∀ {k : Nat}, 0 < sumN c k → ∃ i, i < k ∧ 0 < c i
  | 0, h => absurd h (Nat.lt_irrefl _)
  | k + 1, h => by
    by_cases e : 0 < c k
    · exact ⟨k, by omega, e⟩
    · have h' : 0 < sumN c k + c k := h
      obtain ⟨i, hi, hc⟩ := sumN_some (c := c) (k := k) (by omega)
      exact ⟨i, by omega, hc⟩
theorem sumN_max {c : Nat → Nat} {m : Nat} : ∀ {k : Nat}, (∀ i, i < k → c i ≤ m) → sumN c k ≤ k * m
  | 0, _ => by simp [sumN]
  | k + 1, h => by
    have h1 := sumN_max (c := c) (m := m) (k := k) (fun i hi => h i (by omega))
    have h2 := h k (by omega)
    show sumN c k + c k ≤ (k + 1) * m
    rw [Nat.succ_mul]
    omega

/-- Whether a page has the frame f (1 or 0). -/
def hasF (o : Option Pg) (f : Int) : Nat := o.elim 0 fun p => if p.2 = f then 1 else 0
theorem hasF_le (o : Option Pg) (f : Int) : hasF o f ≤ 1 := by
  cases o with
  | none => exact Nat.zero_le _
  | some p => show (if p.2 = f then 1 else 0) ≤ 1; split <;> omega
theorem hasF_some {p : Pg} {f : Int} : hasF (some p) f = if p.2 = f then 1 else 0 := rfl
theorem hasF_pos {o : Option Pg} {f : Int} (h : 0 < hasF o f) : ∃ p, o = some p ∧ p.2 = f := by
  cases o with
  | none => exact absurd h (Nat.lt_irrefl _)
  | some p =>
    rw [hasF_some] at h
    by_cases e : p.2 = f
    · exact ⟨p, rfl, e⟩
    · rw [if_neg e] at h; omega
/-- How many pages have the frame f. -/
def cntF (P : Int → Option Pg) (f : Int) : Nat := sumN (fun i => hasF (P (i : Int)) f) 64
def setP (P : Int → Option Pg) (i : Int) (o : Option Pg) : Int → Option Pg := fun j => if j = i then o else P j
theorem cntF_set (P : Int → Option Pg) (i : Int) (o : Option Pg) (f : Int) (h0 : 0 ≤ i) (h : i < 64) : cntF (setP P i o) f + hasF (P i) f = cntF P f + hasF o f := by
  have h1 := sumN_upd (fun j => hasF (P (j : Int)) f) i.toNat (hasF o f) 64 (by omega)
  have e : sumN (fun j => hasF (setP P i o (j : Int)) f) 64 = sumN (fun j => if j = i.toNat then hasF o f else hasF (P (j : Int)) f) 64 := sumN_congr fun j hj => by
    unfold setP
    by_cases e : (j : Int) = i
    · rw [if_pos e, if_pos (by omega)]
    · rw [if_neg e, if_neg (by omega)]
  unfold cntF
  rw [e]
  rw [show ((i.toNat : Nat) : Int) = i by omega] at h1
  exact h1
theorem cntF_ge {P : Int → Option Pg} {i : Int} {f : Int} (h0 : 0 ≤ i) (h : i < 64) : hasF (P i) f ≤ cntF P f := by
  have := sumN_pos (c := fun j => hasF (P (j : Int)) f) (k := 64) (i := i.toNat) (by omega)
  rw [show ((i.toNat : Nat) : Int) = i by omega] at this
  exact this
theorem cntF_two {P : Int → Option Pg} {i j : Int} {f : Int} (hi : 0 ≤ i ∧ i < 64) (hj : 0 ≤ j ∧ j < 64) (hne : i ≠ j) (h1 : 0 < hasF (P i) f) (h2 : 0 < hasF (P j) f) : 2 ≤ cntF P f := by
  have h3 := cntF_set P i none f hi.1 hi.2
  have h4 : hasF (setP P i none j) f ≤ cntF (setP P i none) f := cntF_ge hj.1 hj.2
  have e : setP P i none j = P j := if_neg (fun e => hne e.symm)
  rw [e] at h4
  have h5 : hasF none f = 0 := rfl
  omega
theorem cntF_pos {P : Int → Option Pg} {f : Int} (h : 0 < cntF P f) : ∃ i p, 0 ≤ i ∧ i < 64 ∧ P i = some p ∧ p.2 = f := by
  obtain ⟨i, hi, hc⟩ := sumN_some h
  obtain ⟨p, h1, h2⟩ := hasF_pos hc
  exact ⟨i, p, by omega, by omega, h1, h2⟩

/-- One space of a store; O: how many pages of others have a frame. -/
structure VmOne (w : World) (s : SB) (n : Nat) (t : St) (sp pm : Nat) (P : Int → Option Pg) (O : Int → Nat) : Prop where
  store : StoreIs w s n t
  space : SpIs w sp pm s.sb P
  off : ¬ StFoot s t.vs sp ∧ ¬ StFoot s t.vs pm
  refs : ∀ f, 0 ≤ f → t.R f = O f + cntF P f
  one : ∀ f, 0 ≤ f → cntF P f ≤ 1
/-- Behind a change of a store: what it holds, and what has turned. -/
def StAfter (s : SB) (n : Nat) (t : St) (w w' : World) (t' : St) : Prop :=
  StoreIs w' s n t' ∧ Turn (StFoot s t.vs) w w' ∧ ∀ k, StFoot s t'.vs k → StFoot s t.vs k ∨ w.heap.size ≤ k
theorem StAfter.trans {s : SB} {n : Nat} {t t1 t2 : St} {w w1 w2 : World} (h1 : StAfter s n t w w1 t1) (h2 : StAfter s n t1 w1 w2 t2) : StAfter s n t w w2 t2 := by
  obtain ⟨a1, b1, c1⟩ := h1
  obtain ⟨a2, b2, c2⟩ := h2
  refine ⟨a2, b1.trans' b2 (fun k hk hf => ?_), fun k hk => ?_⟩
  · rcases c1 k hf with h | h
    · exact h
    · omega
  · rcases c2 k hk with h | h
    · exact c1 k h
    · exact .inr (Nat.le_trans b1.size h)
theorem StAfter.refl {s : SB} {n : Nat} {t : St} {w : World} (h : StoreIs w s n t) : StAfter s n t w w t := ⟨h, Turn.refl _ _, fun _ h => .inl h⟩

section
variable {w w' w1 w2 w3 : World} {s : SB} {n : Nat} {t t' : St}
/-- A count is changed, not to 0. -/
theorem StoreIs.recount (h : StoreIs w s n t) {f : Int} {k : Nat} (hm : (mget t.rl f).isSome) (hk : 1 ≤ k ∧ k ≤ 100000) (tt : Turn (fun b => b = s.rm) w w') (hp : MapIs w' s.rm (.int .i64) encI encRc (mput t.rl f k)) :
    StAfter s n t w w' { t with rl := mput t.rl f k } := by
  refine ⟨{ h with
    c0 := (tt.cell (a := ⟨s.sb, 0, none⟩) (lt_of_cell h.c0) (by exact h.ne.1)).trans h.c0
    c1 := (tt.cell (a := ⟨s.sb, 1, none⟩) (lt_of_cell h.c1) (by exact h.ne.1)).trans h.c1
    c2 := (tt.cell (a := ⟨s.sb, 2, none⟩) (lt_of_cell h.c2) (by exact h.ne.1)).trans h.c2
    mem := h.mem.turned tt (fun e => h.ne.2.2.2.1 e.symm) (fun e => h.ne.2.2.2.2 e.symm)
    pool := h.pool.turned tt (fun k hk e => (h.ap k hk).2.1 e)
    refs := hp
    same := fun g => ?_
    pos := fun g c hg => ?_ }, tt.mono (fun j _ e => .inr (.inl e)), fun j hj => .inl hj⟩
  · rw [h.same g, mget_mput]
    by_cases e : g = f
    · rw [if_pos e, e]
      obtain ⟨c, hc⟩ := Option.isSome_iff_exists.1 hm
      rw [hc]; rfl
    · rw [if_neg e]
  · rw [mget_mput] at hg
    by_cases e : g = f
    · rw [if_pos e] at hg; cases hg; exact hk
    · rw [if_neg e] at hg; exact h.pos g c hg
theorem R_put (t : St) (f : Int) (k : Nat) : ({ t with rl := mput t.rl f k } : St).R = fun g => if g = f then k else t.R g := by
  funext g
  unfold St.R
  rw [mget_mput]
  by_cases e : g = f
  · rw [if_pos e, if_pos e]; rfl
  · rw [if_neg e, if_neg e]
theorem R_del (t : St) (f : Int) (vs : Nat → Value) (fr : Fr) (tk : List Bk) (k : Nat) : (⟨vs, fr, tk, mdel (mput t.rl f k) f, t.m⟩ : St).R = fun g => if g = f then 0 else t.R g := by
  funext g
  unfold St.R
  simp only
  rw [mget_mdel, mget_mput]
  by_cases e : g = f
  · rw [if_pos e, if_pos e]; rfl
  · rw [if_neg e, if_neg e, if_neg e]
theorem R_new (t : St) (f : Int) (vs : Nat → Value) (fr : Fr) (tk : List Bk) (m : Nat → Nat → Int) : (⟨vs, fr, tk, mput t.rl f 1, m⟩ : St).R = fun g => if g = f then 1 else t.R g := by
  funext g
  unfold St.R
  simp only
  rw [mget_mput]
  by_cases e : g = f
  · rw [if_pos e, if_pos e]; rfl
  · rw [if_neg e, if_neg e]
theorem StoreIs.foot_new (h : StoreIs w s n t) {vs2 : Nat → Value} (t2 : Turn (Foot s.p s.pmb t.vs) w w2) (g2 : ∀ j, Foot s.p s.pmb vs2 j → Foot s.p s.pmb t.vs j ∨ w.heap.size ≤ j) :
    (∀ k, Foot s.p s.pmb vs2 k → k ≠ s.sb ∧ k ≠ s.rm ∧ k ≠ s.mb ∧ k ≠ s.wb) ∧ (∀ k, StFoot s vs2 k → StFoot s t.vs k ∨ w.heap.size ≤ k) := by
  have l1 := lt_of_cell h.c0
  have l2 := h.refs.lt
  have l3 := h.mem.lt_mb
  have l4 := h.mem.lt_wb
  simp only at l1
  refine ⟨fun k hk => ?_, fun k hk => ?_⟩
  · rcases g2 k hk with h1 | h1
    · exact h.ap k h1
    · exact ⟨by omega, by omega, by omega, by omega⟩
  · rcases hk with h1 | h1 | h1 | h1 | h1
    · exact .inl (.inl h1)
    · exact .inl (.inr (.inl h1))
    · exact .inl (.inr (.inr (.inl h1)))
    · exact .inl (.inr (.inr (.inr (.inl h1))))
    · exact (g2 k h1).imp (fun h => .inr (.inr (.inr (.inr h)))) id
/-- A frame goes back to the pool (its count is struck). -/
theorem StoreIs.gone (h : StoreIs w s n t) {f : Int} {k0 : Nat} {vs2 : Nat → Value} {fr' : Fr} (tt : Turn (fun b => b = s.rm) w w1) (hp : MapIs w1 s.rm (.int .i64) encI encRc (mdel (mput t.rl f k0) f))
    (hpool : PoolAt w2 s.p s.pmb vs2 ⟨(n : Int), fr', mdel t.tk f⟩) (hg : Good n fr' (mdel t.tk f)) (t2 : Turn (Foot s.p s.pmb t.vs) w1 w2) (g2 : ∀ j, Foot s.p s.pmb vs2 j → Foot s.p s.pmb t.vs j ∨ w1.heap.size ≤ j) :
    StAfter s n t w w2 ⟨vs2, fr', mdel t.tk f, mdel (mput t.rl f k0) f, t.m⟩ := by
  have c0 := (tt.cell (a := ⟨s.sb, 0, none⟩) (lt_of_cell h.c0) (by exact h.ne.1)).trans h.c0
  have c1 := (tt.cell (a := ⟨s.sb, 1, none⟩) (lt_of_cell h.c1) (by exact h.ne.1)).trans h.c1
  have c2 := (tt.cell (a := ⟨s.sb, 2, none⟩) (lt_of_cell h.c2) (by exact h.ne.1)).trans h.c2
  have hm1 := h.mem.turned tt (fun e => h.ne.2.2.2.1 e.symm) (fun e => h.ne.2.2.2.2 e.symm)
  have hz := tt.size
  obtain ⟨f1, f2⟩ := h.foot_new (vs2 := vs2) (w2 := w) (Turn.refl _ _) (fun j hj => (g2 j hj).imp id (fun h => by omega))
  have nsb : ¬ Foot s.p s.pmb t.vs s.sb := fun hf => (h.ap _ hf).1 rfl
  have nrm : ¬ Foot s.p s.pmb t.vs s.rm := fun hf => (h.ap _ hf).2.1 rfl
  have nmb : ¬ Foot s.p s.pmb t.vs s.mb := fun hf => (h.ap _ hf).2.2.1 rfl
  have nwb : ¬ Foot s.p s.pmb t.vs s.wb := fun hf => (h.ap _ hf).2.2.2 rfl
  refine ⟨⟨(t2.cell (a := ⟨s.sb, 0, none⟩) (lt_of_cell c0) nsb).trans c0, (t2.cell (a := ⟨s.sb, 1, none⟩) (lt_of_cell c1) nsb).trans c1, (t2.cell (a := ⟨s.sb, 2, none⟩) (lt_of_cell c2) nsb).trans c2, hm1.turned t2 nmb nwb, hpool, hg, hp.turned t2 nrm, fun g => ?_, fun g c hc => ?_, f1, h.ne⟩,
    Turn.trans' (tt.mono (fun j _ e => .inr (.inl e))) t2 (fun k _ hk => .inr (.inr (.inr (.inr hk)))), fun k hk => ?_⟩
  · simp only
    rw [mget_mdel, mget_mdel, mget_mput, h.same g]
    by_cases e : g = f
    · rw [if_pos e, if_pos e]; rfl
    · rw [if_neg e, if_neg e, if_neg e]
  · simp only at hc
    rw [mget_mdel, mget_mput] at hc
    by_cases e : g = f
    · rw [if_pos e] at hc; cases hc
    · rw [if_neg e, if_neg e] at hc; exact h.pos g c hc
  · exact f2 k hk
/-- A frame is taken out of the pool. -/
theorem StoreIs.taken (h : StoreIs w s n t) {f : Int} {vs2 : Nat → Value} {fr' : Fr} (hm : mget t.tk f = none)
    (hpool : PoolAt w1 s.p s.pmb vs2 ⟨(n : Int), fr', mput t.tk f 0⟩) (hg : Good n fr' (mput t.tk f 0)) (t2 : Turn (Foot s.p s.pmb t.vs) w w1) (g2 : ∀ j, Foot s.p s.pmb vs2 j → Foot s.p s.pmb t.vs j ∨ w.heap.size ≤ j)
    (tt : Turn (fun b => b = s.rm) w1 w2) (hp : MapIs w2 s.rm (.int .i64) encI encRc (mput t.rl f 1)) :
    StAfter s n t w w2 ⟨vs2, fr', mput t.tk f 0, mput t.rl f 1, t.m⟩ := by
  obtain ⟨f1, f2⟩ := h.foot_new (vs2 := vs2) t2 g2
  have nsb : ¬ Foot s.p s.pmb t.vs s.sb := fun hf => (h.ap _ hf).1 rfl
  have nrm : ¬ Foot s.p s.pmb t.vs s.rm := fun hf => (h.ap _ hf).2.1 rfl
  have nmb : ¬ Foot s.p s.pmb t.vs s.mb := fun hf => (h.ap _ hf).2.2.1 rfl
  have nwb : ¬ Foot s.p s.pmb t.vs s.wb := fun hf => (h.ap _ hf).2.2.2 rfl
  have c0 := (t2.cell (a := ⟨s.sb, 0, none⟩) (lt_of_cell h.c0) nsb).trans h.c0
  have c1 := (t2.cell (a := ⟨s.sb, 1, none⟩) (lt_of_cell h.c1) nsb).trans h.c1
  have c2 := (t2.cell (a := ⟨s.sb, 2, none⟩) (lt_of_cell h.c2) nsb).trans h.c2
  have hm1 := h.mem.turned t2 nmb nwb
  refine ⟨⟨(tt.cell (a := ⟨s.sb, 0, none⟩) (lt_of_cell c0) (by exact h.ne.1)).trans c0, (tt.cell (a := ⟨s.sb, 1, none⟩) (lt_of_cell c1) (by exact h.ne.1)).trans c1, (tt.cell (a := ⟨s.sb, 2, none⟩) (lt_of_cell c2) (by exact h.ne.1)).trans c2, hm1.turned tt (fun e => h.ne.2.2.2.1 e.symm) (fun e => h.ne.2.2.2.2 e.symm), hpool.turned tt (fun k hk e => (f1 k hk).2.1 e), hg, hp, fun g => ?_, fun g c hc => ?_, f1, h.ne⟩,
    Turn.trans' (t2.mono (fun k _ hk => .inr (.inr (.inr (.inr hk))))) tt (fun j _ e => .inr (.inl e)), f2⟩
  · simp only
    rw [mget_mput, mget_mput, h.same g]
    by_cases e : g = f
    · rw [if_pos e, if_pos e]; rfl
    · rw [if_neg e, if_neg e]
  · simp only at hc
    rw [mget_mput] at hc
    by_cases e : g = f
    · rw [if_pos e] at hc; cases hc; omega
    · rw [if_neg e] at hc; exact h.pos g c hc
/-- Words have changed. -/
theorem StoreIs.words (h : StoreIs w s n t) {m' : Nat → Nat → Int} (tt : Turn (fun b => b = s.wb) w w') (hm : MemIs w' s.mb s.wb n m') : StAfter s n t w w' { t with m := m' } :=
  ⟨{ h with
    c0 := (tt.cell (a := ⟨s.sb, 0, none⟩) (lt_of_cell h.c0) (by exact h.ne.2.2.1)).trans h.c0
    c1 := (tt.cell (a := ⟨s.sb, 1, none⟩) (lt_of_cell h.c1) (by exact h.ne.2.2.1)).trans h.c1
    c2 := (tt.cell (a := ⟨s.sb, 2, none⟩) (lt_of_cell h.c2) (by exact h.ne.2.2.1)).trans h.c2
    mem := hm
    pool := h.pool.turned tt (fun k hk e => (h.ap k hk).2.2.2 e)
    refs := h.refs.turned tt (fun e => h.ne.2.2.2.2 e) }, tt.mono (fun j _ e => .inr (.inr (.inr (.inl e)))), fun j hj => .inl hj⟩
end
end Go.Proofs.YtiohpmcedfbcgabGreatDoor
/- Package vm: drop: a frame has a page less. Conditions: each theorem's own premises. -/
namespace Go.Proofs.YtiohpmcedfbcgabGreatDoor
open Go.RowKit
set_option linter.unusedVariables false

section
variable {w w' : World} {s : SB} {n : Nat} {t t' : St}
theorem zeroRc (w : World) : (zeroValue 3).run Tryz.prog w = .ok (.int .i64 0) w := by kernel_rfl
theorem look_rc {rm : Nat} {rl : List (Int × Nat)} (h : MapIs w rm (.int .i64) encI encRc rl) (f : Int) : (Instr.lookup 92 (.map (some rm)) (.int .i64 f) false).run Tryz.prog w = .ok (.int .i64 (((mget rl f).getD 0 : Nat) : Int)) w := by
  have h1 := h.run_lookup keyI Tryz.underlying92 Tryz.underlying3 (zeroRc w) f false
  refine h1.trans ?_
  cases mget rl f <;> rfl
def Dropped (s : SB) (n : Nat) (t : St) (f : Int) (w : World) (e : Ending) (w' : World) : Prop :=
  e = .returned (.tuple #[]) ∧ ∃ t', StAfter s n t w w' t' ∧ t'.m = t.m ∧ t'.R = fun g => if g = f then t.R f - 1 else t.R g
set_option maxHeartbeats 1000000 in
set_option maxRecDepth 100000 in
theorem drop_is (h : StoreIs w s n t) (f : Int) (hf : 0 < t.R f) : Calls Tryz.prog 63 #[.pointer (some ⟨s.sb, 0, none⟩), .int .i64 f] w (Dropped s n t f w) := by
  obtain ⟨j, hj⟩ : ∃ j, mget t.rl f = some (j + 1) := by
    unfold St.R at hf
    cases hm : mget t.rl f with
    | none => rw [hm] at hf; exact absurd hf (Nat.lt_irrefl _)
    | some k => rw [hm] at hf; exact ⟨k - 1, by rw [show k - 1 + 1 = k by have : 0 < k := hf; omega]⟩
  have hR : t.R f = j + 1 := by unfold St.R; rw [hj]; rfl
  have hjb := (h.pos f _ hj).2
  have c1 := h.c1
  have c2 := h.c2
  have lk := look_rc h.refs f
  rw [hj] at lk
  simp only [Option.getD_some] at lk
  have H := hid h
  have HJ := hid hj
  have HR := hid hR
  have HRf := hid h.refs
  have n1 := h.ne.1
  have hw1 : IntKind.i64.wrap (((j + 1 : Nat) : Int) - 1) = (j : Int) := by rw [IntWalk.i64_in _ (by omega)]; omega
  have hw2 : ((j + 1 : Nat) : Int) - 1 = (j : Int) := by omega
  clear h hj hR hf
  have HM0 : Hid (mget t.tk f = some 0) := hid (by rw [H.out.same f, HJ.out]; rfl)
  by_cases h0 : j = 0
  · subst h0
    go_enter Tryz.func63, Tryz.ntmps63
    go_wp2_with (first | (at_mapUpdate; refine wpList_mapput rfl _ _ _ 92 3 3 rfl Tryz.underlying92 Tryz.underlying3 keyI s.rm rfl HRf.out f rfl 0 (by first | rfl | go_num) ?_; intro w4 hm4 t4; have HM4 := hid hm4; have HT4 := hid t4; have c22 := (t4.cell (a := ⟨s.sb, 2, none⟩) (lt_of_cell c2) n1).trans c2; have c12 := (t4.cell (a := ⟨s.sb, 1, none⟩) (lt_of_cell c1) n1).trans c1; have lk2 := look_rc hm4 f; rw [mget_mput, if_pos rfl] at lk2; simp only [Option.getD_some] at lk2; clear hm4 t4 c1 c2 lk) | (at_delete; refine wpList_mapdel rfl _ _ 92 3 3 rfl Tryz.underlying92 Tryz.underlying3 keyI s.rm rfl HM4.out f rfl ?_; intro w5 hm5 t5; have HM5 := hid hm5; have HT5 := hid (HT4.out.trans t5); have c13 := (t5.cell (a := ⟨s.sb, 1, none⟩) (lt_of_cell c12) n1).trans c12; clear hm5 t5 c12 c22 lk2))
    have HP5 := H.out.pool.turned HT5.out (fun k hk e => (H.out.ap k hk).2.1 e)
    have HGv := hid (give_ok HP5 f 0 HM0.out H.out.good (by have := H.out.hn; simp only; omega))
    clear HP5
    refine HGv.out.mono ?_
    rintro e w6 ⟨rfl, fr2, hg2, vs2, hp2, t2, g2⟩
    have HG2 := hid hg2
    have HP2 := hid hp2
    have HT2 := hid t2
    have Hg2 := hid g2
    clear hg2 hp2 t2 g2 c13 HGv
    go_wp2_with fail
    go_end0
    exact ⟨rfl, _, H.out.gone HT5.out HM5.out HP2.out HG2.out HT2.out Hg2.out, rfl, by rw [R_del, HR.out]⟩
  · have hb0 : ((j : Int) == 0) = false := by simp; omega
    go_enter Tryz.func63, Tryz.ntmps63
    go_wp2_with (at_mapUpdate; refine wpList_mapput rfl _ _ _ 92 3 3 rfl Tryz.underlying92 Tryz.underlying3 keyI s.rm rfl HRf.out f rfl j (by first | rfl | go_num) ?_; intro w4 hm4 t4; have HM4 := hid hm4; have HT4 := hid t4; have c22 := (t4.cell (a := ⟨s.sb, 2, none⟩) (lt_of_cell c2) n1).trans c2; have lk2 := look_rc hm4 f; rw [mget_mput, if_pos rfl] at lk2; simp only [Option.getD_some] at lk2; clear hm4 t4 c1 c2 lk)
    go_end0
    exact ⟨rfl, _, H.out.recount (by rw [HJ.out]; rfl) ⟨by omega, by omega⟩ HT4.out HM4.out, rfl, by rw [R_put, HR.out]; rfl⟩
end
end Go.Proofs.YtiohpmcedfbcgabGreatDoor
/- Package vm: Unmap and Protect. Conditions: each theorem's own premises. -/
namespace Go.Proofs.YtiohpmcedfbcgabGreatDoor
open Go.RowKit
set_option linter.unusedVariables false

/-- Behind a call at one space. -/
def VmAfter (s : SB) (n : Nat) (t : St) (sp pm : Nat) (O : Int → Nat) (w w' : World) (P' : Int → Option Pg) (t' : St) : Prop :=
  VmOne w' s n t' sp pm P' O ∧ Turn (fun j => j = pm ∨ StFoot s t.vs j) w w' ∧ ∀ k, StFoot s t'.vs k → StFoot s t.vs k ∨ w.heap.size ≤ k
section
variable {w w' w1 w2 w3 : World} {s : SB} {n : Nat} {t t' t1 t2 : St} {sp pm : Nat} {P P' P1 P2 : Int → Option Pg} {O : Int → Nat}
theorem VmAfter.trans (h1 : VmAfter s n t sp pm O w w1 P1 t1) (h2 : VmAfter s n t1 sp pm O w1 w2 P2 t2) : VmAfter s n t sp pm O w w2 P2 t2 := by
  obtain ⟨a1, b1, c1⟩ := h1
  obtain ⟨a2, b2, c2⟩ := h2
  refine ⟨a2, b1.trans' b2 (fun k hk hf => ?_), fun k hk => ?_⟩
  · rcases hf with h | h
    · exact .inl h
    · rcases c1 k h with h | h
      · exact .inr h
      · omega
  · rcases c2 k hk with h | h
    · exact c1 k h
    · exact .inr (Nat.le_trans b1.size h)
theorem VmOne.turned {S : Nat → Prop} (h : VmOne w s n t sp pm P O) (tt : Turn S w w') (h1 : ¬ S sp) (h2 : ¬ S pm) (h3 : ∀ k, StFoot s t.vs k → ¬ S k) : VmOne w' s n t sp pm P O :=
  ⟨h.store.turned tt h3, h.space.turned tt h1 h2, h.off, h.refs, h.one⟩
theorem VmOne.same (h : VmOne w s n t sp pm P O) (tt : Turn (fun _ => False) w w') : VmAfter s n t sp pm O w w' P t :=
  ⟨h.turned tt id id (fun _ _ => id), tt.mono (fun _ _ h => h.elim), fun _ h => .inl h⟩
theorem VmOne.ofSp (h : VmOne w s n t sp pm P O) (tt : Turn (fun j => j = pm) w w') (hs : SpIs w' sp pm s.sb P') (hc : ∀ f, 0 ≤ f → cntF P' f = cntF P f) : VmAfter s n t sp pm O w w' P' t :=
  ⟨⟨h.store.turned tt (fun k hk e => h.off.2 (e ▸ hk)), hs, h.off, fun f hf => by rw [hc f hf]; exact h.refs f hf, fun f hf => by rw [hc f hf]; exact h.one f hf⟩, tt.mono (fun _ _ h => .inl h), fun _ h => .inl h⟩
/-- The store changes, then the space's pages. -/
theorem VmOne.step (h : VmOne w s n t sp pm P O) (hA : StAfter s n t w w2 t2) (tt : Turn (fun j => j = pm) w2 w3) {pl : List (Int × Pg)} (hp : MapIs w3 pm (.int .i64) encI encPg pl) (he : ∀ i, mget pl i = P' i)
    (hd : ∀ i p, P' i = some p → 0 ≤ i ∧ i < 64) (ho : ∀ i p, P' i = some p → 1 ≤ p.1 ∧ p.1 ≤ 3 ∧ -1 ≤ p.2 ∧ p.2 < 256) (hR : ∀ f, 0 ≤ f → t2.R f = O f + cntF P' f) (h1 : ∀ f, 0 ≤ f → cntF P' f ≤ 1) :
    VmAfter s n t sp pm O w w3 P' t2 := by
  obtain ⟨a1, b1, c1⟩ := hA
  have l1 := h.space.lt
  have hs2 := h.space.turned b1 h.off.1 h.off.2
  have off2 : ¬ StFoot s t2.vs sp ∧ ¬ StFoot s t2.vs pm := ⟨fun hf => by
    rcases c1 _ hf with h2 | h2
    · exact h.off.1 h2
    · omega, fun hf => by
    rcases c1 _ hf with h2 | h2
    · exact h.off.2 h2
    · omega⟩
  refine ⟨⟨a1.turned tt (fun k hk e => off2.2 (e ▸ hk)), hs2.mapped tt hp he hd ho, off2, hR, h1⟩, Turn.trans' (b1.mono (fun _ _ h => .inr h)) tt (fun _ _ h => .inl h), c1⟩
theorem setP_dom (h : SpIs w sp pm s.sb P) {i : Int} {o : Option Pg} (hi : 0 ≤ i ∧ i < 64) : ∀ j p, setP P i o j = some p → 0 ≤ j ∧ j < 64 := fun j p hj => by
  unfold setP at hj
  by_cases e : j = i
  · rw [e]; exact hi
  · rw [if_neg e] at hj; exact h.dom j p hj
theorem setP_ok (h : SpIs w sp pm s.sb P) {i : Int} {o : Option Pg} (hq : ∀ q, o = some q → 1 ≤ q.1 ∧ q.1 ≤ 3 ∧ -1 ≤ q.2 ∧ q.2 < 256) : ∀ j p, setP P i o j = some p → 1 ≤ p.1 ∧ p.1 ≤ 3 ∧ -1 ≤ p.2 ∧ p.2 < 256 := fun j p hj => by
  unfold setP at hj
  by_cases e : j = i
  · rw [if_pos e] at hj; exact hq p hj
  · rw [if_neg e] at hj; exact h.ok j p hj
theorem setP_same (P : Int → Option Pg) (i : Int) : setP P i (P i) = P := by
  funext j
  unfold setP
  by_cases e : j = i
  · rw [if_pos e, e]
  · rw [if_neg e]
/-- A page goes, and its frame has a page less. -/
theorem VmOne.lost (h : VmOne w s n t sp pm P O) {i : Int} {q : Pg} (hi : P i = some q) (hA : StAfter s n t w w2 t2) (hR : t2.R = if 0 ≤ q.2 then (fun g => if g = q.2 then t.R q.2 - 1 else t.R g) else t.R)
    (tt : Turn (fun j => j = pm) w2 w3) {pl : List (Int × Pg)} (hp : MapIs w3 pm (.int .i64) encI encPg (mdel pl i)) (he : ∀ i, mget pl i = P i) : VmAfter s n t sp pm O w w3 (setP P i none) t2 := by
  have hdom := h.space.dom i q hi
  have hc := fun f => cntF_set P i none f hdom.1 hdom.2
  rw [hi] at hc
  refine h.step hA tt hp (fun j => ?_) (setP_dom h.space hdom) (setP_ok h.space (fun q hq => by cases hq)) (fun f hf => ?_) (fun f hf => ?_)
  · rw [mget_mdel, he]; rfl
  · have h1 := h.refs f hf
    have h2 := hc f
    rw [hasF_some] at h2
    have h3 : hasF none f = 0 := rfl
    rw [hR]
    by_cases e : q.2 = f
    · rw [if_pos e] at h2
      subst e
      rw [if_pos hf]
      show (if q.2 = q.2 then t.R q.2 - 1 else t.R q.2) = _
      rw [if_pos rfl]
      omega
    · rw [if_neg e] at h2
      by_cases e2 : 0 ≤ q.2
      · rw [if_pos e2]
        show (if f = q.2 then t.R q.2 - 1 else t.R f) = _
        rw [if_neg (fun e3 => e e3.symm)]
        omega
      · rw [if_neg e2]; omega
  · have h1 := h.one f hf
    have h2 := hc f
    have h3 : hasF none f = 0 := rfl
    omega

def unmapE (P : Int → Option Pg) (a k : Int) : Int := if ¬ RightP a k then 2 else if (thereN P a k.toNat : Int) < k then 7 else 0
def unmapP (P : Int → Option Pg) (a k : Int) : Int → Option Pg := fun i => if a ≤ i ∧ i < a + k then none else P i
theorem unmapP_start (P : Int → Option Pg) (a : Int) : unmapP P a 0 = P := by
  funext i
  unfold unmapP
  rw [if_neg (by omega)]
theorem unmapP_more (P : Int → Option Pg) (a : Int) (j : Nat) : unmapP P a ((j + 1 : Nat) : Int) = setP (unmapP P a j) (a + j) none := by
  funext i
  show (if a ≤ i ∧ i < a + ((j + 1 : Nat) : Int) then none else P i) = if i = a + j then none else if a ≤ i ∧ i < a + j then none else P i
  by_cases h : i = a + j
  · rw [if_pos h, if_pos (by omega)]
  · rw [if_neg h]
    by_cases h2 : a ≤ i ∧ i < a + j
    · rw [if_pos h2, if_pos (by omega)]
    · rw [if_neg h2, if_neg (by omega)]
theorem unmapP_at (P : Int → Option Pg) (a : Int) (j : Nat) : unmapP P a j (a + j) = P (a + j) := if_neg (by omega)
theorem fldPg (a b : Value) (w : World) : (Instr.field 143 (.agg #[a, b]) 1).run Tryz.prog w = .ok b w := by kernel_rfl
theorem there_all {P : Int → Option Pg} {a : Int} {k : Nat} (h : ¬ thereN P a k < k) (j : Nat) (hj : j < k) : ∃ p, P (a + j) = some p := by
  have h1 : thereN P a k ≤ k := cntB_le _ _
  exact Option.isSome_iff_exists.1 (cntB_all (g := fun j => (P (a + (j : Int))).isSome) (k := k) (by show thereN P a k = k; omega) j hj)
def Unmapped (s : SB) (n : Nat) (t : St) (sp pm : Nat) (P : Int → Option Pg) (O : Int → Nat) (a k : Int) (w : World) (e : Ending) (w' : World) : Prop :=
  e = .returned (VmErr (unmapE P a k)) ∧ ∃ t', t'.m = t.m ∧ VmAfter s n t sp pm O w w' (if unmapE P a k = 0 then unmapP P a k else P) t'
set_option maxHeartbeats 1000000 in
set_option maxRecDepth 100000 in
theorem vmUnmap_any (h : VmOne w s n t sp pm P O) (a k : Int) :
    Calls Tryz.prog 14 #[.pointer (some ⟨sp, 0, none⟩), .int .i64 a, .int .i64 k] w (Unmapped s n t sp pm P O a k w) := by
  have H := hid h
  have HR := hid (vright_is a k w)
  by_cases hr : RightP a k
  · rw [decide_eq_true hr] at HR
    obtain ⟨r0, r1, r2, r3⟩ := hr
    obtain ⟨k, rfl⟩ : ∃ n : Nat, k = n := ⟨k.toNat, by omega⟩
    have e1 : unmapE P a k = if (thereN P a k : Int) < k then 7 else 0 := by
      unfold unmapE
      rw [if_neg (fun h => h ⟨r0, r1, r2, r3⟩), Int.toNat_natCast]
    have HTh := hid (there_is h.space a k r0 (by omega))
    have HAll := hid (there_all (P := P) (a := a) (k := k))
    obtain ⟨T, hT⟩ : ∃ T, thereN P a k = T := ⟨_, rfl⟩
    rw [hT] at HTh HAll e1
    unfold Unmapped
    by_cases ht : T < k
    · have ht' : (T : Int) < k := by omega
      rw [if_pos ht'] at e1
      rw [e1]
      clear h e1 hT
      go_enter Tryz.func14, Tryz.ntmps14
      go_wp2_with fail
      refine HR.out.mono ?_
      rintro e w1 ⟨rfl, rfl⟩
      go_wp2_with fail
      refine HTh.out.mono ?_
      rintro e w1 ⟨rfl, t1⟩
      have HT1 := hid t1
      clear t1
      go_wp2_with fail
      go_ret
      exact ⟨rfl, t, rfl, H.out.same HT1.out⟩
    · have ht' : ¬ (T : Int) < k := by omega
      rw [if_neg ht'] at e1
      rw [e1]
      clear h e1 hT
      go_enter Tryz.func14, Tryz.ntmps14
      go_wp2_with fail
      refine HR.out.mono ?_
      rintro e w1 ⟨rfl, rfl⟩
      go_wp2_with fail
      refine HTh.out.mono ?_
      rintro e w1 ⟨rfl, tt1⟩
      have HT1 := hid tt1
      clear tt1
      go_wp2_with fail
      go_loopg [24] k (fun gl i wr => ∃ (j : Nat) (tj : St), j + gl = k ∧ i = .int .i64 j ∧ Hid (tj.m = t.m) ∧ Hid (VmAfter s n t sp pm O w wr (unmapP P a j) tj))
      case atStart => exact ⟨0, t, by omega, rfl, hid rfl, hid (by rw [Int.natCast_zero, unmapP_start]; exact H.out.same HT1.out)⟩
      case round =>
        obtain ⟨j, tj, hj, rfl, hm, hS⟩ := hrel
        by_cases hlt : j < k
        · have hlt' : (j : Int) < k := by omega
          obtain ⟨⟨q1, f⟩, hq⟩ := HAll.out ht j hlt
          have hqj : unmapP P a j (a + j) = some (q1, f) := (unmapP_at P a j).trans hq
          have HQ := hid hqj
          have c0 := hS.out.1.space.c0
          have c1 := hS.out.1.space.c1
          have lk := look_page hS.out.1.space (a + j)
          rw [hqj] at lk
          simp only [Option.getD_some, encPg] at lk
          obtain ⟨pl, hpl, he⟩ := hS.out.1.space.pages
          have HPl := hid hpl
          have HE := hid he
          have hfd := @fldPg
          have hw1 : IntKind.i64.wrap (a + j) = a + j := IntWalk.i64_in _ (by omega)
          have HMore := hid (unmapP_more P a j)
          clear hpl he hq hqj
          by_cases hf : 0 ≤ f
          · have hpos : 0 < tj.R f := by
              have h1 := hS.out.1.refs f hf
              have hdm := hS.out.1.space.dom _ _ HQ.out
              have h2 := cntF_ge (P := unmapP P a j) (i := a + j) (f := f) hdm.1 hdm.2
              rw [HQ.out, hasF_some, if_pos rfl] at h2
              omega
            have HD := hid (drop_is hS.out.1.store f hpos)
            clear hpos
            go_wp2_with fail
            refine HD.out.mono ?_
            rintro e w2 ⟨rfl, t2, hA, hm2, hR2⟩
            have HA := hid hA
            have HM2 := hid hm2
            have HR2 := hid hR2
            have HPl2 := hid (HPl.out.turned hA.2.1 hS.out.1.off.2)
            have c12 := (hA.2.1.cell (a := ⟨sp, 1, none⟩) (lt_of_cell c1) hS.out.1.off.1).trans c1
            clear hA hm2 hR2 c1 lk HD
            go_wp2_with (at_delete; refine wpList_mapdel rfl _ _ 135 3 143 rfl Tryz.underlying135 Tryz.underlying3 keyI pm rfl HPl2.out (a + j) rfl ?_; intro w4 hm4 t4; have HM4 := hid hm4; have HT4 := hid t4; clear hm4 t4)
            go_roundg (gk - 1)
            case measure => omega
            case rel =>
              refine ⟨j + 1, t2, by omega, by go_num, hid (HM2.out.trans hm.out), hid ?_⟩
              rw [HMore.out]
              exact hS.out.trans (hS.out.1.lost HQ.out HA.out (by rw [HR2.out, if_pos hf]) HT4.out HM4.out HE.out)
          · go_wp2_with (at_delete; refine wpList_mapdel rfl _ _ 135 3 143 rfl Tryz.underlying135 Tryz.underlying3 keyI pm rfl HPl.out (a + j) rfl ?_; intro w4 hm4 t4; have HM4 := hid hm4; have HT4 := hid t4; clear hm4 t4)
            go_roundg (gk - 1)
            case measure => omega
            case rel =>
              refine ⟨j + 1, tj, by omega, by go_num, hm, hid ?_⟩
              rw [HMore.out]
              exact hS.out.trans (hS.out.1.lost HQ.out (StAfter.refl hS.out.1.store) (by rw [if_neg (by simp only; omega)]) HT4.out HM4.out HE.out)
        · have hlt' : ¬ (j : Int) < k := by omega
          obtain rfl : j = k := by omega
          go_wp2_with fail
          go_ret
          exact ⟨rfl, tj, hm.out, hS.out⟩
  · rw [decide_eq_false hr] at HR
    have e1 : unmapE P a k = 2 := by unfold unmapE; rw [if_pos hr]
    unfold Unmapped
    rw [e1]
    clear h e1
    go_enter Tryz.func14, Tryz.ntmps14
    go_wp2_with fail
    refine HR.out.mono ?_
    rintro e w1 ⟨rfl, rfl⟩
    go_wp2_with fail
    go_ret
    exact ⟨rfl, t, rfl, H.out.same (Turn.refl _ _)⟩
end
end Go.Proofs.YtiohpmcedfbcgabGreatDoor
/- Package vm: Protect. Conditions: each theorem's own premises. -/
namespace Go.Proofs.YtiohpmcedfbcgabGreatDoor
open Go.RowKit
set_option linter.unusedVariables false

section
variable {w w' : World} {s : SB} {n : Nat} {t : St} {sp pm : Nat} {P P' : Int → Option Pg} {O : Int → Nat}
def protE (P : Int → Option Pg) (a k prot : Int) : Int := if ¬ RightP a k then 2 else if prot < 1 ∨ 3 < prot then 1 else if (thereN P a k.toNat : Int) < k then 7 else 0
def protP (P : Int → Option Pg) (a k prot : Int) : Int → Option Pg := fun i => if a ≤ i ∧ i < a + k then (P i).map (fun q => (prot, q.2)) else P i
theorem protP_start (P : Int → Option Pg) (a prot : Int) : protP P a 0 prot = P := by
  funext i
  unfold protP
  rw [if_neg (by omega)]
theorem protP_at (P : Int → Option Pg) (a prot : Int) (j : Nat) : protP P a j prot (a + j) = P (a + j) := if_neg (by omega)
theorem protP_more (P : Int → Option Pg) (a prot : Int) (j : Nat) {q : Pg} (h : P (a + j) = some q) : protP P a ((j + 1 : Nat) : Int) prot = setP (protP P a j prot) (a + j) (some (prot, q.2)) := by
  funext i
  show (if a ≤ i ∧ i < a + ((j + 1 : Nat) : Int) then (P i).map (fun q => (prot, q.2)) else P i) = if i = a + j then some (prot, q.2) else if a ≤ i ∧ i < a + j then (P i).map (fun q => (prot, q.2)) else P i
  by_cases h2 : i = a + j
  · rw [if_pos h2, if_pos (by omega), h2, h]; rfl
  · rw [if_neg h2]
    by_cases h3 : a ≤ i ∧ i < a + j
    · rw [if_pos h3, if_pos (by omega)]
    · rw [if_neg h3, if_neg (by omega)]
theorem hasF_map (o : Option Pg) (prot f : Int) : hasF (o.map fun q => (prot, q.2)) f = hasF o f := by cases o <;> rfl
theorem cntF_prot (P : Int → Option Pg) (a k prot f : Int) : cntF (protP P a k prot) f = cntF P f := sumN_congr fun i hi => by
  unfold protP
  split
  · exact hasF_map _ _ _
  · rfl
def Protected (s : SB) (n : Nat) (t : St) (sp pm : Nat) (P : Int → Option Pg) (O : Int → Nat) (a k prot : Int) (w : World) (e : Ending) (w' : World) : Prop :=
  e = .returned (VmErr (protE P a k prot)) ∧ VmAfter s n t sp pm O w w' (if protE P a k prot = 0 then protP P a k prot else P) t
set_option maxHeartbeats 1000000 in
set_option maxRecDepth 100000 in
theorem vmProt_any (h : VmOne w s n t sp pm P O) (a k prot : Int) :
    Calls Tryz.prog 15 #[.pointer (some ⟨sp, 0, none⟩), .int .i64 a, .int .i64 k, .int .i64 prot] w (Protected s n t sp pm P O a k prot w) := by
  have H := hid h
  have HR := hid (vright_is a k w)
  unfold Protected
  by_cases hr : RightP a k
  · rw [decide_eq_true hr] at HR
    obtain ⟨r0, r1, r2, r3⟩ := hr
    obtain ⟨k, rfl⟩ : ∃ n : Nat, k = n := ⟨k.toNat, by omega⟩
    have e1 : protE P a k prot = if prot < 1 ∨ 3 < prot then 1 else if (thereN P a k : Int) < k then 7 else 0 := by
      unfold protE
      rw [if_neg (fun h => h ⟨r0, r1, r2, r3⟩), Int.toNat_natCast]
    by_cases hp : prot < 1 ∨ 3 < prot
    · rw [if_pos hp] at e1
      rw [e1]
      by_cases hp1 : prot < 1
      · clear h hp e1
        go_enter Tryz.func15, Tryz.ntmps15
        go_wp2_with fail
        refine HR.out.mono ?_
        rintro e w1 ⟨rfl, rfl⟩
        go_wp2_with fail
        go_ret
        exact ⟨rfl, H.out.same (Turn.refl _ _)⟩
      · have hp2 : 3 < prot := hp.resolve_left hp1
        clear h hp e1
        go_enter Tryz.func15, Tryz.ntmps15
        go_wp2_with fail
        refine HR.out.mono ?_
        rintro e w1 ⟨rfl, rfl⟩
        go_wp2_with fail
        go_ret
        exact ⟨rfl, H.out.same (Turn.refl _ _)⟩
    · rw [if_neg hp] at e1
      have hp1 : ¬ prot < 1 := fun h => hp (.inl h)
      have hp2 : ¬ 3 < prot := fun h => hp (.inr h)
      have HTh := hid (there_is h.space a k r0 (by omega))
      have HAll := hid (there_all (P := P) (a := a) (k := k))
      obtain ⟨T, hT⟩ : ∃ T, thereN P a k = T := ⟨_, rfl⟩
      rw [hT] at HTh e1 HAll
      by_cases ht : T < k
      · have ht' : (T : Int) < k := by omega
        rw [if_pos ht'] at e1
        rw [e1]
        clear h hp e1 hT
        go_enter Tryz.func15, Tryz.ntmps15
        go_wp2_with fail
        refine HR.out.mono ?_
        rintro e w1 ⟨rfl, rfl⟩
        go_wp2_with fail
        refine HTh.out.mono ?_
        rintro e w1 ⟨rfl, t1⟩
        have HT1 := hid t1
        clear t1
        go_wp2_with fail
        go_ret
        exact ⟨rfl, H.out.same HT1.out⟩
      · have ht' : ¬ (T : Int) < k := by omega
        rw [if_neg ht'] at e1
        rw [e1]
        clear h hp e1 hT
        go_enter Tryz.func15, Tryz.ntmps15
        go_wp2_with fail
        refine HR.out.mono ?_
        rintro e w1 ⟨rfl, rfl⟩
        go_wp2_with fail
        refine HTh.out.mono ?_
        rintro e w1 ⟨rfl, t1⟩
        have HT1 := hid t1
        clear t1
        go_wp2_with fail
        go_loopg [33] k (fun gl i wr => ∃ j : Nat, j + gl = k ∧ i = .int .i64 j ∧ Hid (SpIs wr sp pm s.sb (protP P a j prot)) ∧ Hid (Turn (fun q => q = pm) w wr))
        case atStart => exact ⟨0, by omega, rfl, hid (by rw [Int.natCast_zero, protP_start]; exact H.out.space.turned HT1.out id id), hid (HT1.out.mono fun _ _ h => h.elim)⟩
        case round =>
          obtain ⟨j, hj, rfl, hS, hT⟩ := hrel
          by_cases hlt : j < k
          · have hlt' : (j : Int) < k := by omega
            obtain ⟨⟨q1, f⟩, hq⟩ := HAll.out ht j hlt
            have hqj : protP P a j prot (a + j) = some (q1, f) := (protP_at P a prot j).trans hq
            have HMore := hid (protP_more P a prot j hq)
            have HQ := hid hqj
            have c1 := hS.out.c1
            have lk := look_page (hS.out.turned (S := fun _ => False) ((Turn.refl _ _).drew) id id) (a + j)
            rw [hqj] at lk
            simp only [Option.getD_some, encPg] at lk
            obtain ⟨pl, hpl, he⟩ := hS.out.pages
            have HE := hid he
            have hfd := @fldPg
            have hw1 : IntKind.i64.wrap (a + j) = a + j := IntWalk.i64_in _ (by omega)
            have hpd : MapIs wr.drew pm (.int .i64) encI encPg pl := hpl.of_heap rfl
            obtain ⟨w3, hrun, hm3, t3⟩ := hpd.run_update (P := Tryz.prog) keyI Tryz.underlying135 Tryz.underlying3 (a + j) (prot, f)
            have HM3 := hid hm3
            have HT3 : Hid (Turn (fun q => q = pm) wr w3) := hid (Turn.trans' ((Turn.refl _ _).drew) t3 (fun _ _ h => h))
            simp only [encI, encPg] at hrun
            clear hpl he hq hqj hpd hm3 t3
            go_wp2_with fail
            go_region
            go_wp2_with fail
            go_roundg (gk - 1)
            case measure => omega
            case rel =>
              refine ⟨j + 1, by omega, by go_num, hid ?_, hid (hT.out.trans HT3.out)⟩
              rw [HMore.out]
              exact hS.out.put HT3.out HE.out HM3.out (hS.out.dom _ _ HQ.out) (by have := hS.out.ok _ _ HQ.out; exact ⟨by simp only; omega, by simp only; omega, this.2.2⟩)
          · have hlt' : ¬ (j : Int) < k := by omega
            obtain rfl : j = k := by omega
            go_wp2_with fail
            go_ret
            exact ⟨rfl, H.out.ofSp hT.out hS.out (fun f _ => cntF_prot _ _ _ _ _)⟩
  · rw [decide_eq_false hr] at HR
    have e1 : protE P a k prot = 2 := by unfold protE; rw [if_pos hr]
    rw [e1]
    clear h e1
    go_enter Tryz.func15, Tryz.ntmps15
    go_wp2_with fail
    refine HR.out.mono ?_
    rintro e w1 ⟨rfl, rfl⟩
    go_wp2_with fail
    go_ret
    exact ⟨rfl, H.out.same (Turn.refl _ _)⟩
end
end Go.Proofs.YtiohpmcedfbcgabGreatDoor
