/- Several texts of ours in one, in build order (VmAll, RowV, VmKeep). Conditions: each theorem's own premises. -/
import Derived.Test.YtiohpmcedfbcgacGreatDoorVmStore
import Derived.Test.YtiohpmcedfbcgacGreatDoorVmForks
import Derived.Test.YtiohpmcedfbcgacGreatDoorGrow
import Derived.BigRegion
import Derived.MapKept
/- Package vm: a store and all its spaces. No walk. Conditions: each theorem's own premises. -/
namespace Go.Proofs.YtiohpmcedfbcgacGreatDoor
open Go.RowKit
set_option linter.unusedVariables false

structure Spc where
  sp : Nat
  pm : Nat
  P : Int → Option Pg
def sumC (l : List Spc) (f : Int) : Nat := (l.map fun x => cntF x.P f).sum
theorem sum_erase {α : Type} (c : α → Nat) : ∀ (l : List α) (k : Nat) (x : α), l[k]? = some x → (l.map c).sum = ((l.eraseIdx k).map c).sum + c x
  | [], k, x, h => by simp at h
  | y :: l, 0, x, h => by
    simp only [List.getElem?_cons_zero, Option.some.injEq] at h
    subst h
    simp only [List.eraseIdx_cons_zero, List.map_cons, List.sum_cons]
    omega
  | y :: l, k + 1, x, h => by
    simp only [List.getElem?_cons_succ] at h
    have := sum_erase c l k x h
    simp only [List.eraseIdx_cons_succ, List.map_cons, List.sum_cons]
    omega
theorem erase_set {α : Type} : ∀ (l : List α) (k : Nat) (y : α), (l.set k y).eraseIdx k = l.eraseIdx k
  | [], k, y => by simp
  | z :: l, 0, y => rfl
  | z :: l, k + 1, y => by simp [erase_set l k y]
theorem sumC_erase {l : List Spc} {k : Nat} {x : Spc} (h : l[k]? = some x) (f : Int) : sumC l f = sumC (l.eraseIdx k) f + cntF x.P f := sum_erase (fun x : Spc => cntF x.P f) l k x h
theorem sumC_set {l : List Spc} {k : Nat} {x y : Spc} (h : l[k]? = some x) (f : Int) : sumC (l.set k y) f = sumC (l.eraseIdx k) f + cntF y.P f := by
  have hk : k < l.length := (List.getElem?_eq_some_iff.1 h).1
  have h1 := sumC_erase (l := l.set k y) (k := k) (x := y) (by rw [List.getElem?_set_self hk]) f
  rw [erase_set] at h1
  exact h1
theorem sumC_pos {l : List Spc} {k : Nat} {x : Spc} (h : l[k]? = some x) (f : Int) : cntF x.P f ≤ sumC l f := by rw [sumC_erase h]; omega
theorem sumC_append (l : List Spc) (x : Spc) (f : Int) : sumC (l ++ [x]) f = sumC l f + cntF x.P f := by simp [sumC]
theorem sumC_le {l : List Spc} {f : Int} (h : ∀ x ∈ l, cntF x.P f ≤ 1) : sumC l f ≤ l.length := by
  induction l with
  | nil => exact Nat.le_refl _
  | cons x l ih =>
    have h1 := ih (fun y hy => h y (List.mem_cons_of_mem _ hy))
    have h2 := h x (List.mem_cons_self ..)
    unfold sumC at *
    rw [List.map_cons, List.sum_cons, List.length_cons]
    omega

structure VmAll (w : World) (s : SB) (n : Nat) (t : St) (l : List Spc) : Prop where
  store : StoreIs w s n t
  sps : ∀ (k : Nat) (x : Spc), l[k]? = some x → SpIs w x.sp x.pm s.sb x.P
  off : ∀ (k : Nat) (x : Spc), l[k]? = some x → ¬ StFoot s t.vs x.sp ∧ ¬ StFoot s t.vs x.pm
  ap : ∀ (i j : Nat) (x y : Spc), l[i]? = some x → l[j]? = some y → i ≠ j → x.sp ≠ y.pm ∧ x.pm ≠ y.pm ∧ x.sp ≠ y.sp
  refs : ∀ f, 0 ≤ f → t.R f = sumC l f
  one : ∀ (k : Nat) (x : Spc), l[k]? = some x → ∀ f, 0 ≤ f → cntF x.P f ≤ 1
def AllFoot (s : SB) (vs : Nat → Value) (l : List Spc) (k : Nat) : Prop := StFoot s vs k ∨ ∃ (i : Nat) (x : Spc), l[i]? = some x ∧ (k = x.sp ∨ k = x.pm)
section
variable {w w' w1 w2 w3 : World} {s : SB} {n : Nat} {t t' t1 t2 : St} {l : List Spc} {k : Nat} {x : Spc} {P' : Int → Option Pg} {O : Int → Nat}
theorem VmAll.turned {S : Nat → Prop} (h : VmAll w s n t l) (tt : Turn S w w') (hS : ∀ k, AllFoot s t.vs l k → ¬ S k) : VmAll w' s n t l :=
  ⟨h.store.turned tt (fun k hk => hS k (.inl hk)), fun k x hk => (h.sps k x hk).turned tt (hS _ (.inr ⟨k, x, hk, .inl rfl⟩)) (hS _ (.inr ⟨k, x, hk, .inr rfl⟩)), h.off, h.ap, h.refs, h.one⟩
theorem VmAll.foot_lt (h : VmAll w s n t l) (k : Nat) (hk : AllFoot s t.vs l k) : k < w.heap.size := by
  rcases hk with hk | ⟨i, x, hx, rfl | rfl⟩
  · exact h.store.foot_lt k hk
  · exact (h.sps i x hx).lt.1
  · exact (h.sps i x hx).lt.2
theorem VmAll.at (h : VmAll w s n t l) (hk : l[k]? = some x) : VmOne w s n t x.sp x.pm x.P (fun f => sumC (l.eraseIdx k) f) :=
  ⟨h.store, h.sps k x hk, h.off k x hk, fun f hf => (h.refs f hf).trans (sumC_erase hk f), h.one k x hk⟩
/-- What has changed behind a change at one space. -/
def AllAfter (s : SB) (n : Nat) (t : St) (l : List Spc) (w w' : World) (t' : St) (l' : List Spc) : Prop :=
  VmAll w' s n t' l' ∧ Turn (AllFoot s t.vs l) w w' ∧ ∀ k, AllFoot s t'.vs l' k → AllFoot s t.vs l k ∨ w.heap.size ≤ k
theorem AllAfter.refl (h : VmAll w s n t l) : AllAfter s n t l w w t l := ⟨h, Turn.refl _ _, fun _ h => .inl h⟩
theorem AllAfter.same (h : VmAll w s n t l) (tt : Turn (fun _ => False) w w') : AllAfter s n t l w w' t l := ⟨h.turned tt (fun _ _ => id), tt.mono (fun _ _ h => h.elim), fun _ h => .inl h⟩
theorem AllAfter.trans {l1 l2 : List Spc} (h1 : AllAfter s n t l w w1 t1 l1) (h2 : AllAfter s n t1 l1 w1 w2 t2 l2) : AllAfter s n t l w w2 t2 l2 := by
  obtain ⟨a1, b1, c1⟩ := h1
  obtain ⟨a2, b2, c2⟩ := h2
  refine ⟨a2, b1.trans' b2 (fun k hk hf => ?_), fun k hk => ?_⟩
  · rcases c1 k hf with h | h
    · exact h
    · omega
  · rcases c2 k hk with h | h
    · exact c1 k h
    · exact .inr (Nat.le_trans b1.size h)
theorem AllAfter.also {S : Nat → Prop} (h : AllAfter s n t l w w1 t1 l) (tt : Turn S w1 w2) (h1 : ∀ k, S k → w.heap.size ≤ k) (h2 : ∀ k, AllFoot s t1.vs l k → ¬ S k) : AllAfter s n t l w w2 t1 l :=
  ⟨h.1.turned tt h2, h.2.1.trans' tt (fun k hk hs => by have := h1 k hs; omega), h.2.2⟩
theorem AllAfter.before {l' : List Spc} (h : AllAfter s n t l w1 w2 t2 l') (tt : Turn (fun _ => False) w w1) : AllAfter s n t l w w2 t2 l' :=
  ⟨h.1, (tt.mono (fun _ _ h => h.elim)).trans h.2.1, fun k hk => (h.2.2 k hk).imp id (fun h => Nat.le_trans tt.size h)⟩
theorem VmAll.after (h : VmAll w s n t l) (hk : l[k]? = some x) (hA : VmAfter s n t x.sp x.pm (fun f => sumC (l.eraseIdx k) f) w w' P' t') : AllAfter s n t l w w' t' (l.set k ⟨x.sp, x.pm, P'⟩) := by
  obtain ⟨a, b, c⟩ := hA
  have hkl : k < l.length := (List.getElem?_eq_some_iff.1 hk).1
  have hget : ∀ (i : Nat) (y : Spc), (l.set k ⟨x.sp, x.pm, P'⟩)[i]? = some y → (i = k ∧ y = ⟨x.sp, x.pm, P'⟩) ∨ (i ≠ k ∧ l[i]? = some y) := fun i y hi => by
    by_cases e : i = k
    · subst e
      rw [List.getElem?_set_self hkl] at hi
      exact .inl ⟨rfl, (Option.some.inj hi).symm⟩
    · rw [List.getElem?_set_ne (fun e2 => e e2.symm)] at hi
      exact .inr ⟨e, hi⟩
  have hold : ∀ (i : Nat) (y : Spc), (l.set k ⟨x.sp, x.pm, P'⟩)[i]? = some y → ∃ y', l[i]? = some y' ∧ y'.sp = y.sp ∧ y'.pm = y.pm := fun i y hi => by
    rcases hget i y hi with ⟨rfl, rfl⟩ | ⟨_, h2⟩
    · exact ⟨x, hk, rfl, rfl⟩
    · exact ⟨y, h2, rfl, rfl⟩
  have hoff : ∀ (i : Nat) (y : Spc), l[i]? = some y → ¬ StFoot s t'.vs y.sp ∧ ¬ StFoot s t'.vs y.pm := fun i y hy => by
    have h1 := h.off i y hy
    have h2 := (h.sps i y hy).lt
    refine ⟨fun hf => ?_, fun hf => ?_⟩
    · rcases c _ hf with h3 | h3
      · exact h1.1 h3
      · omega
    · rcases c _ hf with h3 | h3
      · exact h1.2 h3
      · omega
  refine ⟨⟨a.store, fun i y hi => ?_, fun i y hi => ?_, fun i j y z hi hj hne => ?_, fun f hf => ?_, fun i y hi => ?_⟩, b.mono (fun j _ hj => ?_), fun j hj => ?_⟩
  · rcases hget i y hi with ⟨rfl, rfl⟩ | ⟨h1, h2⟩
    · exact a.space
    · have h3 := h.ap i k y x h2 hk h1
      have h4 := h.off i y h2
      exact (h.sps i y h2).turned b (fun e => e.elim (fun e => h3.1 e) (fun e => h4.1 e)) (fun e => e.elim (fun e => h3.2.1 e) (fun e => h4.2 e))
  · obtain ⟨y', h1, h2, h3⟩ := hold i y hi
    rw [← h2, ← h3]
    exact hoff i y' h1
  · obtain ⟨y', h1, h2, h3⟩ := hold i y hi
    obtain ⟨z', h4, h5, h6⟩ := hold j z hj
    rw [← h2, ← h3, ← h5, ← h6]
    exact h.ap i j y' z' h1 h4 hne
  · rw [sumC_set hk]
    exact a.refs f hf
  · rcases hget i y hi with ⟨rfl, rfl⟩ | ⟨_, h2⟩
    · exact a.one
    · exact h.one i y h2
  · rcases hj with rfl | hj
    · exact .inr ⟨k, x, hk, .inr rfl⟩
    · exact .inl hj
  · rcases hj with hj | ⟨i, y, hi, hj⟩
    · exact (c j hj).imp .inl id
    · obtain ⟨y', h1, h2, h3⟩ := hold i y hi
      exact .inl (.inr ⟨i, y', h1, by rw [h2, h3]; exact hj⟩)
theorem R_small (h : VmAll w s n t l) (hl : l.length ≤ 100) (f : Int) (hf : 0 ≤ f) : t.R f + 64 ≤ 100000 := by
  have h1 := sumC_le (l := l) (f := f) (fun x hx => by
    obtain ⟨i, hi⟩ := List.getElem?_of_mem hx
    exact h.one i x hi f hf)
  have h2 := h.refs f hf
  omega
theorem VmAll.forked (h : VmAll w s n t l) (hk : l[k]? = some x) {sp2 pm2 : Nat} {rl : List (Int × Nat)} (hS : SpIs w' sp2 pm2 s.sb x.P) (hA : StAfter s n t w w' { t with rl := rl }) (hR : ∀ f, 0 ≤ f → ({ t with rl := rl } : St).R f = t.R f + cntF x.P f) (h1 : w.heap.size ≤ sp2) (h2 : w.heap.size ≤ pm2) :
    AllAfter s n t l w w' { t with rl := rl } (l ++ [⟨sp2, pm2, x.P⟩]) := by
  obtain ⟨a, b, c⟩ := hA
  have hget : ∀ (i : Nat) (y : Spc), (l ++ [(⟨sp2, pm2, x.P⟩ : Spc)])[i]? = some y → (i = l.length ∧ y = ⟨sp2, pm2, x.P⟩) ∨ l[i]? = some y := fun i y hi => by
    by_cases e : i < l.length
    · rw [List.getElem?_append_left e] at hi; exact .inr hi
    · rw [List.getElem?_append_right (by omega)] at hi
      have h3 : i - l.length = 0 := by
        by_cases e2 : i - l.length = 0
        · exact e2
        · rw [List.getElem?_eq_none (by simp; omega)] at hi; cases hi
      rw [h3] at hi
      simp only [List.getElem?_cons_zero, Option.some.injEq] at hi
      exact .inl ⟨by omega, hi.symm⟩
  have hnew : ¬ StFoot s t.vs sp2 ∧ ¬ StFoot s t.vs pm2 := ⟨fun hf => by have := h.store.foot_lt _ hf; omega, fun hf => by have := h.store.foot_lt _ hf; omega⟩
  refine ⟨⟨a, fun i y hi => ?_, fun i y hi => ?_, fun i j y z hi hj hne => ?_, fun f hf => ?_, fun i y hi => ?_⟩, b.mono (fun j _ hj => .inl hj), fun j hj => ?_⟩
  · rcases hget i y hi with ⟨rfl, rfl⟩ | hy
    · exact hS
    · exact (h.sps i y hy).turned b (h.off i y hy).1 (h.off i y hy).2
  · rcases hget i y hi with ⟨rfl, rfl⟩ | hy
    · exact hnew
    · exact h.off i y hy
  · rcases hget i y hi with ⟨rfl, rfl⟩ | hy
    · rcases hget j z hj with ⟨rfl, rfl⟩ | hz
      · exact absurd rfl hne
      · have h3 := (h.sps j z hz).lt
        exact ⟨by simp only; omega, by simp only; omega, by simp only; omega⟩
    · rcases hget j z hj with ⟨rfl, rfl⟩ | hz
      · have h3 := (h.sps i y hy).lt
        exact ⟨by simp only; omega, by simp only; omega, by simp only; omega⟩
      · exact h.ap i j y z hy hz hne
  · rw [hR f hf, sumC_append, h.refs f hf]
  · rcases hget i y hi with ⟨rfl, rfl⟩ | hy
    · exact h.one k x hk
    · exact h.one i y hy
  · rcases hj with hj | ⟨i, y, hi, hj⟩
    · exact .inl (.inl hj)
    · rcases hget i y hi with ⟨rfl, rfl⟩ | hy
      · right
        rcases hj with rfl | rfl
        · exact h1
        · exact h2
      · exact .inl (.inr ⟨i, y, hy, hj⟩)

/-- Sums over frames and pages. -/
theorem cntB_sum (g : Nat → Bool) : ∀ k, cntB g k = sumN (fun i => if g i then 1 else 0) k
  | 0 => rfl
  | k + 1 => by
    rw [cntB_succ, cntB_sum g k]
    rfl
theorem sumN_swap (c : Nat → Nat → Nat) (m : Nat) : ∀ k, sumN (fun f => sumN (fun i => c f i) m) k = sumN (fun i => sumN (fun f => c f i) k) m
  | 0 => (sumN_zero (fun _ _ => rfl)).symm
  | k + 1 => by
    show sumN (fun f => sumN (fun i => c f i) m) k + sumN (fun i => c k i) m = sumN (fun i => sumN (fun f => c f i) k + c k i) m
    rw [sumN_swap c m k, sumN_add]
theorem sumN_has (o : Option Pg) (n : Nat) (h : ∀ q, o = some q → q.2 < n) : sumN (fun f => hasF o (f : Int)) n = resO o := by
  cases o with
  | none => exact sumN_zero (fun _ _ => rfl)
  | some q =>
    have hq := h q rfl
    show _ = if 0 ≤ q.2 then 1 else 0
    by_cases h0 : 0 ≤ q.2
    · rw [if_pos h0]
      have h1 := sumN_upd (fun _ => 0) q.2.toNat 1 n (by omega)
      have h2 : sumN (fun _ => 0) n = 0 := sumN_zero (fun _ _ => rfl)
      have e : sumN (fun f => hasF (some q) (f : Int)) n = sumN (fun j => if j = q.2.toNat then 1 else 0) n := sumN_congr fun j _ => by
        rw [hasF_some]
        by_cases e : q.2 = (j : Int)
        · rw [if_pos e, if_pos (by omega)]
        · rw [if_neg e, if_neg (by omega)]
      rw [e]
      omega
    · rw [if_neg h0]
      exact sumN_zero (fun j _ => by rw [hasF_some, if_neg (by omega)])
theorem res_sum {P : Int → Option Pg} (n : Nat) (h : ∀ i q, P i = some q → q.2 < n) : sumN (fun f => cntF P (f : Int)) n = resP P := by
  show sumN (fun f => sumN (fun i => hasF (P (i : Int)) (f : Int)) 64) n = _
  rw [sumN_swap (fun f i => hasF (P (i : Int)) (f : Int)) 64 n]
  exact sumN_congr fun i _ => sumN_has _ n (h i)
theorem VmAll.frames_lt (h : VmAll w s n t l) (hk : l[k]? = some x) (i : Int) (q : Pg) (hq : x.P i = some q) : q.2 < n := by
  by_cases h0 : 0 ≤ q.2
  · have hd := (h.sps k x hk).dom i q hq
    have h1 := cntF_ge (P := x.P) (i := i) (f := q.2) hd.1 hd.2
    rw [hq, hasF_some, if_pos rfl] at h1
    have h2 := h.refs q.2 h0
    have h3 := sumC_pos hk q.2
    exact (h.store.frame (f := q.2) (by omega)).2
  · omega
theorem VmAll.most (h : VmAll w s n t l) (hk : l[k]? = some x) : resP x.P ≤ usedN t.R n := by
  rw [← res_sum n (h.frames_lt hk)]
  unfold usedN
  rw [cntB_sum]
  refine sumN_le fun f hf => ?_
  have h1 := h.one k x hk (f : Int) (by omega)
  have h2 := h.refs (f : Int) (by omega)
  have h3 := sumC_pos hk (f : Int)
  by_cases e : 0 < t.R (f : Int)
  · simp [e]; omega
  · simp [e]; omega
def sumR (l : List Spc) : Nat := (l.map fun x => resP x.P).sum
theorem sumR_le : ∀ l : List Spc, sumR l ≤ l.length * 64
  | [] => Nat.zero_le _
  | x :: l => by
    have h1 := sumR_le l
    have h2 := resP_le x.P
    unfold sumR at *
    rw [List.map_cons, List.sum_cons, List.length_cons]
    omega
theorem sumN_list (c : Spc → Nat → Nat) (n : Nat) : ∀ l : List Spc, sumN (fun f => (l.map fun x => c x f).sum) n = (l.map fun x => sumN (c x) n).sum
  | [] => sumN_zero (fun _ _ => rfl)
  | x :: l => by
    have h1 := sumN_list c n l
    show sumN (fun f => c x f + (l.map fun x => c x f).sum) n = sumN (c x) n + _
    rw [sumN_add, h1]
    rfl
theorem VmAll.sum (h : VmAll w s n t l) : usedN t.R n ≤ sumR l := by
  have e : sumR l = sumN (fun f => sumC l (f : Int)) n := by
    unfold sumC
    rw [sumN_list (fun x f => cntF x.P (f : Int)) n l]
    unfold sumR
    congr 1
    refine List.map_congr_left fun x hx => ?_
    obtain ⟨k, hk⟩ := List.getElem?_of_mem hx
    exact (res_sum n (h.frames_lt hk)).symm
  rw [e]
  unfold usedN
  rw [cntB_sum]
  refine sumN_le fun f hf => ?_
  have h2 := h.refs (f : Int) (by omega)
  rw [← h2]
  by_cases e : 0 < t.R (f : Int)
  · simp [e]; omega
  · simp [e]
theorem sumC_none {l : List Spc} (h : ∀ (i : Nat) (y : Spc), l[i]? = some y → y.P = fun _ => none) (f : Int) : sumC l f = 0 := by
  have h' : ∀ y ∈ l, y.P = fun _ => none := fun y hy => by
    obtain ⟨i, hi⟩ := List.getElem?_of_mem hy
    exact h i y hi
  clear h
  induction l with
  | nil => rfl
  | cons x l ih =>
    have h1 := ih (fun y hy => h' y (List.mem_cons_of_mem _ hy))
    show cntF x.P f + sumC l f = 0
    rw [h1, h' x (List.mem_cons_self ..)]
    have : cntF (fun _ => none) f = 0 := sumN_zero (fun _ _ => rfl)
    omega
theorem VmAll.empty (h : VmAll w s n t l) (hn : ∀ (i : Nat) (y : Spc), l[i]? = some y → y.P = fun _ => none) : usedN t.R n = 0 := by
  unfold usedN
  rw [cntB_sum]
  exact sumN_zero (fun i _ => by rw [h.refs (i : Int) (by omega), sumC_none hn]; rfl)
theorem VmAll.first (h : StoreIs w s n t) (hR : ∀ f, t.R f = 0) {sp pm : Nat} (hs : SpIs w sp pm s.sb (fun _ => none)) (ho : ¬ StFoot s t.vs sp ∧ ¬ StFoot s t.vs pm) : VmAll w s n t [⟨sp, pm, fun _ => none⟩] := by
  have hget : ∀ (i : Nat) (y : Spc), [(⟨sp, pm, fun _ => none⟩ : Spc)][i]? = some y → i = 0 ∧ y = ⟨sp, pm, fun _ => none⟩ := fun i y hi => by
    cases i with
    | zero => exact ⟨rfl, (Option.some.inj hi).symm⟩
    | succ i => simp at hi
  have hz : ∀ f, cntF (fun _ => none) f = 0 := fun f => sumN_zero (fun _ _ => rfl)
  refine ⟨h, fun i y hi => ?_, fun i y hi => ?_, fun i j y z hi hj hne => ?_, fun f hf => ?_, fun i y hi f hf => ?_⟩
  · obtain ⟨_, rfl⟩ := hget i y hi; exact hs
  · obtain ⟨_, rfl⟩ := hget i y hi; exact ho
  · exact absurd ((hget i y hi).1.trans (hget j z hj).1.symm) hne
  · rw [hR f]; show 0 = cntF _ f + 0; rw [hz]
  · obtain ⟨_, rfl⟩ := hget i y hi; rw [hz]; omega
end
end Go.Proofs.YtiohpmcedfbcgacGreatDoor
/- A slice of one-cell values in a block of its own: shape, cells, append. No program in sight. Conditions: each theorem's own premises. -/
namespace Go.Proofs.YtiohpmcedfbcgacGreatDoor
open Go.RowKit
set_option linter.unusedVariables false

/-- v is a slice of the values xs (of type e), in a block of its own. -/
def RowV (w : World) (e : TypeId) (v : Value) (xs : List Value) : Prop := w.ownsRow 0 e 1 v xs.length xs
theorem RowV.shape {w : World} {e : TypeId} {v : Value} {xs : List Value} (h : RowV w e v xs) : (v = .slice none 0 0 ∧ xs = []) ∨ ∃ g cap, v = .slice (some ⟨g, 0, none⟩) xs.length cap ∧ xs.length ≤ cap ∧ cap ≤ maxLen ∧ g < w.heap.size := by
  obtain ⟨_, h0 | ⟨g, cap, cur, rfl, _, hg, h1, h2, _⟩⟩ := h
  · exact .inl ⟨h0.1, List.length_eq_zero_iff.1 h0.2⟩
  · exact .inr ⟨g, cap, rfl, h1, h2, (Array.getElem?_eq_some_iff.1 hg).1⟩
theorem RowV.slice {w : World} {e : TypeId} {v : Value} {xs : List Value} (h : RowV w e v xs) : ∃ a cap, v = .slice a xs.length cap := by
  rcases h.shape with ⟨rfl, rfl⟩ | ⟨g, cap, rfl, _⟩
  · exact ⟨none, 0, rfl⟩
  · exact ⟨_, _, rfl⟩
theorem RowV.cell {w : World} {e : TypeId} {g cap : Nat} {xs : List Value} (h : RowV w e (.slice (some ⟨g, 0, none⟩) xs.length cap) xs) (j : Nat) (x : Value) (hj : xs[j]? = some x) : w.cell? ⟨g, j, none⟩ = some x := by
  have hl := (List.getElem?_eq_some_iff.1 hj).1
  rw [World.ownsRow.cellAt h j (by omega), hj]
theorem RowV.frozen {w : World} {e : TypeId} {g cap : Nat} {xs : List Value} (h : RowV w e (.slice (some ⟨g, 0, none⟩) xs.length cap) xs) (j : Nat) : w.frozen? ⟨g, j, none⟩ = false := World.ownsRow.frozenAt h j
theorem RowV.turned {S : Nat → Prop} {w w' : World} {e : TypeId} {v : Value} {xs : List Value} (h : RowV w e v xs) (t : Turn S w w') (hn : ∀ g, v.ownBlock = some g → ¬ S g) : RowV w' e v xs := by
  refine ⟨h.1, ?_⟩
  rcases h.2 with h0 | ⟨g, cap, cur, rfl, hb, hg, r⟩
  · exact .inl h0
  · exact .inr ⟨g, cap, cur, rfl, hb, (t.block g (Array.getElem?_eq_some_iff.1 hg).1 (hn g rfl)).trans hg, r⟩
theorem RowV.own_lt {w : World} {e : TypeId} {v : Value} {xs : List Value} (h : RowV w e v xs) (g : Nat) (hg : v.ownBlock = some g) : g < w.heap.size := by
  rcases h.shape with ⟨rfl, _⟩ | ⟨g', cap, rfl, _, _, hl⟩
  · cases hg
  · cases hg; exact hl
/-- One value, made new. -/
theorem RowV.one (w : World) (e : TypeId) (x : Value) : RowV (w.alloc (.cells #[x] e)) e (.slice (some ⟨w.heap.size, 0, none⟩) 1 1) [x] := by
  refine ⟨by simp, .inr ⟨w.heap.size, 1, #[x], rfl, Nat.zero_le _, (MapKept.heap_alloc w _).1, by simp, by unfold maxLen; omega, by simp, by simp⟩⟩
theorem wpList_append_val {P : Program} {ops : Array Oper} {rest : List Oper} {o : Oper} {a : Act} {w : World} {Q : Exit → Act → World → Prop} {e t : TypeId} {z : Value} {bytes : Nat}
    (hg : o.guard = none) (s x : Operand) (hop : o.op = Op.call { callee := Callee.builtin Builtin.append, args := #[s, x], argTypes := #[t, t] }) (hT : P.underlying t = some (.slice e)) (hI : (P.info? e).map (fun i => (i.zero, i.size, i.bytes)) = some (some z, 1, bytes)) (hz : z.cells.size = 1) (hb : bytes ≤ 16)
    (v : Value) (xs : List Value) (hs : a.eval s = v) (hi : RowV w e v xs) (b0 c : Nat) (y : Value) (hx : a.eval x = .slice (some ⟨b0, 0, none⟩) 1 c) (hc : w.cell? ⟨b0, 0, none⟩ = some y) (h1 : y.oneCell' = true) (hl : xs.length ≤ 1000000)
    (hK : ∀ g cap w', RowV w' e (.slice (some ⟨g, 0, none⟩) (xs.length + 1) cap) (xs ++ [y]) → Turn (fun j => v.ownBlock = some j) w w' → (v.ownBlock = some g ∨ w.heap.size ≤ g) → wpList P ops Q rest (a.put o.dst (.slice (some ⟨g, 0, none⟩) (xs.length + 1) cap)) w') :
    wpList P ops Q (o :: rest) a w := by
  obtain ⟨i0, hi0, hz0, hz1, hz2⟩ := info_split hI
  refine wpList_append_at hg s x t hop e i0 z 1 bytes hT hi0 hz0 hz1 hz2 hz (by decide) v xs.length _ hs hi ⟨b0, 0, none⟩ 1 c [y] hx rfl ?_ ?_ (.inl (by decide)) (by unfold maxLen; omega) (by
    have h2 : (xs.length + 1) * bytes ≤ 1000001 * 16 := Nat.mul_le_mul (by omega) hb
    omega) ?_
  · intro j u hj
    rw [Addr.add_mid]
    cases j with
    | zero => simp at hj; subst hj; exact hc
    | succ j => simp at hj
  · intro u hu; simp at hu; subst hu; exact h1
  · intro g cap w' r1 r2 r3
    refine hK g cap w' ?_ r2 r3
    unfold RowV
    rw [List.length_append, List.length_singleton]
    exact r1
theorem step_append_val {P : Program} {ops : Array Oper} {o : Oper} {a : Act} {w : World} {K : Act → World → Prop} {Q : Exit → Act → World → Prop} {E : Prop} {e t : TypeId} {z : Value} {bytes : Nat}
    (hg : o.guard = none) (s x : Operand) (hop : o.op = Op.call { callee := Callee.builtin Builtin.append, args := #[s, x], argTypes := #[t, t] }) (hT : P.underlying t = some (.slice e)) (hI : (P.info? e).map (fun i => (i.zero, i.size, i.bytes)) = some (some z, 1, bytes)) (hz : z.cells.size = 1) (hb : bytes ≤ 16)
    (v : Value) (xs : List Value) (hs : a.eval s = v) (hi : RowV w e v xs) (b0 c : Nat) (y : Value) (hx : a.eval x = .slice (some ⟨b0, 0, none⟩) 1 c) (hc : w.cell? ⟨b0, 0, none⟩ = some y) (h1 : y.oneCell' = true) (hl : xs.length ≤ 1000000)
    (hK : ∀ g cap w', RowV w' e (.slice (some ⟨g, 0, none⟩) (xs.length + 1) cap) (xs ++ [y]) → Turn (fun j => v.ownBlock = some j) w w' → (v.ownBlock = some g ∨ w.heap.size ≤ g) → K (a.put o.dst (.slice (some ⟨g, 0, none⟩) (xs.length + 1) cap)) w') :
    if Region.wanted o (yielded ops a.tmps) = true then Oper.wp P o a w K Q else E := by
  obtain ⟨i0, hi0, hz0, hz1, hz2⟩ := info_split hI
  refine step_append_at hg s x t hop e i0 z 1 bytes hT hi0 hz0 hz1 hz2 hz (by decide) v xs.length _ hs hi ⟨b0, 0, none⟩ 1 c [y] hx rfl ?_ ?_ (.inl (by decide)) (by unfold maxLen; omega) (by
    have h2 : (xs.length + 1) * bytes ≤ 1000001 * 16 := Nat.mul_le_mul (by omega) hb
    omega) ?_
  · intro j u hj
    rw [Addr.add_mid]
    cases j with
    | zero => simp at hj; subst hj; exact hc
    | succ j => simp at hj
  · intro u hu; simp at hu; subst hu; exact h1
  · intro g cap w' r1 r2 r3
    refine hK g cap w' ?_ r2 r3
    unfold RowV
    rw [List.length_append, List.length_singleton]
    exact r1
end Go.Proofs.YtiohpmcedfbcgacGreatDoor
/- What the vm laws keep from round to round: all spaces, and the slice of them. No walk. Conditions: each theorem's own premises. -/
namespace Go.Proofs.YtiohpmcedfbcgacGreatDoor
open Go.RowKit
set_option linter.unusedVariables false

structure VKeep (W w : World) (s : SB) (n : Nat) (t : St) (l : List Spc) : Prop where
  all : VmAll w s n t l
  turn : Turn (fun _ => False) W w
  new : ∀ k, AllFoot s t.vs l k → W.heap.size ≤ k
def ptrOf (x : Spc) : Value := .pointer (some ⟨x.sp, 0, none⟩)
/-- The slice of the spaces. -/
structure VList (W w : World) (v : Value) (s : SB) (vs : Nat → Value) (l : List Spc) : Prop where
  row : RowV w 30 v (l.map ptrOf)
  own : ∀ q, v.ownBlock = some q → W.heap.size ≤ q ∧ ¬ AllFoot s vs l q
section
variable {W w w' : World} {s : SB} {n : Nat} {t t' : St} {l l' : List Spc} {v : Value}
theorem VKeep.next (h : VKeep W w s n t l) (hA : AllAfter s n t l w w' t' l') : VKeep W w' s n t' l' :=
  ⟨hA.1, h.turn.trans' hA.2.1 (fun k hk hf => by have := h.new k hf; omega), fun k hk => by
    rcases hA.2.2 k hk with h1 | h1
    · exact h.new k h1
    · exact Nat.le_trans h.turn.size h1⟩
theorem VKeep.still (h : VKeep W w s n t l) (tt : Turn (fun _ => False) w w') : VKeep W w' s n t l := h.next (.same h.all tt)
theorem VKeep.own (h : VKeep W w s n t l) {S : Nat → Prop} (tt : Turn S w w') (h1 : ∀ k, S k → W.heap.size ≤ k) (h2 : ∀ k, AllFoot s t.vs l k → ¬ S k) : VKeep W w' s n t l :=
  ⟨h.all.turned tt h2, h.turn.trans' tt (fun k hk hs => by have := h1 k hs; omega), h.new⟩
theorem VList.still (h : VList W w v s t.vs l) (tt : Turn (fun _ => False) w w') : VList W w' v s t.vs l := ⟨h.row.turned tt (fun _ _ => id), h.own⟩
theorem VList.next (h : VList W w v s t.vs l) (hA : AllAfter s n t l w w' t' l') (hp : l'.map ptrOf = l.map ptrOf) : VList W w' v s t'.vs l' := by
  have hlt := h.row.own_lt
  refine ⟨?_, fun q hq => ⟨(h.own q hq).1, fun hf => ?_⟩⟩
  · rw [hp]
    exact h.row.turned hA.2.1 (fun g hg => (h.own g hg).2)
  · rcases hA.2.2 q hf with h1 | h1
    · exact (h.own q hq).2 h1
    · have := hlt q hq; omega
theorem map_set_ptr {k : Nat} {x : Spc} {P' : Int → Option Pg} (hk : l[k]? = some x) : (l.set k ⟨x.sp, x.pm, P'⟩).map ptrOf = l.map ptrOf := by
  rw [List.map_set]
  have e : ptrOf ⟨x.sp, x.pm, P'⟩ = ptrOf x := rfl
  rw [e]
  have hkl : k < l.length := (List.getElem?_eq_some_iff.1 hk).1
  apply List.ext_getElem?
  intro i
  by_cases e : k = i
  · subst e
    rw [List.getElem?_set_self (by simpa using hkl), List.getElem?_map, hk]; rfl
  · rw [List.getElem?_set_ne e]
theorem VList.cell {g cap : Nat} (h : VList W w (.slice (some ⟨g, 0, none⟩) l.length cap) s t.vs l) (k : Nat) (x : Spc) (hk : l[k]? = some x) : w.cell? ⟨g, k, none⟩ = some (.pointer (some ⟨x.sp, 0, none⟩)) := by
  have h1 : RowV w 30 (.slice (some ⟨g, 0, none⟩) (l.map ptrOf).length cap) (l.map ptrOf) := by rw [List.length_map]; exact h.row
  exact h1.cell k (ptrOf x) (by rw [List.getElem?_map, hk]; rfl)
theorem VList.slice (h : VList W w v s t.vs l) (hl : l ≠ []) : ∃ g cap, v = .slice (some ⟨g, 0, none⟩) l.length cap := by
  rcases h.row.shape with ⟨_, h0⟩ | ⟨g, cap, h1, _⟩
  · exact absurd (List.map_eq_nil_iff.1 h0) hl
  · rw [List.length_map] at h1
    exact ⟨g, cap, h1⟩
theorem VList.grown {w1 w2 w3 : World} {x : Spc} {t1 : St} {g k cap : Nat} (h : VList W w v s t.vs l) (hK : VKeep W w s n t l) (hAA : AllAfter s n t l w w1 t1 (l ++ [x])) (ta : Turn (fun _ => False) w1 w2)
    (hr : RowV w3 30 (.slice (some ⟨g, 0, none⟩) k cap) (l.map ptrOf ++ [ptrOf x])) (tt : Turn (fun j => v.ownBlock = some j) w2 w3) (hg : v.ownBlock = some g ∨ w2.heap.size ≤ g) :
    VKeep W w3 s n t1 (l ++ [x]) ∧ VList W w3 (.slice (some ⟨g, 0, none⟩) k cap) s t1.vs (l ++ [x]) := by
  have hK2 := (hK.next hAA).still ta
  have hno : ∀ q, v.ownBlock = some q → ¬ AllFoot s t1.vs (l ++ [x]) q := fun q hq hf => by
    rcases hAA.2.2 q hf with h1 | h1
    · exact (h.own q hq).2 h1
    · have := h.row.own_lt q hq; omega
  refine ⟨hK2.own tt (fun q hq => (h.own q hq).1) (fun q hf hq => hno q hq hf), ⟨?_, fun q hq => ?_⟩⟩
  · rw [List.map_append]; exact hr
  · cases hq
    rcases hg with h1 | h1
    · exact ⟨(h.own _ h1).1, hno _ h1⟩
    · exact ⟨Nat.le_trans hK2.turn.size h1, fun hf => by have : g < w2.heap.size := hK2.all.foot_lt _ hf; omega⟩
theorem used_same {R R' C : Int → Nat} {n : Nat} (h : ∀ f, 0 ≤ f → R' f = R f + C f) (hc : ∀ f, 0 ≤ f → C f ≤ R f) : usedN R' n = usedN R n := by
  refine cntB_congr fun f hf => ?_
  have h1 := h (f : Int) (by omega)
  have h2 := hc (f : Int) (by omega)
  by_cases e : 0 < R (f : Int)
  · rw [decide_eq_true e, decide_eq_true (by omega)]
  · rw [decide_eq_false e, decide_eq_false (by omega)]
theorem used_eq {R R' : Int → Nat} {n : Nat} (h : ∀ f, 0 ≤ f → R' f = R f) : usedN R' n = usedN R n := used_same (C := fun _ => 0) (fun f hf => by rw [h f hf]; rfl) (fun _ _ => Nat.zero_le _)
theorem usedN_le (R : Int → Nat) (n : Nat) : usedN R n ≤ n := cntB_le _ _
end
end Go.Proofs.YtiohpmcedfbcgacGreatDoor
