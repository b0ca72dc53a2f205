/- Several texts of ours in one, in build order (VmAll, RefVm, RefUse, RefChange, RefUnmap, RefProt, RefStore, RefStoreNew, RefSpFork). Conditions: each theorem's own premises. -/
import Derived.Test.YtiohpmcedfbcgabGreatDoorVmStore
import Derived.Test.YtiohpmcedfbcgabGreatDoorVmForks
/- Package vm: a store and all its spaces. No walk. Conditions: each theorem's own premises. -/
namespace Go.Proofs.YtiohpmcedfbcgabGreatDoor
open Go.RowKit
set_option linter.unusedVariables false

structure Spc where
  sp : Nat
  pm : Nat
  P : Int → Option Pg
def sumC (l : List Spc) (f : Int) : Nat := (l.map fun x => cntF x.P f).sum
theorem sum_erase {α : Type} (c : α → Nat) : ∀ (l : List α) (k : Nat) (x : α), l[k]? = some x → (l.map c).sum = ((l.eraseIdx k).map c).sum + c x
  | [], k, x, h => by simp at h
  | y :: l, 0, x, h => by
    simp only [List.getElem?_cons_zero, Option.some.injEq] at h
    subst h
    simp only [List.eraseIdx_cons_zero, List.map_cons, List.sum_cons]
    omega
  | y :: l, k + 1, x, h => by
    simp only [List.getElem?_cons_succ] at h
    have := sum_erase c l k x h
    simp only [List.eraseIdx_cons_succ, List.map_cons, List.sum_cons]
    omega
theorem erase_set {α : Type} : ∀ (l : List α) (k : Nat) (y : α), (l.set k y).eraseIdx k = l.eraseIdx k
  | [], k, y => by simp
  | z :: l, 0, y => rfl
  | z :: l, k + 1, y => by simp [erase_set l k y]
theorem sumC_erase {l : List Spc} {k : Nat} {x : Spc} (h : l[k]? = some x) (f : Int) : sumC l f = sumC (l.eraseIdx k) f + cntF x.P f := sum_erase (fun x : Spc => cntF x.P f) l k x h
theorem sumC_set {l : List Spc} {k : Nat} {x y : Spc} (h : l[k]? = some x) (f : Int) : sumC (l.set k y) f = sumC (l.eraseIdx k) f + cntF y.P f := by
  have hk : k < l.length := (List.getElem?_eq_some_iff.1 h).1
  have h1 := sumC_erase (l := l.set k y) (k := k) (x := y) (by rw [List.getElem?_set_self hk]) f
  rw [erase_set] at h1
  exact h1
theorem sumC_pos {l : List Spc} {k : Nat} {x : Spc} (h : l[k]? = some x) (f : Int) : cntF x.P f ≤ sumC l f := by rw [sumC_erase h]; omega
theorem sumC_append (l : List Spc) (x : Spc) (f : Int) : sumC (l ++ [x]) f = sumC l f + cntF x.P f := by simp [sumC]
theorem sumC_le {l : List Spc} {f : Int} (h : ∀ x ∈ l, cntF x.P f ≤ 1) : sumC l f ≤ l.length := by
  induction l with
  | nil => exact Nat.le_refl _
  | cons x l ih =>
    have h1 := ih (fun y hy => h y (List.mem_cons_of_mem _ hy))
    have h2 := h x (List.mem_cons_self ..)
    unfold sumC at *
    rw [List.map_cons, List.sum_cons, List.length_cons]
    omega

structure VmAll (w : World) (s : SB) (n : Nat) (t : St) (l : List Spc) : Prop where
  store : StoreIs w s n t
  sps : ∀ (k : Nat) (x : Spc), l[k]? = some x → SpIs w x.sp x.pm s.sb x.P
  off : ∀ (k : Nat) (x : Spc), l[k]? = some x → ¬ StFoot s t.vs x.sp ∧ ¬ StFoot s t.vs x.pm
  ap : ∀ (i j : Nat) (x y : Spc), l[i]? = some x → l[j]? = some y → i ≠ j → x.sp ≠ y.pm ∧ x.pm ≠ y.pm ∧ x.sp ≠ y.sp
  refs : ∀ f, 0 ≤ f → t.R f = sumC l f
  one : ∀ (k : Nat) (x : Spc), l[k]? = some x → ∀ f, 0 ≤ f → cntF x.P f ≤ 1
def AllFoot (s : SB) (vs : Nat → Value) (l : List Spc) (k : Nat) : Prop := StFoot s vs k ∨ ∃ (i : Nat) (x : Spc), l[i]? = some x ∧ (k = x.sp ∨ k = x.pm)
section
variable {w w' w1 w2 w3 : World} {s : SB} {n : Nat} {t t' t1 t2 : St} {l : List Spc} {k : Nat} {x : Spc} {P' : Int → Option Pg} {O : Int → Nat}
theorem VmAll.turned {S : Nat → Prop} (h : VmAll w s n t l) (tt : Turn S w w') (hS : ∀ k, AllFoot s t.vs l k → ¬ S k) : VmAll w' s n t l :=
  ⟨h.store.turned tt (fun k hk => hS k (.inl hk)), fun k x hk => (h.sps k x hk).turned tt (hS _ (.inr ⟨k, x, hk, .inl rfl⟩)) (hS _ (.inr ⟨k, x, hk, .inr rfl⟩)), h.off, h.ap, h.refs, h.one⟩
theorem VmAll.foot_lt (h : VmAll w s n t l) (k : Nat) (hk : AllFoot s t.vs l k) : k < w.heap.size := by
  rcases hk with hk | ⟨i, x, hx, rfl | rfl⟩
  · exact h.store.foot_lt k hk
  · exact (h.sps i x hx).lt.1
  · exact (h.sps i x hx).lt.2
theorem VmAll.at (h : VmAll w s n t l) (hk : l[k]? = some x) : VmOne w s n t x.sp x.pm x.P (fun f => sumC (l.eraseIdx k) f) :=
  ⟨h.store, h.sps k x hk, h.off k x hk, fun f hf => (h.refs f hf).trans (sumC_erase hk f), h.one k x hk⟩
/-- What has changed behind a change at one space. -/
def AllAfter (s : SB) (n : Nat) (t : St) (l : List Spc) (w w' : World) (t' : St) (l' : List Spc) : Prop :=
  VmAll w' s n t' l' ∧ Turn (AllFoot s t.vs l) w w' ∧ ∀ k, AllFoot s t'.vs l' k → AllFoot s t.vs l k ∨ w.heap.size ≤ k
theorem AllAfter.refl (h : VmAll w s n t l) : AllAfter s n t l w w t l := ⟨h, Turn.refl _ _, fun _ h => .inl h⟩
theorem AllAfter.same (h : VmAll w s n t l) (tt : Turn (fun _ => False) w w') : AllAfter s n t l w w' t l := ⟨h.turned tt (fun _ _ => id), tt.mono (fun _ _ h => h.elim), fun _ h => .inl h⟩
theorem AllAfter.trans {l1 l2 : List Spc} (h1 : AllAfter s n t l w w1 t1 l1) (h2 : AllAfter s n t1 l1 w1 w2 t2 l2) : AllAfter s n t l w w2 t2 l2 := by
  obtain ⟨a1, b1, c1⟩ := h1
  obtain ⟨a2, b2, c2⟩ := h2
  refine ⟨a2, b1.trans' b2 (fun k hk hf => ?_), fun k hk => ?_⟩
  · rcases c1 k hf with h | h
    · exact h
    · omega
  · rcases c2 k hk with h | h
    · exact c1 k h
    · exact .inr (Nat.le_trans b1.size h)
theorem AllAfter.also {S : Nat → Prop} (h : AllAfter s n t l w w1 t1 l) (tt : Turn S w1 w2) (h1 : ∀ k, S k → w.heap.size ≤ k) (h2 : ∀ k, AllFoot s t1.vs l k → ¬ S k) : AllAfter s n t l w w2 t1 l :=
  ⟨h.1.turned tt h2, h.2.1.trans' tt (fun k hk hs => by have := h1 k hs; omega), h.2.2⟩
theorem AllAfter.before {l' : List Spc} (h : AllAfter s n t l w1 w2 t2 l') (tt : Turn (fun _ => False) w w1) : AllAfter s n t l w w2 t2 l' :=
  ⟨h.1, (tt.mono (fun _ _ h => h.elim)).trans h.2.1, fun k hk => (h.2.2 k hk).imp id (fun h => Nat.le_trans tt.size h)⟩
theorem VmAll.after (h : VmAll w s n t l) (hk : l[k]? = some x) (hA : VmAfter s n t x.sp x.pm (fun f => sumC (l.eraseIdx k) f) w w' P' t') : AllAfter s n t l w w' t' (l.set k ⟨x.sp, x.pm, P'⟩) := by
  obtain ⟨a, b, c⟩ := hA
  have hkl : k < l.length := (List.getElem?_eq_some_iff.1 hk).1
  have hget : ∀ (i : Nat) (y : Spc), (l.set k ⟨x.sp, x.pm, P'⟩)[i]? = some y → (i = k ∧ y = ⟨x.sp, x.pm, P'⟩) ∨ (i ≠ k ∧ l[i]? = some y) := fun i y hi => by
    by_cases e : i = k
    · subst e
      rw [List.getElem?_set_self hkl] at hi
      exact .inl ⟨rfl, (Option.some.inj hi).symm⟩
    · rw [List.getElem?_set_ne (fun e2 => e e2.symm)] at hi
      exact .inr ⟨e, hi⟩
  have hold : ∀ (i : Nat) (y : Spc), (l.set k ⟨x.sp, x.pm, P'⟩)[i]? = some y → ∃ y', l[i]? = some y' ∧ y'.sp = y.sp ∧ y'.pm = y.pm := fun i y hi => by
    rcases hget i y hi with ⟨rfl, rfl⟩ | ⟨_, h2⟩
    · exact ⟨x, hk, rfl, rfl⟩
    · exact ⟨y, h2, rfl, rfl⟩
  have hoff : ∀ (i : Nat) (y : Spc), l[i]? = some y → ¬ StFoot s t'.vs y.sp ∧ ¬ StFoot s t'.vs y.pm := fun i y hy => by
    have h1 := h.off i y hy
    have h2 := (h.sps i y hy).lt
    refine ⟨fun hf => ?_, fun hf => ?_⟩
    · rcases c _ hf with h3 | h3
      · exact h1.1 h3
      · omega
    · rcases c _ hf with h3 | h3
      · exact h1.2 h3
      · omega
  refine ⟨⟨a.store, fun i y hi => ?_, fun i y hi => ?_, fun i j y z hi hj hne => ?_, fun f hf => ?_, fun i y hi => ?_⟩, b.mono (fun j _ hj => ?_), fun j hj => ?_⟩
  · rcases hget i y hi with ⟨rfl, rfl⟩ | ⟨h1, h2⟩
    · exact a.space
    · have h3 := h.ap i k y x h2 hk h1
      have h4 := h.off i y h2
      exact (h.sps i y h2).turned b (fun e => e.elim (fun e => h3.1 e) (fun e => h4.1 e)) (fun e => e.elim (fun e => h3.2.1 e) (fun e => h4.2 e))
  · obtain ⟨y', h1, h2, h3⟩ := hold i y hi
    rw [← h2, ← h3]
    exact hoff i y' h1
  · obtain ⟨y', h1, h2, h3⟩ := hold i y hi
    obtain ⟨z', h4, h5, h6⟩ := hold j z hj
    rw [← h2, ← h3, ← h5, ← h6]
    exact h.ap i j y' z' h1 h4 hne
  · rw [sumC_set hk]
    exact a.refs f hf
  · rcases hget i y hi with ⟨rfl, rfl⟩ | ⟨_, h2⟩
    · exact a.one
    · exact h.one i y h2
  · rcases hj with rfl | hj
    · exact .inr ⟨k, x, hk, .inr rfl⟩
    · exact .inl hj
  · rcases hj with hj | ⟨i, y, hi, hj⟩
    · exact (c j hj).imp .inl id
    · obtain ⟨y', h1, h2, h3⟩ := hold i y hi
      exact .inl (.inr ⟨i, y', h1, by rw [h2, h3]; exact hj⟩)
theorem R_small (h : VmAll w s n t l) (hl : l.length ≤ 100) (f : Int) (hf : 0 ≤ f) : t.R f + 64 ≤ 100000 := by
  have h1 := sumC_le (l := l) (f := f) (fun x hx => by
    obtain ⟨i, hi⟩ := List.getElem?_of_mem hx
    exact h.one i x hi f hf)
  have h2 := h.refs f hf
  omega
theorem VmAll.forked (h : VmAll w s n t l) (hk : l[k]? = some x) {sp2 pm2 : Nat} {rl : List (Int × Nat)} (hS : SpIs w' sp2 pm2 s.sb x.P) (hA : StAfter s n t w w' { t with rl := rl }) (hR : ∀ f, 0 ≤ f → ({ t with rl := rl } : St).R f = t.R f + cntF x.P f) (h1 : w.heap.size ≤ sp2) (h2 : w.heap.size ≤ pm2) :
    AllAfter s n t l w w' { t with rl := rl } (l ++ [⟨sp2, pm2, x.P⟩]) := by
  obtain ⟨a, b, c⟩ := hA
  have hget : ∀ (i : Nat) (y : Spc), (l ++ [(⟨sp2, pm2, x.P⟩ : Spc)])[i]? = some y → (i = l.length ∧ y = ⟨sp2, pm2, x.P⟩) ∨ l[i]? = some y := fun i y hi => by
    by_cases e : i < l.length
    · rw [List.getElem?_append_left e] at hi; exact .inr hi
    · rw [List.getElem?_append_right (by omega)] at hi
      have h3 : i - l.length = 0 := by
        by_cases e2 : i - l.length = 0
        · exact e2
        · rw [List.getElem?_eq_none (by simp; omega)] at hi; cases hi
      rw [h3] at hi
      simp only [List.getElem?_cons_zero, Option.some.injEq] at hi
      exact .inl ⟨by omega, hi.symm⟩
  have hnew : ¬ StFoot s t.vs sp2 ∧ ¬ StFoot s t.vs pm2 := ⟨fun hf => by have := h.store.foot_lt _ hf; omega, fun hf => by have := h.store.foot_lt _ hf; omega⟩
  refine ⟨⟨a, fun i y hi => ?_, fun i y hi => ?_, fun i j y z hi hj hne => ?_, fun f hf => ?_, fun i y hi => ?_⟩, b.mono (fun j _ hj => .inl hj), fun j hj => ?_⟩
  · rcases hget i y hi with ⟨rfl, rfl⟩ | hy
    · exact hS
    · exact (h.sps i y hy).turned b (h.off i y hy).1 (h.off i y hy).2
  · rcases hget i y hi with ⟨rfl, rfl⟩ | hy
    · exact hnew
    · exact h.off i y hy
  · rcases hget i y hi with ⟨rfl, rfl⟩ | hy
    · rcases hget j z hj with ⟨rfl, rfl⟩ | hz
      · exact absurd rfl hne
      · have h3 := (h.sps j z hz).lt
        exact ⟨by simp only; omega, by simp only; omega, by simp only; omega⟩
    · rcases hget j z hj with ⟨rfl, rfl⟩ | hz
      · have h3 := (h.sps i y hy).lt
        exact ⟨by simp only; omega, by simp only; omega, by simp only; omega⟩
      · exact h.ap i j y z hy hz hne
  · rw [hR f hf, sumC_append, h.refs f hf]
  · rcases hget i y hi with ⟨rfl, rfl⟩ | hy
    · exact h.one k x hk
    · exact h.one i y hy
  · rcases hj with hj | ⟨i, y, hi, hj⟩
    · exact .inl (.inl hj)
    · rcases hget i y hi with ⟨rfl, rfl⟩ | hy
      · right
        rcases hj with rfl | rfl
        · exact h1
        · exact h2
      · exact .inl (.inr ⟨i, y, hy, hj⟩)

/-- Sums over frames and pages. -/
theorem cntB_sum (g : Nat → Bool) : ∀ k, cntB g k = sumN (fun i => if g i then 1 else 0) k
  | 0 => rfl
  | k + 1 => by
    rw [cntB_succ, cntB_sum g k]
    rfl
theorem sumN_swap (c : Nat → Nat → Nat) (m : Nat) : ∀ k, sumN (fun f => sumN (fun i => c f i) m) k = sumN (fun i => sumN (fun f => c f i) k) m
  | 0 => (sumN_zero (fun _ _ => rfl)).symm
  | k + 1 => by
    show sumN (fun f => sumN (fun i => c f i) m) k + sumN (fun i => c k i) m = sumN (fun i => sumN (fun f => c f i) k + c k i) m
    rw [sumN_swap c m k, sumN_add]
theorem sumN_has (o : Option Pg) (n : Nat) (h : ∀ q, o = some q → q.2 < n) : sumN (fun f => hasF o (f : Int)) n = resO o := by
  cases o with
  | none => exact sumN_zero (fun _ _ => rfl)
  | some q =>
    have hq := h q rfl
    show _ = if 0 ≤ q.2 then 1 else 0
    by_cases h0 : 0 ≤ q.2
    · rw [if_pos h0]
      have h1 := sumN_upd (fun _ => 0) q.2.toNat 1 n (by omega)
      have h2 : sumN (fun _ => 0) n = 0 := sumN_zero (fun _ _ => rfl)
      have e : sumN (fun f => hasF (some q) (f : Int)) n = sumN (fun j => if j = q.2.toNat then 1 else 0) n := sumN_congr fun j _ => by
        rw [hasF_some]
        by_cases e : q.2 = (j : Int)
        · rw [if_pos e, if_pos (by omega)]
        · rw [if_neg e, if_neg (by omega)]
      rw [e]
      omega
    · rw [if_neg h0]
      exact sumN_zero (fun j _ => by rw [hasF_some, if_neg (by omega)])
theorem res_sum {P : Int → Option Pg} (n : Nat) (h : ∀ i q, P i = some q → q.2 < n) : sumN (fun f => cntF P (f : Int)) n = resP P := by
  show sumN (fun f => sumN (fun i => hasF (P (i : Int)) (f : Int)) 64) n = _
  rw [sumN_swap (fun f i => hasF (P (i : Int)) (f : Int)) 64 n]
  exact sumN_congr fun i _ => sumN_has _ n (h i)
theorem VmAll.frames_lt (h : VmAll w s n t l) (hk : l[k]? = some x) (i : Int) (q : Pg) (hq : x.P i = some q) : q.2 < n := by
  by_cases h0 : 0 ≤ q.2
  · have hd := (h.sps k x hk).dom i q hq
    have h1 := cntF_ge (P := x.P) (i := i) (f := q.2) hd.1 hd.2
    rw [hq, hasF_some, if_pos rfl] at h1
    have h2 := h.refs q.2 h0
    have h3 := sumC_pos hk q.2
    exact (h.store.frame (f := q.2) (by omega)).2
  · omega
theorem VmAll.most (h : VmAll w s n t l) (hk : l[k]? = some x) : resP x.P ≤ usedN t.R n := by
  rw [← res_sum n (h.frames_lt hk)]
  unfold usedN
  rw [cntB_sum]
  refine sumN_le fun f hf => ?_
  have h1 := h.one k x hk (f : Int) (by omega)
  have h2 := h.refs (f : Int) (by omega)
  have h3 := sumC_pos hk (f : Int)
  by_cases e : 0 < t.R (f : Int)
  · simp [e]; omega
  · simp [e]; omega
def sumR (l : List Spc) : Nat := (l.map fun x => resP x.P).sum
theorem sumR_le : ∀ l : List Spc, sumR l ≤ l.length * 64
  | [] => Nat.zero_le _
  | x :: l => by
    have h1 := sumR_le l
    have h2 := resP_le x.P
    unfold sumR at *
    rw [List.map_cons, List.sum_cons, List.length_cons]
    omega
theorem sumN_list (c : Spc → Nat → Nat) (n : Nat) : ∀ l : List Spc, sumN (fun f => (l.map fun x => c x f).sum) n = (l.map fun x => sumN (c x) n).sum
  | [] => sumN_zero (fun _ _ => rfl)
  | x :: l => by
    have h1 := sumN_list c n l
    show sumN (fun f => c x f + (l.map fun x => c x f).sum) n = sumN (c x) n + _
    rw [sumN_add, h1]
    rfl
theorem VmAll.sum (h : VmAll w s n t l) : usedN t.R n ≤ sumR l := by
  have e : sumR l = sumN (fun f => sumC l (f : Int)) n := by
    unfold sumC
    rw [sumN_list (fun x f => cntF x.P (f : Int)) n l]
    unfold sumR
    congr 1
    refine List.map_congr_left fun x hx => ?_
    obtain ⟨k, hk⟩ := List.getElem?_of_mem hx
    exact (res_sum n (h.frames_lt hk)).symm
  rw [e]
  unfold usedN
  rw [cntB_sum]
  refine sumN_le fun f hf => ?_
  have h2 := h.refs (f : Int) (by omega)
  rw [← h2]
  by_cases e : 0 < t.R (f : Int)
  · simp [e]; omega
  · simp [e]
theorem sumC_none {l : List Spc} (h : ∀ (i : Nat) (y : Spc), l[i]? = some y → y.P = fun _ => none) (f : Int) : sumC l f = 0 := by
  have h' : ∀ y ∈ l, y.P = fun _ => none := fun y hy => by
    obtain ⟨i, hi⟩ := List.getElem?_of_mem hy
    exact h i y hi
  clear h
  induction l with
  | nil => rfl
  | cons x l ih =>
    have h1 := ih (fun y hy => h' y (List.mem_cons_of_mem _ hy))
    show cntF x.P f + sumC l f = 0
    rw [h1, h' x (List.mem_cons_self ..)]
    have : cntF (fun _ => none) f = 0 := sumN_zero (fun _ _ => rfl)
    omega
theorem VmAll.empty (h : VmAll w s n t l) (hn : ∀ (i : Nat) (y : Spc), l[i]? = some y → y.P = fun _ => none) : usedN t.R n = 0 := by
  unfold usedN
  rw [cntB_sum]
  exact sumN_zero (fun i _ => by rw [h.refs (i : Int) (by omega), sumC_none hn]; rfl)
theorem VmAll.first (h : StoreIs w s n t) (hR : ∀ f, t.R f = 0) {sp pm : Nat} (hs : SpIs w sp pm s.sb (fun _ => none)) (ho : ¬ StFoot s t.vs sp ∧ ¬ StFoot s t.vs pm) : VmAll w s n t [⟨sp, pm, fun _ => none⟩] := by
  have hget : ∀ (i : Nat) (y : Spc), [(⟨sp, pm, fun _ => none⟩ : Spc)][i]? = some y → i = 0 ∧ y = ⟨sp, pm, fun _ => none⟩ := fun i y hi => by
    cases i with
    | zero => exact ⟨rfl, (Option.some.inj hi).symm⟩
    | succ i => simp at hi
  have hz : ∀ f, cntF (fun _ => none) f = 0 := fun f => sumN_zero (fun _ _ => rfl)
  refine ⟨h, fun i y hi => ?_, fun i y hi => ?_, fun i j y z hi hj hne => ?_, fun f hf => ?_, fun i y hi f hf => ?_⟩
  · obtain ⟨_, rfl⟩ := hget i y hi; exact hs
  · obtain ⟨_, rfl⟩ := hget i y hi; exact ho
  · exact absurd ((hget i y hi).1.trans (hget j z hj).1.symm) hne
  · rw [hR f]; show 0 = cntF _ f + 0; rw [hz]
  · obtain ⟨_, rfl⟩ := hget i y hi; rw [hz]; omega
end
end Go.Proofs.YtiohpmcedfbcgabGreatDoor
/- The document's spaces in memory: what they are; in, Pages, has, less, Left. Conditions: each theorem's own premises. -/
namespace Go.Proofs.YtiohpmcedfbcgabGreatDoor
open Go.RowKit
set_option linter.unusedVariables false

/-- A page as the document has it: what for, its words, its frame's number (0: none). -/
abbrev Qg := Int × (Nat → Int) × Int
def encQ (q : Qg) : Value := .agg #[.int .i64 q.1, .int .i64 (q.2.1 0), .int .i64 (q.2.1 1), .int .i64 (q.2.1 2), .int .i64 (q.2.1 3), .int .i64 (q.2.1 4), .int .i64 (q.2.1 5), .int .i64 (q.2.1 6), .int .i64 (q.2.1 7), .int .i64 q.2.2]
def noQ : Qg := (0, fun _ => 0, 0)
theorem zeroQ (w : World) : (zeroValue 147).run Tryz.prog w = .ok (encQ noQ) w := by kernel_rfl
def pgQ (q : Qg) : Pg := (q.1, q.2.2)
/-- The pages without their words. -/
def pgs (Q : Int → Option Qg) : Int → Option Pg := fun i => (Q i).map pgQ
structure RSp (w : World) (qm : Nat) (Q : Int → Option Qg) : Prop where
  pages : ∃ ql : List (Int × Qg), MapIs w qm (.int .i64) encI encQ ql ∧ ∀ i, mget ql i = Q i
  dom : ∀ i q, Q i = some q → 0 ≤ i ∧ i < 64
  ok : ∀ i q, Q i = some q → 1 ≤ q.1 ∧ q.1 ≤ 3 ∧ 0 ≤ q.2.2 ∧ q.2.2 < 1000000
structure RMem (w : World) (rb rm : Nat) (n nx : Int) (rl : List (Int × Nat)) : Prop where
  c0 : w.cell? ⟨rb, 0, none⟩ = some (.int .i64 n)
  c1 : w.cell? ⟨rb, 1, none⟩ = some (.map (some rm))
  c2 : w.cell? ⟨rb, 2, none⟩ = some (.int .i64 nx)
  f2 : w.frozen? ⟨rb, 2, none⟩ = false
  refs : MapIs w rm (.int .i64) encI encRc rl
  pos : ∀ f k, mget rl f = some k → 1 ≤ k ∧ k ≤ 100000
  key : ∀ f k, mget rl f = some k → 1 ≤ f ∧ f ≤ nx
  nxt : 0 ≤ nx ∧ nx < 1000000
  ne : rb ≠ rm
  small : n ≤ 256
def RR (rl : List (Int × Nat)) (f : Int) : Nat := (mget rl f).getD 0
section
variable {w w' : World} {qm rb rm : Nat} {Q Q' : Int → Option Qg} {n nx : Int} {rl : List (Int × Nat)}
theorem RSp.turned {S : Nat → Prop} (h : RSp w qm Q) (tt : Turn S w w') (hn : ¬ S qm) : RSp w' qm Q :=
  { h with pages := let ⟨ql, hp, he⟩ := h.pages; ⟨ql, hp.turned tt hn, he⟩ }
theorem RSp.lt (h : RSp w qm Q) : qm < w.heap.size := by
  obtain ⟨ql, hp, _⟩ := h.pages
  exact hp.lt
theorem RMem.turned {S : Nat → Prop} (h : RMem w rb rm n nx rl) (tt : Turn S w w') (h1 : ¬ S rb) (h2 : ¬ S rm) : RMem w' rb rm n nx rl :=
  { h with
    c0 := (tt.cell (a := ⟨rb, 0, none⟩) (lt_of_cell h.c0) h1).trans h.c0
    c1 := (tt.cell (a := ⟨rb, 1, none⟩) (lt_of_cell h.c1) h1).trans h.c1
    c2 := (tt.cell (a := ⟨rb, 2, none⟩) (lt_of_cell h.c2) h1).trans h.c2
    f2 := (tt.frozen (a := ⟨rb, 2, none⟩) (lt_of_cell h.c2) h1).trans h.f2
    refs := h.refs.turned tt h2 }
theorem lookok_q (h : RSp w qm Q) (i : Int) : (Instr.lookup 42 (.map (some qm)) (.int .i64 i) true).run Tryz.prog w = .ok (.tuple #[encQ ((Q i).getD noQ), .bool (Q i).isSome]) w := by
  obtain ⟨ql, hp, he⟩ := h.pages
  have h1 := hp.run_lookup keyI Tryz.underlying42 Tryz.underlying3 (zeroQ w) i true
  refine h1.trans ?_
  rw [he]
  cases Q i <;> rfl
theorem look_q (h : RSp w qm Q) (i : Int) : (Instr.lookup 42 (.map (some qm)) (.int .i64 i) false).run Tryz.prog w = .ok (encQ ((Q i).getD noQ)) w := by
  obtain ⟨ql, hp, he⟩ := h.pages
  have h1 := hp.run_lookup keyI Tryz.underlying42 Tryz.underlying3 (zeroQ w) i false
  refine h1.trans ?_
  rw [he]
  cases Q i <;> rfl
theorem rin_is (n lo hi : Int) (w : World) : Calls Tryz.prog 60 #[.int .i64 n, .int .i64 lo, .int .i64 hi] w fun e w' => e = .returned (.bool (decide (lo ≤ n ∧ n ≤ hi))) ∧ w = w' := by
  by_cases h1 : lo ≤ n
  · by_cases h2 : n ≤ hi
    · go_enter Tryz.func60, Tryz.ntmps60
      go_wp2_with fail
      go_ret
      exact ⟨ret_bool (decide_eq_true ⟨h1, h2⟩).symm, rfl⟩
    · have h2' : decide (n ≤ hi) = false := decide_eq_false h2
      go_enter Tryz.func60, Tryz.ntmps60
      go_wp2_with fail
      go_ret
      first | exact ⟨rfl, rfl⟩ | exact ⟨ret_bool (decide_eq_false (fun h => h2 h.2)).symm, rfl⟩
  · have h1' : decide (lo ≤ n) = false := decide_eq_false h1
    go_enter Tryz.func60, Tryz.ntmps60
    go_wp2_with fail
    go_ret
    first | exact ⟨rfl, rfl⟩ | exact ⟨ret_bool (decide_eq_false (fun h => h1 h.1)).symm, rfl⟩
set_option maxHeartbeats 1000000 in
set_option maxRecDepth 100000 in
theorem pages_is (a k : Int) (w : World) : Calls Tryz.prog 59 #[.int .i64 a, .int .i64 k] w fun e w' => e = .returned (.bool (decide (RightP a k))) ∧ w = w' := by
  have HA := hid (rin_is a 0 63 w)
  have HK := hid (rin_is k 1 64 w)
  have HS := hid (rin_is (a + k) 1 64 w)
  by_cases h1 : 0 ≤ a ∧ a ≤ 63
  · by_cases h2 : 1 ≤ k ∧ k ≤ 64
    · have hw : IntKind.i64.wrap (a + k) = a + k := IntWalk.i64_in _ (by omega)
      rw [decide_eq_true h1] at HA
      rw [decide_eq_true h2] at HK
      obtain ⟨b, hb⟩ : ∃ b : Bool, decide (1 ≤ a + k ∧ a + k ≤ 64) = b := ⟨_, rfl⟩
      rw [hb] at HS
      have HB : Hid (decide (RightP a k) = b) := hid (by rw [← hb]; exact decide_eq_decide.2 (by unfold RightP; omega))
      clear hb h1 h2
      go_enter Tryz.func59, Tryz.ntmps59
      go_wp2_with fail
      refine HA.out.mono ?_
      rintro e w1 ⟨rfl, rfl⟩
      go_wp2_with fail
      refine HK.out.mono ?_
      rintro e w1 ⟨rfl, rfl⟩
      go_wp2_with fail
      refine HS.out.mono ?_
      rintro e w1 ⟨rfl, rfl⟩
      go_wp2_with fail
      go_ret
      exact ⟨ret_bool HB.out.symm, rfl⟩
    · rw [decide_eq_true h1] at HA
      rw [decide_eq_false h2] at HK
      have HB : Hid (decide (RightP a k) = false) := hid (decide_eq_false (by unfold RightP; omega))
      clear h1 h2
      go_enter Tryz.func59, Tryz.ntmps59
      go_wp2_with fail
      refine HA.out.mono ?_
      rintro e w1 ⟨rfl, rfl⟩
      go_wp2_with fail
      refine HK.out.mono ?_
      rintro e w1 ⟨rfl, rfl⟩
      go_wp2_with fail
      go_ret
      exact ⟨ret_bool HB.out.symm, rfl⟩
  · rw [decide_eq_false h1] at HA
    have HB : Hid (decide (RightP a k) = false) := hid (decide_eq_false (by unfold RightP; omega))
    clear h1
    go_enter Tryz.func59, Tryz.ntmps59
    go_wp2_with fail
    refine HA.out.mono ?_
    rintro e w1 ⟨rfl, rfl⟩
    go_wp2_with fail
    go_ret
    exact ⟨ret_bool HB.out.symm, rfl⟩
set_option maxHeartbeats 1000000 in
set_option maxRecDepth 100000 in
theorem rhas_is (h : RSp w qm Q) (a : Int) (k : Nat) (h0 : 0 ≤ a) (hk : a + k ≤ 64) :
    Calls Tryz.prog 61 #[.map (some qm), .int .i64 a, .int .i64 k] w fun e w' => e = .returned (.int .i64 (thereN (pgs Q) a k)) ∧ Turn (fun _ => False) w w' := by
  have H := hid h
  clear h
  go_enter Tryz.func61, Tryz.ntmps61
  go_wp2_with fail
  go_loopg [7, 12] k (fun gl c i wr => ∃ j : Nat, j + gl = k ∧ i = .int .i64 j ∧ c = .int .i64 (thereN (pgs Q) a j) ∧ Hid (Turn (fun _ => False) w wr))
  case atStart => exact ⟨0, by omega, rfl, rfl, hid (Turn.refl _ _)⟩
  case round =>
    obtain ⟨j, hj, rfl, rfl, hT⟩ := hrel
    by_cases hlt : j < k
    · have hlt' : (j : Int) < k := by omega
      have lk := lookok_q (H.out.turned hT.out id) (a + j)
      have hs : thereN (pgs Q) a (j + 1) = thereN (pgs Q) a j + if (pgs Q (a + j)).isSome then 1 else 0 := cntB_succ _ _
      have hle : thereN (pgs Q) a j ≤ j := cntB_le _ _
      have hpq : (pgs Q (a + j)).isSome = (Q (a + j)).isSome := by unfold pgs; cases Q (a + j) <;> rfl
      rw [hpq] at hs
      obtain ⟨N, hN⟩ : ∃ N, thereN (pgs Q) a j = N := ⟨_, rfl⟩
      obtain ⟨⟨q1, qw, q2⟩, hq⟩ : ∃ q : Qg, (Q (a + j)).getD noQ = q := ⟨_, rfl⟩
      obtain ⟨ok, hok⟩ : ∃ ok, (Q (a + j)).isSome = ok := ⟨_, rfl⟩
      rw [hq, hok] at lk
      rw [hN, hok] at hs
      rw [hN] at hle
      unfold encQ at lk
      simp only at lk
      have hw1 : IntKind.i64.wrap (a + j) = a + j := IntWalk.i64_in _ (by omega)
      have HS := hid hs
      clear hq hok hs hpq
      rw [hN]
      clear hN
      cases ok with
      | true =>
        go_wp2_with fail
        go_roundg (gk - 1)
        case measure => omega
        case rel => exact ⟨j + 1, by omega, by go_num, by rw [HS.out]; go_num, hid (hT.out.alloc _)⟩
      | false =>
        go_wp2_with fail
        go_roundg (gk - 1)
        case measure => omega
        case rel => exact ⟨j + 1, by omega, by go_num, by rw [HS.out]; rfl, hid (hT.out.alloc _)⟩
    · have hlt' : ¬ (j : Int) < k := by omega
      obtain rfl : j = k := by omega
      go_wp2_with fail
      go_ret
      exact ⟨rfl, hT.out⟩
theorem RMem.put (h : RMem w rb rm n nx rl) {f : Int} {k : Nat} (hf : 1 ≤ f ∧ f ≤ nx) (hk : 1 ≤ k ∧ k ≤ 100000) (tt : Turn (fun b => b = rm) w w') (hp : MapIs w' rm (.int .i64) encI encRc (mput rl f k)) : RMem w' rb rm n nx (mput rl f k) := by
  refine { h with
    c0 := (tt.cell (a := ⟨rb, 0, none⟩) (lt_of_cell h.c0) h.ne).trans h.c0
    c1 := (tt.cell (a := ⟨rb, 1, none⟩) (lt_of_cell h.c1) h.ne).trans h.c1
    c2 := (tt.cell (a := ⟨rb, 2, none⟩) (lt_of_cell h.c2) h.ne).trans h.c2
    f2 := (tt.frozen (a := ⟨rb, 2, none⟩) (lt_of_cell h.c2) h.ne).trans h.f2
    refs := hp
    pos := fun g c hg => ?_
    key := fun g c hg => ?_ }
  · rw [mget_mput] at hg
    by_cases e : g = f
    · rw [if_pos e] at hg; cases hg; exact hk
    · rw [if_neg e] at hg; exact h.pos g c hg
  · rw [mget_mput] at hg
    by_cases e : g = f
    · rw [e]; exact hf
    · rw [if_neg e] at hg; exact h.key g c hg
theorem RMem.del (h : RMem w rb rm n nx rl) {f : Int} {k : Nat} (tt : Turn (fun b => b = rm) w w') (hp : MapIs w' rm (.int .i64) encI encRc (mdel (mput rl f k) f)) : RMem w' rb rm n nx (mdel (mput rl f k) f) := by
  refine { h with
    c0 := (tt.cell (a := ⟨rb, 0, none⟩) (lt_of_cell h.c0) h.ne).trans h.c0
    c1 := (tt.cell (a := ⟨rb, 1, none⟩) (lt_of_cell h.c1) h.ne).trans h.c1
    c2 := (tt.cell (a := ⟨rb, 2, none⟩) (lt_of_cell h.c2) h.ne).trans h.c2
    f2 := (tt.frozen (a := ⟨rb, 2, none⟩) (lt_of_cell h.c2) h.ne).trans h.f2
    refs := hp
    pos := fun g c hg => ?_
    key := fun g c hg => ?_ }
  · rw [mget_mdel, mget_mput] at hg
    by_cases e : g = f
    · rw [if_pos e] at hg; cases hg
    · rw [if_neg e, if_neg e] at hg; exact h.pos g c hg
  · rw [mget_mdel, mget_mput] at hg
    by_cases e : g = f
    · rw [if_pos e] at hg; cases hg
    · rw [if_neg e, if_neg e] at hg; exact h.key g c hg
theorem RR_put (rl : List (Int × Nat)) (f g : Int) (k : Nat) : RR (mput rl f k) g = if g = f then k else RR rl g := by
  unfold RR
  rw [mget_mput]
  by_cases e : g = f
  · rw [if_pos e, if_pos e]; rfl
  · rw [if_neg e, if_neg e]
theorem RR_del (rl : List (Int × Nat)) (f g : Int) (k : Nat) : RR (mdel (mput rl f k) f) g = if g = f then 0 else RR rl g := by
  unfold RR
  rw [mget_mdel, mget_mput]
  by_cases e : g = f
  · rw [if_pos e, if_pos e]; rfl
  · rw [if_neg e, if_neg e, if_neg e]
/-- less: a frame has a page less (0 is none). -/
def Lessed (rb rm : Nat) (n nx : Int) (rl : List (Int × Nat)) (f : Int) (w : World) (e : Ending) (w' : World) : Prop :=
  e = .returned (.tuple #[]) ∧ ∃ rl', RMem w' rb rm n nx rl' ∧ (∀ g, RR rl' g = if f ≠ 0 ∧ g = f then RR rl f - 1 else RR rl g) ∧ Turn (fun b => b = rm) w w'
set_option maxHeartbeats 1000000 in
set_option maxRecDepth 100000 in
theorem less_is (h : RMem w rb rm n nx rl) (f : Int) (hf : f ≠ 0 → 0 < RR rl f) : Calls Tryz.prog 62 #[.pointer (some ⟨rb, 0, none⟩), .int .i64 f] w (Lessed rb rm n nx rl f w) := by
  by_cases h0 : f = 0
  · subst h0
    have H := hid h
    clear h hf
    go_enter Tryz.func62, Tryz.ntmps62
    go_wp2_with fail
    go_end0
    exact ⟨rfl, rl, H.out, fun g => by rw [if_neg (fun h => h.1 rfl)], Turn.refl _ _⟩
  · obtain ⟨j, hj⟩ : ∃ j, mget rl f = some (j + 1) := by
      have h1 := hf h0
      unfold RR at h1
      cases hm : mget rl f with
      | none => rw [hm] at h1; exact absurd h1 (Nat.lt_irrefl _)
      | some k => rw [hm] at h1; exact ⟨k - 1, by rw [show k - 1 + 1 = k by have : 0 < k := h1; omega]⟩
    have hR : RR rl f = j + 1 := by unfold RR; rw [hj]; rfl
    have hjb := (h.pos f _ hj).2
    have hkey := h.key f _ hj
    have hb : (f == 0) = false := by simp [h0]
    have c1 := h.c1
    have lk := look_rc h.refs f
    rw [hj] at lk
    simp only [Option.getD_some] at lk
    have H := hid h
    have HR := hid hR
    have HRf := hid h.refs
    have H0 := hid h0
    have n1 := h.ne
    have hw1 : IntKind.i64.wrap (((j + 1 : Nat) : Int) - 1) = (j : Int) := by rw [IntWalk.i64_in _ (by omega)]; omega
    have hw2 : ((j + 1 : Nat) : Int) - 1 = (j : Int) := by omega
    clear h hj hR hf h0
    by_cases hz : j = 0
    · subst hz
      go_enter Tryz.func62, Tryz.ntmps62
      go_wp2_with (first | (at_mapUpdate; refine wpList_mapput rfl _ _ _ 92 3 3 rfl Tryz.underlying92 Tryz.underlying3 keyI rm rfl HRf.out f rfl 0 (by first | rfl | go_num) ?_; intro w4 hm4 t4; have HM4 := hid hm4; have HT4 := hid t4; have c12 := (t4.cell (a := ⟨rb, 1, none⟩) (lt_of_cell c1) n1).trans c1; have lk2 := look_rc hm4 f; rw [mget_mput, if_pos rfl] at lk2; simp only [Option.getD_some] at lk2; clear hm4 t4 c1 lk) | (at_delete; refine wpList_mapdel rfl _ _ 92 3 3 rfl Tryz.underlying92 Tryz.underlying3 keyI rm rfl HM4.out f rfl ?_; intro w5 hm5 t5; have HM5 := hid hm5; have HT5 := hid (HT4.out.trans t5); clear hm5 t5))
      go_end0
      exact ⟨rfl, _, H.out.del HT5.out HM5.out, fun g => by
        rw [RR_del, HR.out]
        by_cases e : g = f
        · rw [if_pos e, if_pos ⟨H0.out, e⟩]
        · rw [if_neg e, if_neg (fun h => e h.2)], HT5.out⟩
    · have hb0 : ((j : Int) == 0) = false := by simp; omega
      go_enter Tryz.func62, Tryz.ntmps62
      go_wp2_with (at_mapUpdate; refine wpList_mapput rfl _ _ _ 92 3 3 rfl Tryz.underlying92 Tryz.underlying3 keyI rm rfl HRf.out f rfl j (by first | rfl | go_num) ?_; intro w4 hm4 t4; have HM4 := hid hm4; have HT4 := hid t4; have c12 := (t4.cell (a := ⟨rb, 1, none⟩) (lt_of_cell c1) n1).trans c1; have lk2 := look_rc hm4 f; rw [mget_mput, if_pos rfl] at lk2; simp only [Option.getD_some] at lk2; clear hm4 t4 c1 lk)
      go_end0
      exact ⟨rfl, _, H.out.put hkey ⟨by omega, by omega⟩ HT4.out HM4.out, fun g => by
        rw [RR_put, HR.out]
        by_cases e : g = f
        · rw [if_pos e, if_pos ⟨H0.out, e⟩]; rfl
        · rw [if_neg e, if_neg (fun h => e h.2)], HT4.out⟩
set_option maxHeartbeats 1000000 in
set_option maxRecDepth 100000 in
/-- Left: frames that nobody has. -/
theorem rleft_is (h : RMem w rb rm n nx rl) (hl : rl.length ≤ 100000) (hn : -100000 ≤ n) : Calls Tryz.prog 28 #[.pointer (some ⟨rb, 0, none⟩)] w fun e w' => e = .returned (.int .i64 (n - rl.length)) ∧ Turn (fun _ => False) w w' := by
  have c0 := h.c0
  have c1 := h.c1
  have hsm := h.small
  have hln : ∀ k ty, (Builtin.len_ #[92] ty #[.map (some rm)]).run Tryz.prog (w.drewN k) = .ok (.int .i64 rl.length) (w.drewN k) := fun k ty => (h.refs.turned ((Turn.refl (fun _ => False) w).drewN k) id).run_len Tryz.underlying92 ty
  have hw1 : IntKind.i64.wrap (n - (rl.length : Int)) = n - rl.length := IntWalk.i64_in _ (by omega)
  clear h
  go_enter Tryz.func28, Tryz.ntmps28
  go_wp2_with fail
  go_quiet (fail)
  all_goals go_wp2_with fail
  all_goals go_ret
  all_goals exact ⟨rfl, Turn.drewN (Turn.refl _ _) _⟩
end
end Go.Proofs.YtiohpmcedfbcgabGreatDoor
/- The document's spaces: use, Load, Resident. Conditions: each theorem's own premises. -/
namespace Go.Proofs.YtiohpmcedfbcgabGreatDoor
open Go.RowKit Go.MapKept
set_option linter.unusedVariables false

section
variable {w w' : World} {qm rb rm : Nat} {Q Q' : Int → Option Qg} {n nx : Int} {rl : List (Int × Nat)}
def RUsed (Q : Int → Option Qg) (a wd pr : Int) (w : World) (e : Ending) (w' : World) : Prop := e = .returned (.int .i64 (accE (pgs Q) a wd pr)) ∧ Turn (fun _ => False) w w'
set_option maxHeartbeats 1000000 in
set_option maxRecDepth 100000 in
theorem ruse_is (h : RSp w qm Q) (a wd pr : Int) (hpr : 1 ≤ pr ∧ pr ≤ 2) : Calls Tryz.prog 66 #[.map (some qm), .int .i64 a, .int .i64 wd, .int .i64 pr] w (RUsed Q a wd pr w) := by
  have lk := lookok_q h a
  have hok := h.ok a
  have HI : Hid (∀ w', Calls Tryz.prog 60 #[.int .i64 wd, .int .i64 0, .int .i64 7] w' fun e w'' => e = .returned (.bool (decide (0 ≤ wd ∧ wd ≤ 7))) ∧ w' = w'') := hid (fun w' => rin_is wd 0 7 w')
  unfold RUsed accE pgs
  clear h
  cases hq : Q a with
  | none =>
    rw [hq] at lk
    simp only [Option.getD_none, Option.isSome_none, encQ, noQ] at lk
    clear hq hok
    go_enter Tryz.func66, Tryz.ntmps66
    go_wp2_with fail
    all_goals
      go_ret
      exact ⟨rfl, (Turn.refl _ _).alloc _⟩
  | some q =>
    obtain ⟨q1, qw, qf⟩ := q
    have hp := hok _ hq
    simp only at hp
    rw [hq] at lk
    simp only [Option.getD_some, Option.isSome_some, encQ] at lk
    clear hq hok
    show Calls _ _ _ _ fun e w' => e = .returned (.int .i64 (if wd < 0 ∨ 7 < wd then 2 else if q1 = 3 - pr then 13 else 0)) ∧ _
    by_cases h1 : 0 ≤ wd ∧ wd ≤ 7
    · rw [if_neg (by omega)]
      rw [decide_eq_true h1] at HI
      have e1 : q1 = 1 ∨ q1 = 2 ∨ q1 = 3 := by omega
      have e2 : pr = 1 ∨ pr = 2 := by omega
      clear h1 hp hpr
      rcases e1 with rfl | rfl | rfl <;> rcases e2 with rfl | rfl
      all_goals
        go_enter Tryz.func66, Tryz.ntmps66
        go_wp2_with fail
        refine (HI.out _).mono ?_
        rintro e w1 ⟨rfl, rfl⟩
        go_wp2_with fail
        go_ret
        exact ⟨by first | rfl | decide, (Turn.refl _ _).alloc _⟩
    · rw [if_pos (by omega)]
      rw [decide_eq_false h1] at HI
      clear h1
      go_enter Tryz.func66, Tryz.ntmps66
      go_wp2_with fail
      refine (HI.out _).mono ?_
      rintro e w1 ⟨rfl, rfl⟩
      go_wp2_with fail
      go_ret
      exact ⟨rfl, (Turn.refl _ _).alloc _⟩
/-- A page's word, as the document has it. -/
def rloadV (Q : Int → Option Qg) (a wd : Int) : Int := if accE (pgs Q) a wd 1 = 0 then ((Q a).getD noQ).2.1 wd.toNat else 0
def RLoadIs (Q : Int → Option Qg) (a wd : Int) (w : World) (e : Ending) (w' : World) : Prop := e = .returned (.tuple #[.int .i64 (rloadV Q a wd), .int .i64 (accE (pgs Q) a wd 1)]) ∧ Turn (fun _ => False) w w'
theorem fldQ1 (a b0 b1 b2 b3 b4 b5 b6 b7 c : Value) (w : World) : (Instr.field 147 (.agg #[a, b0, b1, b2, b3, b4, b5, b6, b7, c]) 1).run Tryz.prog w = .ok (.agg #[b0, b1, b2, b3, b4, b5, b6, b7]) w := by kernel_rfl
theorem idxQ (b0 b1 b2 b3 b4 b5 b6 b7 : Value) (w : World) :
    (Instr.index 145 (.agg #[b0, b1, b2, b3, b4, b5, b6, b7]) (.int .i64 0)).run Tryz.prog w = .ok b0 w ∧
    (Instr.index 145 (.agg #[b0, b1, b2, b3, b4, b5, b6, b7]) (.int .i64 1)).run Tryz.prog w = .ok b1 w ∧
    (Instr.index 145 (.agg #[b0, b1, b2, b3, b4, b5, b6, b7]) (.int .i64 2)).run Tryz.prog w = .ok b2 w ∧
    (Instr.index 145 (.agg #[b0, b1, b2, b3, b4, b5, b6, b7]) (.int .i64 3)).run Tryz.prog w = .ok b3 w ∧
    (Instr.index 145 (.agg #[b0, b1, b2, b3, b4, b5, b6, b7]) (.int .i64 4)).run Tryz.prog w = .ok b4 w ∧
    (Instr.index 145 (.agg #[b0, b1, b2, b3, b4, b5, b6, b7]) (.int .i64 5)).run Tryz.prog w = .ok b5 w ∧
    (Instr.index 145 (.agg #[b0, b1, b2, b3, b4, b5, b6, b7]) (.int .i64 6)).run Tryz.prog w = .ok b6 w ∧
    (Instr.index 145 (.agg #[b0, b1, b2, b3, b4, b5, b6, b7]) (.int .i64 7)).run Tryz.prog w = .ok b7 w := ⟨by kernel_rfl, by kernel_rfl, by kernel_rfl, by kernel_rfl, by kernel_rfl, by kernel_rfl, by kernel_rfl, by kernel_rfl⟩
set_option maxHeartbeats 1000000 in
set_option maxRecDepth 100000 in
theorem rload_is (h : RSp w qm Q) (a wd : Int) : Calls Tryz.prog 17 #[.map (some qm), .int .i64 a, .int .i64 wd] w (RLoadIs Q a wd w) := by
  have HU := hid (ruse_is h a wd 1 (by omega))
  unfold RUsed at HU
  unfold RLoadIs rloadV
  by_cases hz : accE (pgs Q) a wd 1 = 0
  · rcases accE_or (pgs Q) a wd 1 with ⟨he, hn⟩ | he | he | ⟨he, h0, h8, p, hp, hp1⟩
    · omega
    · omega
    · omega
    · rw [he] at HU ⊢
      rw [if_pos rfl]
      obtain ⟨⟨q1, qw, qf⟩, hq⟩ : ∃ q, Q a = some q := by
        unfold pgs at hp
        cases hq : Q a with
        | none => rw [hq] at hp; cases hp
        | some q => exact ⟨q, rfl⟩
      rw [hq]
      simp only [Option.getD_some]
      have HLk : Hid (∀ w', Turn (fun _ => False) w w' → (Instr.lookup 42 (.map (some qm)) (.int .i64 a) false).run Tryz.prog w' = .ok (encQ (q1, qw, qf)) w') := hid (fun w' tt => by
        have h1 := look_q (h.turned tt id) a
        rw [hq] at h1
        exact h1)
      have hf1 := @fldQ1
      obtain ⟨j, rfl⟩ : ∃ j : Nat, wd = j := ⟨wd.toNat, by omega⟩
      rw [Int.toNat_natCast]
      have hj8 : j < 8 := by omega
      clear h hz he hp hp1 hq h0 h8
      go_enter Tryz.func17, Tryz.ntmps17
      go_wp2_with fail
      refine HU.out.mono ?_
      rintro e w1 ⟨rfl, t1⟩
      have lk := HLk.out w1 t1
      simp only [encQ] at lk
      have hix : (Instr.index 145 (.agg #[.int .i64 (qw 0), .int .i64 (qw 1), .int .i64 (qw 2), .int .i64 (qw 3), .int .i64 (qw 4), .int .i64 (qw 5), .int .i64 (qw 6), .int .i64 (qw 7)]) (.int .i64 j)).run Tryz.prog w1 = .ok (.int .i64 (qw j)) w1 := by
        obtain ⟨i0, i1, i2, i3, i4, i5, i6, i7⟩ := idxQ (.int .i64 (qw 0)) (.int .i64 (qw 1)) (.int .i64 (qw 2)) (.int .i64 (qw 3)) (.int .i64 (qw 4)) (.int .i64 (qw 5)) (.int .i64 (qw 6)) (.int .i64 (qw 7)) w1
        have e : j = 0 ∨ j = 1 ∨ j = 2 ∨ j = 3 ∨ j = 4 ∨ j = 5 ∨ j = 6 ∨ j = 7 := by omega
        rcases e with rfl | rfl | rfl | rfl | rfl | rfl | rfl | rfl <;> assumption
      have HT1 := hid t1
      clear t1
      go_wp2_with fail
      go_ret2
      exact ⟨rfl, HT1.out⟩
  · rw [if_neg hz]
    obtain ⟨z, hzz⟩ : ∃ z, accE (pgs Q) a wd 1 = z := ⟨_, rfl⟩
    rw [hzz] at HU hz ⊢
    have hb : (z != 0) = true := by simp [hz]
    clear h hzz
    go_enter Tryz.func17, Tryz.ntmps17
    go_wp2_with fail
    refine HU.out.mono ?_
    rintro e w1 ⟨rfl, t1⟩
    have HT1 := hid t1
    clear t1
    go_wp2_with fail
    go_ret2
    exact ⟨rfl, HT1.out⟩
theorem sum_map_pages {c : Option Qg → Nat} (hc : c none = 0) {ql : List (Int × Qg)} (hn : MNodup ql) (h : RSp w qm Q) (he : ∀ i, mget ql i = Q i) : (ql.map fun p => c (some p.2)).sum = sumN (fun i => c (Q (i : Int))) 64 := by
  have h1 := sum_pages c hc ql hn (fun p hp => h.dom p.1 p.2 (by rw [← he]; exact mget_mem hn hp))
  exact h1.trans (sumN_congr fun i _ => by rw [he])
def rresL (L : List (Int × Qg)) : Nat := (L.map fun p => if 0 < p.2.2.2 then 1 else 0).sum
def rresP (Q : Int → Option Qg) : Nat := sumN (fun i => (Q (i : Int)).elim 0 fun q => if 0 < q.2.2 then 1 else 0) 64
theorem rresL_le : ∀ L : List (Int × Qg), rresL L ≤ L.length
  | [] => Nat.le_refl _
  | p :: L => by
    have h1 := rresL_le L
    unfold rresL at *
    rw [List.map_cons, List.sum_cons, List.length_cons]
    split <;> omega
def rlenP (Q : Int → Option Qg) : Nat := sumN (fun i => if (Q (i : Int)).isSome then 1 else 0) 64
theorem rlen_pages {ql : List (Int × Qg)} (hn : MNodup ql) (h : RSp w qm Q) (he : ∀ i, mget ql i = Q i) : ql.length = rlenP Q := by
  have h1 := sum_map_pages (c := fun o : Option Qg => if o.isSome then 1 else 0) rfl hn h he
  have h2 : (ql.map fun p => if (some p.2).isSome then 1 else 0).sum = ql.length := by
    clear h1 he hn
    induction ql with
    | nil => rfl
    | cons p pl ih => rw [List.map_cons, List.sum_cons, ih, List.length_cons]; simp; omega
  rw [← h2, h1]
  rfl
theorem rlenP_le (Q : Int → Option Qg) : rlenP Q ≤ 64 := sumN_max (m := 1) (k := 64) (fun i _ => by split <;> omega)
set_option maxHeartbeats 2000000 in
set_option maxRecDepth 100000 in
theorem rres_is (h : RSp w qm Q) : Calls Tryz.prog 26 #[.map (some qm)] w fun e w' => e = .returned (.int .i64 (rresP Q)) ∧ Turn (fun _ => False) w w' := by
  have H := hid h
  obtain ⟨pl, hpl, he⟩ := h.pages
  have hle : pl.length ≤ 64 := by rw [rlen_pages hpl.nodup h he]; exact rlenP_le Q
  have HPl := hid hpl
  have HE := hid he
  clear h hpl he
  go_enter Tryz.func26, Tryz.ntmps26
  go_wp2_with (at_range; refine wpList_maprange rfl _ _ 3 147 rfl Tryz.underlying42 rfl HPl.out ?_; intro w2 hR2 t2 hs2; have HR2 := hid hR2; have HT2 := hid t2; clear hR2 t2 hs2)
  obtain ⟨r, hrr⟩ : ∃ r, w.heap.size = r := ⟨_, rfl⟩
  rw [hrr] at HR2
  rw [hrr]
  have HWr := hid hrr
  clear hrr
  go_frame
  go_loopg [3] (pl.length) (fun g n wr => ∃ (seenK : Int → Prop) (L : List (Int × Qg)), Hid (RangeOf wr qm r encI encQ pl seenK g) ∧ Hid (L.Nodup ∧ ∀ t, t ∈ L ↔ t ∈ pl ∧ seenK t.1) ∧ L.length + g ≤ pl.length ∧ n = .int .i64 (rresL L) ∧ Hid (Turn (fun _ => False) w wr))
  case atStart => exact ⟨_, [], HR2, hid ⟨List.nodup_nil, fun t => by simp⟩, by simp, rfl, HT2⟩
  case round =>
    clear HR2 HT2
    obtain ⟨seenK, L, hR, hL, hLg, rfl, hT⟩ := hrel
    go_wp2_with (at_next; refine wpList_mapnext rfl _ rfl rfl hR.out ?_ ?_)
    · intro hall
      have hperm := all_seen' HPl.out.nodup hL.out (fun p hp => hall p.1 p.2.1 p.2.2.1 p.2.2.2 hp)
      have hsum : rresL L = rresP Q := ((hperm.map _).sum_nat).trans (sum_map_pages (c := fun o : Option Qg => o.elim 0 fun q => if 0 < q.2.2 then 1 else 0) rfl HPl.out.nodup H.out HE.out)
      clear hall hperm
      rw [hsum]
      clear hsum
      go_wp2_with fail
      go_ret
      exact ⟨rfl, hT.out⟩
    · intro i q1 qw f w5 cnt' hpm hns hR5 hlt5 t5 hsz5 hen
      (try simp only at hns hen)
      have hT5 : Turn (fun _ => False) w w5 := hT.out.trans' t5 (fun k hk e => absurd e (by have := HWr.out; omega))
      have HT5 := hid (hT5.alloc (.cells #[.int .i64 q1, .int .i64 (qw 0), .int .i64 (qw 1), .int .i64 (qw 2), .int .i64 (qw 3), .int .i64 (qw 4), .int .i64 (qw 5), .int .i64 (qw 6), .int .i64 (qw 7), .int .i64 f] 147))
      have HR6 := hid (hR5.turned ((Turn.refl (fun _ => False) w5).alloc (.cells #[.int .i64 q1, .int .i64 (qw 0), .int .i64 (qw 1), .int .i64 (qw 2), .int .i64 (qw 3), .int .i64 (qw 4), .int .i64 (qw 5), .int .i64 (qw 6), .int .i64 (qw 7), .int .i64 f] 147)) id id)
      have HL2 := hid (more_seen HPl.out.nodup hL.out hpm hns)
      have hN := rresL_le L
      have hN3 : rresL ((i, (q1, qw, f)) :: L) = rresL L + if 0 < f then 1 else 0 := by
        simp only [rresL, List.map_cons, List.sum_cons]; omega
      have HN3 := hid hN3
      obtain ⟨N, hNN⟩ : ∃ N, rresL L = N := ⟨_, rfl⟩
      rw [hNN] at HN3 hN
      unfold encQ at hen
      clear hpm hns hR5 t5 hT5 hL hR hT hN3
      rw [hNN]
      clear hNN
      by_cases hf : 0 < f
      · go_wp2_with fail
        go_roundg cnt'
        case measure => omega
        case rel => exact ⟨_, _, HR6, HL2, by simp only [List.length_cons]; omega, by rw [HN3.out, if_pos hf]; go_num, HT5⟩
      · go_wp2_with fail
        go_roundg cnt'
        case measure => omega
        case rel => exact ⟨_, _, HR6, HL2, by simp only [List.length_cons]; omega, by rw [HN3.out, if_neg (by omega)]; rfl, HT5⟩
end
end Go.Proofs.YtiohpmcedfbcgabGreatDoor
/- The document's spaces: Change as Map, Unmap, Protect. Conditions: each theorem's own premises. -/
namespace Go.Proofs.YtiohpmcedfbcgabGreatDoor
open Go.RowKit Go.MapKept
set_option linter.unusedVariables false

/-- One space of the document's, and what others hold. -/
structure QOne (w : World) (rb rm : Nat) (n nx : Int) (rl : List (Int × Nat)) (qm : Nat) (Q : Int → Option Qg) (O : Int → Nat) : Prop where
  mem : RMem w rb rm n nx rl
  sp : RSp w qm Q
  ne : qm ≠ rb ∧ qm ≠ rm
  refs : ∀ g, 0 < g → RR rl g = O g + cntF (pgs Q) g
def QAfter (rb rm : Nat) (n nx : Int) (qm : Nat) (O : Int → Nat) (w w' : World) (Q' : Int → Option Qg) (rl' : List (Int × Nat)) : Prop :=
  QOne w' rb rm n nx rl' qm Q' O ∧ Turn (fun j => j = qm ∨ j = rm) w w'
section
variable {w w' w1 w2 w3 : World} {qm rb rm : Nat} {Q Q' : Int → Option Qg} {n nx : Int} {rl rl1 rl2 : List (Int × Nat)} {O : Int → Nat}
theorem QOne.turned {S : Nat → Prop} (h : QOne w rb rm n nx rl qm Q O) (tt : Turn S w w') (h1 : ¬ S rb) (h2 : ¬ S rm) (h3 : ¬ S qm) : QOne w' rb rm n nx rl qm Q O := ⟨h.mem.turned tt h1 h2, h.sp.turned tt h3, h.ne, h.refs⟩
theorem QOne.same (h : QOne w rb rm n nx rl qm Q O) (tt : Turn (fun _ => False) w w') : QAfter rb rm n nx qm O w w' Q rl := ⟨h.turned tt id id id, tt.mono (fun _ _ h => h.elim)⟩
theorem QAfter.trans {Q1 Q2 : Int → Option Qg} (h1 : QAfter rb rm n nx qm O w w1 Q1 rl1) (h2 : QAfter rb rm n nx qm O w1 w2 Q2 rl2) : QAfter rb rm n nx qm O w w2 Q2 rl2 := ⟨h2.1, h1.2.trans h2.2⟩
def setQ (Q : Int → Option Qg) (i : Int) (o : Option Qg) : Int → Option Qg := fun j => if j = i then o else Q j
theorem pgs_set (Q : Int → Option Qg) (i : Int) (o : Option Qg) : pgs (setQ Q i o) = setP (pgs Q) i (o.map pgQ) := by
  funext j
  unfold pgs setQ setP
  by_cases e : j = i
  · rw [if_pos e, if_pos e]
  · rw [if_neg e, if_neg e]
theorem RSp.put (h : RSp w qm Q) (tt : Turn (fun k => k = qm) w w') {ql : List (Int × Qg)} {i : Int} {q : Qg} (he : ∀ i, mget ql i = Q i) (hp : MapIs w' qm (.int .i64) encI encQ (mput ql i q)) (hi : 0 ≤ i ∧ i < 64) (hq : 1 ≤ q.1 ∧ q.1 ≤ 3 ∧ 0 ≤ q.2.2 ∧ q.2.2 < 1000000) : RSp w' qm (setQ Q i (some q)) := by
  refine ⟨⟨_, hp, fun j => by rw [mget_mput, he]; rfl⟩, fun j p hj => ?_, fun j p hj => ?_⟩
  · unfold setQ at hj
    by_cases e : j = i
    · rw [e]; exact hi
    · rw [if_neg e] at hj; exact h.dom j p hj
  · unfold setQ at hj
    by_cases e : j = i
    · rw [if_pos e] at hj; cases hj; exact hq
    · rw [if_neg e] at hj; exact h.ok j p hj
theorem RSp.del (h : RSp w qm Q) (tt : Turn (fun k => k = qm) w w') {ql : List (Int × Qg)} {i : Int} (he : ∀ i, mget ql i = Q i) (hp : MapIs w' qm (.int .i64) encI encQ (mdel ql i)) : RSp w' qm (setQ Q i none) := by
  refine ⟨⟨_, hp, fun j => by rw [mget_mdel, he]; rfl⟩, fun j p hj => ?_, fun j p hj => ?_⟩
  · unfold setQ at hj
    by_cases e : j = i
    · rw [if_pos e] at hj; cases hj
    · rw [if_neg e] at hj; exact h.dom j p hj
  · unfold setQ at hj
    by_cases e : j = i
    · rw [if_pos e] at hj; cases hj
    · rw [if_neg e] at hj; exact h.ok j p hj
theorem QOne.put (h : QOne w rb rm n nx rl qm Q O) (tt : Turn (fun k => k = qm) w w') {ql : List (Int × Qg)} {i : Int} {q : Qg} (he : ∀ i, mget ql i = Q i) (hp : MapIs w' qm (.int .i64) encI encQ (mput ql i q)) (hi : 0 ≤ i ∧ i < 64) (hq : 1 ≤ q.1 ∧ q.1 ≤ 3 ∧ 0 ≤ q.2.2 ∧ q.2.2 < 1000000)
    (hc : ∀ g, 0 < g → hasF ((Q i).map pgQ) g = if q.2.2 = g then 1 else 0) : QAfter rb rm n nx qm O w w' (setQ Q i (some q)) rl := by
  refine ⟨⟨h.mem.turned tt (fun e => h.ne.1 e.symm) (fun e => h.ne.2 e.symm), h.sp.put tt he hp hi hq, h.ne, fun g hg => ?_⟩, tt.mono (fun _ _ h => .inl h)⟩
  have h1 := h.refs g hg
  have h2 := cntF_set (pgs Q) i (some (pgQ q)) g hi.1 hi.2
  have h3 := hc g hg
  rw [pgs_set]
  show RR rl g = O g + cntF (setP (pgs Q) i (some (pgQ q))) g
  have h4 : hasF (some (pgQ q)) g = if q.2.2 = g then 1 else 0 := rfl
  have h5 : hasF (pgs Q i) g = hasF ((Q i).map pgQ) g := rfl
  omega
/-- The frame is let go, then the page goes. -/
theorem QOne.lost (h : QOne w rb rm n nx rl qm Q O) {i : Int} {q : Qg} (hi : Q i = some q) (hm : RMem w2 rb rm n nx rl2) (hR : ∀ g, RR rl2 g = if q.2.2 ≠ 0 ∧ g = q.2.2 then RR rl q.2.2 - 1 else RR rl g) (t2 : Turn (fun b => b = rm) w w2)
    (tt : Turn (fun k => k = qm) w2 w3) {ql : List (Int × Qg)} (he : ∀ i, mget ql i = Q i) (hp : MapIs w3 qm (.int .i64) encI encQ (mdel ql i)) : QAfter rb rm n nx qm O w w3 (setQ Q i none) rl2 := by
  have hd := h.sp.dom i q hi
  refine ⟨⟨hm.turned tt (fun e => h.ne.1 e.symm) (fun e => h.ne.2 e.symm), (h.sp.turned t2 h.ne.2).del tt he hp, h.ne, fun g hg => ?_⟩, (t2.mono (fun _ _ h => .inr h)).trans (tt.mono (fun _ _ h => .inl h))⟩
  have h1 := h.refs g hg
  have h2 := cntF_set (pgs Q) i none g hd.1 hd.2
  have h5 : hasF (pgs Q i) g = if q.2.2 = g then 1 else 0 := by unfold pgs; rw [hi]; rfl
  have h6 : hasF none g = 0 := rfl
  rw [hR g, pgs_set]
  show _ = O g + cntF (setP (pgs Q) i none) g
  by_cases e : g = q.2.2
  · subst e
    rw [if_pos ⟨by omega, rfl⟩]
    rw [if_pos rfl] at h5
    omega
  · rw [if_neg (fun h => e h.2)]
    rw [if_neg (fun h => e h.symm)] at h5
    omega
/-- Many pages at once. -/
def manyQ (Q : Int → Option Qg) (a k : Int) (f : Option Qg → Option Qg) : Int → Option Qg := fun i => if a ≤ i ∧ i < a + k then f (Q i) else Q i
theorem manyQ_start (Q : Int → Option Qg) (a : Int) (f : Option Qg → Option Qg) : manyQ Q a 0 f = Q := by
  funext i
  unfold manyQ
  rw [if_neg (by omega)]
theorem manyQ_at (Q : Int → Option Qg) (a : Int) (f : Option Qg → Option Qg) (j : Nat) : manyQ Q a j f (a + j) = Q (a + j) := if_neg (by omega)
theorem manyQ_more (Q : Int → Option Qg) (a : Int) (f : Option Qg → Option Qg) (j : Nat) : manyQ Q a ((j + 1 : Nat) : Int) f = setQ (manyQ Q a j f) (a + j) (f (Q (a + j))) := by
  funext i
  show (if a ≤ i ∧ i < a + ((j + 1 : Nat) : Int) then f (Q i) else Q i) = if i = a + j then f (Q (a + j)) else if a ≤ i ∧ i < a + j then f (Q i) else Q i
  by_cases h : i = a + j
  · rw [if_pos h, if_pos (by omega), h]
  · rw [if_neg h]
    by_cases h2 : a ≤ i ∧ i < a + j
    · rw [if_pos h2, if_pos (by omega)]
    · rw [if_neg h2, if_neg (by omega)]
theorem there_none {P : Int → Option Pg} {a : Int} {k : Nat} (h : thereN P a k = 0) (j : Nat) (hj : j < k) : P (a + j) = none := by
  have h5 : ∀ (g : Nat → Bool) (k j : Nat), j < k → g j = true → 0 < cntB g k := by
    intro g k
    induction k with
    | zero => intro j hj; omega
    | succ k ih =>
      intro j hj hg
      rw [cntB_succ]
      by_cases e : j = k
      · subst e; rw [hg]; simp
      · have := ih j (by omega) hg; omega
  cases hs : P (a + j) with
  | none => rfl
  | some q =>
    exfalso
    have h6 := h5 (fun j : Nat => (P (a + (j : Int))).isSome) k j hj (by simp only [hs]; rfl)
    unfold thereN at h
    omega
def mapQ (prot : Int) : Option Qg → Option Qg := fun _ => some (prot, fun _ => 0, 0)
def protQ (prot : Int) : Option Qg → Option Qg := fun o => o.map fun q => (prot, q.2.1, q.2.2)
def RMapped (rb rm : Nat) (n nx : Int) (rl : List (Int × Nat)) (qm : Nat) (Q : Int → Option Qg) (O : Int → Nat) (z : Int) (Q' : Int → Option Qg) (w : World) (e : Ending) (w' : World) : Prop :=
  e = .returned (.int .i64 z) ∧ ∃ rl', QAfter rb rm n nx qm O w w' (if z = 0 then Q' else Q) rl'
set_option maxHeartbeats 2000000 in
set_option maxRecDepth 100000 in
theorem rmap_is (h : QOne w rb rm n nx rl qm Q O) (a k prot : Int) :
    Calls Tryz.prog 13 #[.map (some qm), .pointer (some ⟨rb, 0, none⟩), .int .i64 0, .int .i64 a, .int .i64 k, .int .i64 prot] w (RMapped rb rm n nx rl qm Q O (mapE (pgs Q) a k prot) (manyQ Q a k (mapQ prot)) w) := by
  have H := hid h
  have HP := hid (pages_is a k w)
  have HI := hid (rin_is prot 1 3 w)
  unfold RMapped
  by_cases hr : RightP a k
  · rw [decide_eq_true hr] at HP
    obtain ⟨r0, r1, r2, r3⟩ := hr
    obtain ⟨k, rfl⟩ : ∃ n : Nat, k = n := ⟨k.toNat, by omega⟩
    have e1 : mapE (pgs Q) a k prot = if prot < 1 ∨ 3 < prot then 1 else if 0 < thereN (pgs Q) a k then 9 else 0 := by
      unfold mapE
      rw [if_neg (fun h => h ⟨r0, r1, r2, r3⟩), Int.toNat_natCast]
    by_cases hp : 1 ≤ prot ∧ prot ≤ 3
    · rw [decide_eq_true hp] at HI
      rw [if_neg (by omega)] at e1
      have HTh := hid (rhas_is h.sp a k r0 (by omega))
      have HNone := hid (there_none (P := pgs Q) (a := a) (k := k))
      obtain ⟨T, hT⟩ : ∃ T, thereN (pgs Q) a k = T := ⟨_, rfl⟩
      rw [hT] at HTh e1 HNone
      by_cases ht : 0 < T
      · rw [if_pos ht] at e1
        rw [e1]
        have ht' : (0 : Int) < T := by omega
        clear h e1 hT
        go_enter Tryz.func13, Tryz.ntmps13
        go_wp2_with fail
        refine HP.out.mono ?_
        rintro e w1 ⟨rfl, rfl⟩
        go_wp2_with fail
        refine HI.out.mono ?_
        rintro e w1 ⟨rfl, rfl⟩
        go_wp2_with fail
        refine HTh.out.mono ?_
        rintro e w1 ⟨rfl, t1⟩
        have HT1 := hid t1
        clear t1
        go_wp2_with fail
        go_ret
        exact ⟨rfl, rl, H.out.same HT1.out⟩
      · rw [if_neg ht] at e1
        rw [e1]
        have ht' : ¬ (0 : Int) < T := by omega
        have hT0 : T = 0 := by omega
        have HT0 := hid hT0
        clear h e1 hT hT0
        go_enter Tryz.func13, Tryz.ntmps13
        go_wp2_with fail
        refine HP.out.mono ?_
        rintro e w1 ⟨rfl, rfl⟩
        go_wp2_with fail
        refine HI.out.mono ?_
        rintro e w1 ⟨rfl, rfl⟩
        go_wp2_with fail
        refine HTh.out.mono ?_
        rintro e w1 ⟨rfl, t1⟩
        have HT1 := hid t1
        clear t1
        go_wp2_with fail
        go_loopg [45] k (fun gl i wr => ∃ j : Nat, j + gl = k ∧ i = .int .i64 j ∧ Hid (QAfter rb rm n nx qm O w wr (manyQ Q a j (mapQ prot)) rl))
        case atStart => exact ⟨0, by omega, rfl, hid (by rw [Int.natCast_zero, manyQ_start]; exact H.out.same HT1.out)⟩
        case round =>
          obtain ⟨j, hj, rfl, hS⟩ := hrel
          by_cases hlt : j < k
          · have hlt' : (j : Int) < k := by omega
            have hq0 : Q (a + j) = none := by
              have h1 := HNone.out HT0.out j hlt
              unfold pgs at h1
              cases hq : Q (a + j) with
              | none => rfl
              | some q => rw [hq] at h1; cases h1
            have hqj : manyQ Q a j (mapQ prot) (a + j) = none := (manyQ_at _ _ _ _).trans hq0
            have HQ := hid hqj
            have HMore := hid (manyQ_more Q a (mapQ prot) j)
            have lk := look_q hS.out.1.sp (a + j)
            rw [hqj] at lk
            simp only [Option.getD_none, encQ, noQ] at lk
            obtain ⟨ql, hql, he⟩ := hS.out.1.sp.pages
            have HE := hid he
            have HQl := hid (hql.turned ((Turn.refl (fun _ => False) wr).alloc (.cells #[.int .i64 0, .int .i64 0, .int .i64 0, .int .i64 0, .int .i64 0, .int .i64 0, .int .i64 0, .int .i64 0, .int .i64 0, .int .i64 0] 147)) id)
            have hw1 : IntKind.i64.wrap (a + j) = a + j := IntWalk.i64_in _ (by omega)
            clear hql he hq0 hqj
            go_wp2_with (at_mapUpdate; refine wpList_mapput rfl _ _ _ 42 3 147 rfl Tryz.underlying42 Tryz.underlying3 keyI qm rfl HQl.out (a + j) rfl (prot, fun _ => 0, 0) rfl ?_; intro w4 hm4 t4; have HM4 := hid hm4; have HT4 := hid t4; clear hm4 t4)
            go_roundg (gk - 1)
            case measure => omega
            case rel =>
              refine ⟨j + 1, by omega, by go_num, hid ?_⟩
              rw [HMore.out]
              have hA := hS.out.1.same ((Turn.refl (fun _ => False) wr).alloc (.cells #[.int .i64 0, .int .i64 0, .int .i64 0, .int .i64 0, .int .i64 0, .int .i64 0, .int .i64 0, .int .i64 0, .int .i64 0, .int .i64 0] 147))
              exact (hS.out.trans hA).trans (hA.1.put HT4.out HE.out HM4.out ⟨by omega, by omega⟩ ⟨by simp only; omega, by simp only; omega, by simp only; omega, by simp only; omega⟩ (fun g hg => by rw [HQ.out]; simp only; rw [if_neg (by omega)]; rfl))
          · have hlt' : ¬ (j : Int) < k := by omega
            obtain rfl : j = k := by omega
            go_wp2_with fail
            go_ret
            exact ⟨rfl, rl, hS.out⟩
    · rw [decide_eq_false hp] at HI
      rw [if_pos (by omega)] at e1
      rw [e1]
      clear h e1
      go_enter Tryz.func13, Tryz.ntmps13
      go_wp2_with fail
      refine HP.out.mono ?_
      rintro e w1 ⟨rfl, rfl⟩
      go_wp2_with fail
      refine HI.out.mono ?_
      rintro e w1 ⟨rfl, rfl⟩
      go_wp2_with fail
      go_ret
      exact ⟨rfl, rl, H.out.same (Turn.refl _ _)⟩
  · rw [decide_eq_false hr] at HP
    have e1 : mapE (pgs Q) a k prot = 2 := by unfold mapE; rw [if_pos hr]
    rw [e1]
    clear h e1
    go_enter Tryz.func13, Tryz.ntmps13
    go_wp2_with fail
    refine HP.out.mono ?_
    rintro e w1 ⟨rfl, rfl⟩
    go_wp2_with fail
    go_ret
    exact ⟨rfl, rl, H.out.same (Turn.refl _ _)⟩
end
end Go.Proofs.YtiohpmcedfbcgabGreatDoor
/- The document's spaces: Change as Unmap, and as Protect. Conditions: each theorem's own premises. -/
namespace Go.Proofs.YtiohpmcedfbcgabGreatDoor
open Go.RowKit Go.MapKept
set_option linter.unusedVariables false

section
variable {w w' w1 w2 w3 : World} {qm rb rm : Nat} {Q Q' : Int → Option Qg} {n nx : Int} {rl rl1 rl2 : List (Int × Nat)} {O : Int → Nat}
theorem QOne.held (h : QOne w rb rm n nx rl qm Q O) {i : Int} {q : Qg} (hi : Q i = some q) (h0 : q.2.2 ≠ 0) : 0 < RR rl q.2.2 := by
  have hd := h.sp.dom i q hi
  have hk := h.sp.ok i q hi
  have h1 := h.refs q.2.2 (by omega)
  have h2 := cntF_ge (P := pgs Q) (i := i) (f := q.2.2) hd.1 hd.2
  have h5 : hasF (pgs Q i) q.2.2 = 1 := by unfold pgs; rw [hi]; exact if_pos rfl
  omega
theorem pgs_some {i : Int} {p : Pg} (h : pgs Q i = some p) : ∃ q, Q i = some q ∧ pgQ q = p := by
  unfold pgs at h
  cases hq : Q i with
  | none => rw [hq] at h; cases h
  | some q => rw [hq] at h; exact ⟨q, rfl, Option.some.inj h⟩
def pageObj (q1 : Int) (qw : Nat → Int) (f : Int) : Obj := .cells #[.int .i64 q1, .int .i64 (qw 0), .int .i64 (qw 1), .int .i64 (qw 2), .int .i64 (qw 3), .int .i64 (qw 4), .int .i64 (qw 5), .int .i64 (qw 6), .int .i64 (qw 7), .int .i64 f] 147
set_option maxHeartbeats 2000000 in
set_option maxRecDepth 100000 in
theorem runmap_is (h : QOne w rb rm n nx rl qm Q O) (a k : Int) :
    Calls Tryz.prog 13 #[.map (some qm), .pointer (some ⟨rb, 0, none⟩), .int .i64 1, .int .i64 a, .int .i64 k, .int .i64 0] w (RMapped rb rm n nx rl qm Q O (unmapE (pgs Q) a k) (manyQ Q a k fun _ => none) w) := by
  have H := hid h
  have HP := hid (pages_is a k w)
  unfold RMapped
  by_cases hr : RightP a k
  · rw [decide_eq_true hr] at HP
    obtain ⟨r0, r1, r2, r3⟩ := hr
    obtain ⟨k, rfl⟩ : ∃ n : Nat, k = n := ⟨k.toNat, by omega⟩
    have e1 : unmapE (pgs Q) a k = if (thereN (pgs Q) a k : Int) < k then 7 else 0 := by
      unfold unmapE
      rw [if_neg (fun h => h ⟨r0, r1, r2, r3⟩), Int.toNat_natCast]
    have HTh := hid (rhas_is h.sp a k r0 (by omega))
    have HAll := hid (there_all (P := pgs Q) (a := a) (k := k))
    obtain ⟨T, hT⟩ : ∃ T, thereN (pgs Q) a k = T := ⟨_, rfl⟩
    rw [hT] at HTh e1 HAll
    by_cases ht : T < k
    · have ht' : (T : Int) < k := by omega
      rw [if_pos ht'] at e1
      rw [e1]
      clear h e1 hT
      go_enter Tryz.func13, Tryz.ntmps13
      go_wp2_with fail
      refine HP.out.mono ?_
      rintro e w1 ⟨rfl, rfl⟩
      go_wp2_with fail
      refine HTh.out.mono ?_
      rintro e w1 ⟨rfl, t1⟩
      have HT1 := hid t1
      clear t1
      go_wp2_with fail
      go_ret
      exact ⟨rfl, rl, H.out.same HT1.out⟩
    · have ht' : ¬ (T : Int) < k := by omega
      rw [if_neg ht'] at e1
      rw [e1]
      clear h e1 hT
      go_enter Tryz.func13, Tryz.ntmps13
      go_wp2_with fail
      refine HP.out.mono ?_
      rintro e w1 ⟨rfl, rfl⟩
      go_wp2_with fail
      refine HTh.out.mono ?_
      rintro e w1 ⟨rfl, t1⟩
      have HT1 := hid t1
      clear t1
      go_wp2_with fail
      go_loopg [45] k (fun gl i wr => ∃ (j : Nat) (rj : List (Int × Nat)), j + gl = k ∧ i = .int .i64 j ∧ Hid (QAfter rb rm n nx qm O w wr (manyQ Q a j fun _ => none) rj))
      case atStart => exact ⟨0, rl, by omega, rfl, hid (by rw [Int.natCast_zero, manyQ_start]; exact H.out.same HT1.out)⟩
      case round =>
        obtain ⟨j, rj, hj, rfl, hS⟩ := hrel
        by_cases hlt : j < k
        · have hlt' : (j : Int) < k := by omega
          obtain ⟨p, hp⟩ := HAll.out ht j hlt
          obtain ⟨⟨q1, qw, f⟩, hq, _⟩ := pgs_some hp
          have hqj : manyQ Q a j (fun _ => none) (a + j) = some (q1, qw, f) := (manyQ_at _ _ _ _).trans hq
          have HQ := hid hqj
          have HMore := hid (manyQ_more Q a (fun _ => none) j)
          have lk := look_q hS.out.1.sp (a + j)
          rw [hqj] at lk
          simp only [Option.getD_some, encQ] at lk
          obtain ⟨ql, hql, he⟩ := hS.out.1.sp.pages
          have HE := hid he
          have TA : Turn (fun _ => False) wr (wr.alloc (pageObj q1 qw f)) := (Turn.refl _ _).alloc _
          have HTA := hid TA
          have HQl := hid (hql.turned TA id)
          have HLs := hid (less_is (hS.out.1.mem.turned TA id id) f (fun h0 => hS.out.1.held hqj h0))
          unfold pageObj at HLs
          have hw1 : IntKind.i64.wrap (a + j) = a + j := IntWalk.i64_in _ (by omega)
          clear hql he hq hqj hp TA
          go_wp2_with fail
          refine HLs.out.mono ?_
          rintro e w5 ⟨rfl, r5, hm5, hR5, t5⟩
          have HM5 := hid hm5
          have HR5 := hid hR5
          have HT5 := hid t5
          have HQl5 := hid (HQl.out.turned t5 hS.out.1.ne.2)
          clear hm5 hR5 t5 HLs
          go_wp2_with (at_delete; refine wpList_mapdel rfl _ _ 42 3 147 rfl Tryz.underlying42 Tryz.underlying3 keyI qm rfl HQl5.out (a + j) rfl ?_; intro w6 hm6 t6; have HM6 := hid hm6; have HT6 := hid t6; clear hm6 t6)
          go_roundg (gk - 1)
          case measure => omega
          case rel =>
            refine ⟨j + 1, r5, by omega, by go_num, hid ?_⟩
            rw [HMore.out]
            have hA := hS.out.1.same HTA.out
            exact (hS.out.trans hA).trans (hA.1.lost HQ.out HM5.out HR5.out HT5.out HT6.out HE.out HM6.out)
        · have hlt' : ¬ (j : Int) < k := by omega
          obtain rfl : j = k := by omega
          go_wp2_with fail
          go_ret
          exact ⟨rfl, rj, hS.out⟩
  · rw [decide_eq_false hr] at HP
    have e1 : unmapE (pgs Q) a k = 2 := by unfold unmapE; rw [if_pos hr]
    rw [e1]
    clear h e1
    go_enter Tryz.func13, Tryz.ntmps13
    go_wp2_with fail
    refine HP.out.mono ?_
    rintro e w1 ⟨rfl, rfl⟩
    go_wp2_with fail
    go_ret
    exact ⟨rfl, rl, H.out.same (Turn.refl _ _)⟩
end
end Go.Proofs.YtiohpmcedfbcgabGreatDoor
/- The document's spaces: Change as Protect. Conditions: each theorem's own premises. -/
namespace Go.Proofs.YtiohpmcedfbcgabGreatDoor
open Go.RowKit Go.MapKept
set_option linter.unusedVariables false

section
variable {w w' w1 w2 w3 : World} {qm rb rm : Nat} {Q Q' : Int → Option Qg} {n nx : Int} {rl rl1 rl2 : List (Int × Nat)} {O : Int → Nat}
set_option maxHeartbeats 2000000 in
set_option maxRecDepth 100000 in
theorem rprot_is (h : QOne w rb rm n nx rl qm Q O) (a k prot : Int) :
    Calls Tryz.prog 13 #[.map (some qm), .pointer (some ⟨rb, 0, none⟩), .int .i64 2, .int .i64 a, .int .i64 k, .int .i64 prot] w (RMapped rb rm n nx rl qm Q O (protE (pgs Q) a k prot) (manyQ Q a k (protQ prot)) w) := by
  have H := hid h
  have HP := hid (pages_is a k w)
  have HI := hid (rin_is prot 1 3 w)
  unfold RMapped
  by_cases hr : RightP a k
  · rw [decide_eq_true hr] at HP
    obtain ⟨r0, r1, r2, r3⟩ := hr
    obtain ⟨k, rfl⟩ : ∃ n : Nat, k = n := ⟨k.toNat, by omega⟩
    have e1 : protE (pgs Q) a k prot = if prot < 1 ∨ 3 < prot then 1 else if (thereN (pgs Q) a k : Int) < k then 7 else 0 := by
      unfold protE
      rw [if_neg (fun h => h ⟨r0, r1, r2, r3⟩), Int.toNat_natCast]
    by_cases hp : 1 ≤ prot ∧ prot ≤ 3
    · rw [decide_eq_true hp] at HI
      rw [if_neg (by omega)] at e1
      have HTh := hid (rhas_is h.sp a k r0 (by omega))
      have HAll := hid (there_all (P := pgs Q) (a := a) (k := k))
      obtain ⟨T, hT⟩ : ∃ T, thereN (pgs Q) a k = T := ⟨_, rfl⟩
      rw [hT] at HTh e1 HAll
      by_cases ht : T < k
      · have ht' : (T : Int) < k := by omega
        rw [if_pos ht'] at e1
        rw [e1]
        clear h e1 hT
        go_enter Tryz.func13, Tryz.ntmps13
        go_wp2_with fail
        refine HP.out.mono ?_
        rintro e w1 ⟨rfl, rfl⟩
        go_wp2_with fail
        refine HI.out.mono ?_
        rintro e w1 ⟨rfl, rfl⟩
        go_wp2_with fail
        refine HTh.out.mono ?_
        rintro e w1 ⟨rfl, t1⟩
        have HT1 := hid t1
        clear t1
        go_wp2_with fail
        go_ret
        exact ⟨rfl, rl, H.out.same HT1.out⟩
      · have ht' : ¬ (T : Int) < k := by omega
        rw [if_neg ht'] at e1
        rw [e1]
        clear h e1 hT
        go_enter Tryz.func13, Tryz.ntmps13
        go_wp2_with fail
        refine HP.out.mono ?_
        rintro e w1 ⟨rfl, rfl⟩
        go_wp2_with fail
        refine HI.out.mono ?_
        rintro e w1 ⟨rfl, rfl⟩
        go_wp2_with fail
        refine HTh.out.mono ?_
        rintro e w1 ⟨rfl, t1⟩
        have HT1 := hid t1
        clear t1
        go_wp2_with fail
        go_loopg [45] k (fun gl i wr => ∃ j : Nat, j + gl = k ∧ i = .int .i64 j ∧ Hid (QAfter rb rm n nx qm O w wr (manyQ Q a j (protQ prot)) rl))
        case atStart => exact ⟨0, by omega, rfl, hid (by rw [Int.natCast_zero, manyQ_start]; exact H.out.same HT1.out)⟩
        case round =>
          obtain ⟨j, hj, rfl, hS⟩ := hrel
          by_cases hlt : j < k
          · have hlt' : (j : Int) < k := by omega
            obtain ⟨p, hpp⟩ := HAll.out ht j hlt
            obtain ⟨⟨q1, qw, f⟩, hq, _⟩ := pgs_some hpp
            have hqj : manyQ Q a j (protQ prot) (a + j) = some (q1, qw, f) := (manyQ_at _ _ _ _).trans hq
            have HQ := hid hqj
            have HMore : Hid (manyQ Q a ((j + 1 : Nat) : Int) (protQ prot) = setQ (manyQ Q a j (protQ prot)) (a + j) (some (prot, qw, f))) := hid (by rw [manyQ_more, hq]; rfl)
            have lk := look_q hS.out.1.sp (a + j)
            rw [hqj] at lk
            simp only [Option.getD_some, encQ] at lk
            obtain ⟨ql, hql, he⟩ := hS.out.1.sp.pages
            have HE := hid he
            have TA : Turn (fun _ => False) wr (wr.alloc (pageObj prot qw f)) := (Turn.refl _ _).alloc _
            have HTA := hid TA
            have HQl := hid (hql.turned TA id)
            unfold pageObj at HQl
            have hw1 : IntKind.i64.wrap (a + j) = a + j := IntWalk.i64_in _ (by omega)
            clear hql he hq hqj hpp TA
            go_wp2_with (at_mapUpdate; refine wpList_mapput rfl _ _ _ 42 3 147 rfl Tryz.underlying42 Tryz.underlying3 keyI qm rfl HQl.out (a + j) rfl (prot, qw, f) rfl ?_; intro w4 hm4 t4; have HM4 := hid hm4; have HT4 := hid t4; clear hm4 t4)
            go_roundg (gk - 1)
            case measure => omega
            case rel =>
              refine ⟨j + 1, by omega, by go_num, hid ?_⟩
              rw [HMore.out]
              have hA := hS.out.1.same HTA.out
              have hok := hS.out.1.sp.ok _ _ HQ.out
              exact (hS.out.trans hA).trans (hA.1.put HT4.out HE.out HM4.out (hS.out.1.sp.dom _ _ HQ.out) ⟨by simp only; omega, by simp only; omega, hok.2.2⟩ (fun g hg => by rw [HQ.out]; rfl))
          · have hlt' : ¬ (j : Int) < k := by omega
            obtain rfl : j = k := by omega
            go_wp2_with fail
            go_ret
            exact ⟨rfl, rl, hS.out⟩
    · rw [decide_eq_false hp] at HI
      rw [if_pos (by omega)] at e1
      rw [e1]
      clear h e1
      go_enter Tryz.func13, Tryz.ntmps13
      go_wp2_with fail
      refine HP.out.mono ?_
      rintro e w1 ⟨rfl, rfl⟩
      go_wp2_with fail
      refine HI.out.mono ?_
      rintro e w1 ⟨rfl, rfl⟩
      go_wp2_with fail
      go_ret
      exact ⟨rfl, rl, H.out.same (Turn.refl _ _)⟩
  · rw [decide_eq_false hr] at HP
    have e1 : protE (pgs Q) a k prot = 2 := by unfold protE; rw [if_pos hr]
    rw [e1]
    clear h e1
    go_enter Tryz.func13, Tryz.ntmps13
    go_wp2_with fail
    refine HP.out.mono ?_
    rintro e w1 ⟨rfl, rfl⟩
    go_wp2_with fail
    go_ret
    exact ⟨rfl, rl, H.out.same (Turn.refl _ _)⟩
end
end Go.Proofs.YtiohpmcedfbcgabGreatDoor
/- The document's spaces: Store. Conditions: each theorem's own premises. -/
namespace Go.Proofs.YtiohpmcedfbcgabGreatDoor
open Go.RowKit Go.MapKept
set_option linter.unusedVariables false

section
variable {w w' w1 w2 w3 : World} {qm rb rm : Nat} {Q Q' : Int → Option Qg} {n nx : Int} {rl rl1 rl2 : List (Int × Nat)} {O : Int → Nat}
def updW (qw : Nat → Int) (j : Nat) (v : Int) : Nat → Int := fun i => if i = j then v else qw i
def RAccOk (qm : Nat) (a wd : Int) (w : World) : Prop := Calls Tryz.prog 66 #[.map (some qm), .int .i64 a, .int .i64 wd, .int .i64 2] w fun e w' => e = .returned (.int .i64 0) ∧ Turn (fun _ => False) w w'
set_option maxHeartbeats 1000000 in
set_option maxRecDepth 100000 in
theorem rstore_err (h : RSp w qm Q) (a wd v z : Int) (hz : z ≠ 0) (he : accE (pgs Q) a wd 2 = z) : Calls Tryz.prog 19 #[.map (some qm), .pointer (some ⟨rb, 0, none⟩), .int .i64 a, .int .i64 wd, .int .i64 v] w fun e w' => e = .returned (.int .i64 z) ∧ Turn (fun _ => False) w w' := by
  have HU := hid (ruse_is h a wd 2 (by omega))
  unfold RUsed at HU
  rw [he] at HU
  have hb : (z != 0) = true := by simp [hz]
  clear h he
  go_enter Tryz.func19, Tryz.ntmps19
  go_wp2_with fail
  refine HU.out.mono ?_
  rintro e w1 ⟨rfl, t1⟩
  have HT1 := hid t1
  clear t1
  go_wp2_with fail
  go_ret
  exact ⟨rfl, HT1.out⟩
def RStoredOwn (rb rm : Nat) (n nx : Int) (rl : List (Int × Nat)) (qm : Nat) (Q : Int → Option Qg) (O : Int → Nat) (a : Int) (q : Qg) (w : World) (e : Ending) (w' : World) : Prop :=
  e = .returned (.int .i64 0) ∧ QAfter rb rm n nx qm O w w' (setQ Q a (some q)) rl
set_option maxHeartbeats 4000000 in
set_option maxRecDepth 100000 in
theorem rstore_own (h : QOne w rb rm n nx rl qm Q O) {a v q1 f : Int} {qw : Nat → Int} (j : Nat) (hj8 : j < 8) (hq : Q a = some (q1, qw, f)) (HA : RAccOk qm a j w) (hf : f ≠ 0) (hr : RR rl f ≤ 1) :
    Calls Tryz.prog 19 #[.map (some qm), .pointer (some ⟨rb, 0, none⟩), .int .i64 a, .int .i64 j, .int .i64 v] w (RStoredOwn rb rm n nx rl qm Q O a (q1, updW qw j v, f) w) := by
  have H := hid h
  have HQ := hid hq
  have HA' := hid HA
  unfold RAccOk at HA'
  have hb : (f == 0) = false := by simp [hf]
  obtain ⟨rv, hrv2⟩ : ∃ rv : Nat, (mget rl f).getD 0 = rv := ⟨_, rfl⟩
  have hrv3 : rv ≤ 1 := by rw [← hrv2]; exact hr
  have hrv : decide ((1 : Int) < rv) = false := decide_eq_false (by omega)
  have hw4 : IntKind.i64.wrap ((j : Int) + 1) = (j : Int) + 1 := IntWalk.i64_in _ (by omega)
  have e : j = 0 ∨ j = 1 ∨ j = 2 ∨ j = 3 ∨ j = 4 ∨ j = 5 ∨ j = 6 ∨ j = 7 := by omega
  have HLk : Hid (∀ w', Turn (fun _ => False) w w' → (Instr.lookup 42 (.map (some qm)) (.int .i64 a) false).run Tryz.prog w' = .ok (encQ (q1, qw, f)) w') := hid (fun w' tt => by
    have h1 := look_q (h.sp.turned tt id) a
    rw [hq] at h1
    exact h1)
  have HRc : Hid (∀ w', Turn (fun _ => False) w w' → (Instr.lookup 92 (.map (some rm)) (.int .i64 f) false).run Tryz.prog w' = .ok (.int .i64 (rv : Int)) w') := hid (fun w' tt => by
    have h1 := look_rc (h.mem.turned tt id id).refs f
    rw [hrv2] at h1
    exact h1)
  obtain ⟨ql, hql, he⟩ := h.sp.pages
  have HE := hid he
  have HQl := hid hql
  clear h hq HA hf hr hrv2 hrv3 hql he hj8 hw4
  rcases e with rfl | rfl | rfl | rfl | rfl | rfl | rfl | rfl
  all_goals
    go_enter Tryz.func19, Tryz.ntmps19
    go_wp2_with fail
    refine HA'.out.mono ?_
    rintro e w1 ⟨rfl, t1⟩
    have HT1 := hid t1
    have lk := HLk.out w1 t1
    simp only [encQ] at lk
    have rc := fun k => HRc.out ((w1.alloc (pageObj q1 qw f)).drewN k) ((t1.alloc _).drewN k)
    unfold pageObj at rc
    have c1 := (H.out.mem.turned (t1.alloc (pageObj q1 qw f)) id id).c1
    unfold pageObj at c1
    clear t1
    go_wp2_with fail
    go_quiet (fail)
  · have TS := ((HT1.out.alloc (pageObj q1 qw f)).drewN nq).setCell ⟨w1.heap.size, 0 + 1, none⟩ (.int .i64 v) (fun hl => absurd hl (Nat.not_lt.2 HT1.out.size))
    unfold pageObj at TS
    have HTS := hid TS
    have HQl2 := hid (HQl.out.turned TS id)
    clear TS
    go_wp2_with (at_mapUpdate; refine wpList_mapput rfl _ _ _ 42 3 147 rfl Tryz.underlying42 Tryz.underlying3 keyI qm rfl HQl2.out a rfl (q1, updW qw 0 v, f) rfl ?_; intro w4 hm4 t4; have HM4 := hid hm4; have HT4 := hid t4; clear hm4 t4)
    go_ret
    have hA := H.out.same HTS.out
    have hok := H.out.sp.ok _ _ HQ.out
    exact ⟨rfl, hA.trans (hA.1.put HT4.out HE.out HM4.out (H.out.sp.dom _ _ HQ.out) hok (fun g hg => by rw [HQ.out]; rfl))⟩
  · have TS := ((HT1.out.alloc (pageObj q1 qw f)).drewN nq).setCell ⟨w1.heap.size, 1 + 1, none⟩ (.int .i64 v) (fun hl => absurd hl (Nat.not_lt.2 HT1.out.size))
    unfold pageObj at TS
    have HTS := hid TS
    have HQl2 := hid (HQl.out.turned TS id)
    clear TS
    go_wp2_with (at_mapUpdate; refine wpList_mapput rfl _ _ _ 42 3 147 rfl Tryz.underlying42 Tryz.underlying3 keyI qm rfl HQl2.out a rfl (q1, updW qw 1 v, f) rfl ?_; intro w4 hm4 t4; have HM4 := hid hm4; have HT4 := hid t4; clear hm4 t4)
    go_ret
    have hA := H.out.same HTS.out
    have hok := H.out.sp.ok _ _ HQ.out
    exact ⟨rfl, hA.trans (hA.1.put HT4.out HE.out HM4.out (H.out.sp.dom _ _ HQ.out) hok (fun g hg => by rw [HQ.out]; rfl))⟩
  · have TS := ((HT1.out.alloc (pageObj q1 qw f)).drewN nq).setCell ⟨w1.heap.size, 2 + 1, none⟩ (.int .i64 v) (fun hl => absurd hl (Nat.not_lt.2 HT1.out.size))
    unfold pageObj at TS
    have HTS := hid TS
    have HQl2 := hid (HQl.out.turned TS id)
    clear TS
    go_wp2_with (at_mapUpdate; refine wpList_mapput rfl _ _ _ 42 3 147 rfl Tryz.underlying42 Tryz.underlying3 keyI qm rfl HQl2.out a rfl (q1, updW qw 2 v, f) rfl ?_; intro w4 hm4 t4; have HM4 := hid hm4; have HT4 := hid t4; clear hm4 t4)
    go_ret
    have hA := H.out.same HTS.out
    have hok := H.out.sp.ok _ _ HQ.out
    exact ⟨rfl, hA.trans (hA.1.put HT4.out HE.out HM4.out (H.out.sp.dom _ _ HQ.out) hok (fun g hg => by rw [HQ.out]; rfl))⟩
  · have TS := ((HT1.out.alloc (pageObj q1 qw f)).drewN nq).setCell ⟨w1.heap.size, 3 + 1, none⟩ (.int .i64 v) (fun hl => absurd hl (Nat.not_lt.2 HT1.out.size))
    unfold pageObj at TS
    have HTS := hid TS
    have HQl2 := hid (HQl.out.turned TS id)
    clear TS
    go_wp2_with (at_mapUpdate; refine wpList_mapput rfl _ _ _ 42 3 147 rfl Tryz.underlying42 Tryz.underlying3 keyI qm rfl HQl2.out a rfl (q1, updW qw 3 v, f) rfl ?_; intro w4 hm4 t4; have HM4 := hid hm4; have HT4 := hid t4; clear hm4 t4)
    go_ret
    have hA := H.out.same HTS.out
    have hok := H.out.sp.ok _ _ HQ.out
    exact ⟨rfl, hA.trans (hA.1.put HT4.out HE.out HM4.out (H.out.sp.dom _ _ HQ.out) hok (fun g hg => by rw [HQ.out]; rfl))⟩
  · have TS := ((HT1.out.alloc (pageObj q1 qw f)).drewN nq).setCell ⟨w1.heap.size, 4 + 1, none⟩ (.int .i64 v) (fun hl => absurd hl (Nat.not_lt.2 HT1.out.size))
    unfold pageObj at TS
    have HTS := hid TS
    have HQl2 := hid (HQl.out.turned TS id)
    clear TS
    go_wp2_with (at_mapUpdate; refine wpList_mapput rfl _ _ _ 42 3 147 rfl Tryz.underlying42 Tryz.underlying3 keyI qm rfl HQl2.out a rfl (q1, updW qw 4 v, f) rfl ?_; intro w4 hm4 t4; have HM4 := hid hm4; have HT4 := hid t4; clear hm4 t4)
    go_ret
    have hA := H.out.same HTS.out
    have hok := H.out.sp.ok _ _ HQ.out
    exact ⟨rfl, hA.trans (hA.1.put HT4.out HE.out HM4.out (H.out.sp.dom _ _ HQ.out) hok (fun g hg => by rw [HQ.out]; rfl))⟩
  · have TS := ((HT1.out.alloc (pageObj q1 qw f)).drewN nq).setCell ⟨w1.heap.size, 5 + 1, none⟩ (.int .i64 v) (fun hl => absurd hl (Nat.not_lt.2 HT1.out.size))
    unfold pageObj at TS
    have HTS := hid TS
    have HQl2 := hid (HQl.out.turned TS id)
    clear TS
    go_wp2_with (at_mapUpdate; refine wpList_mapput rfl _ _ _ 42 3 147 rfl Tryz.underlying42 Tryz.underlying3 keyI qm rfl HQl2.out a rfl (q1, updW qw 5 v, f) rfl ?_; intro w4 hm4 t4; have HM4 := hid hm4; have HT4 := hid t4; clear hm4 t4)
    go_ret
    have hA := H.out.same HTS.out
    have hok := H.out.sp.ok _ _ HQ.out
    exact ⟨rfl, hA.trans (hA.1.put HT4.out HE.out HM4.out (H.out.sp.dom _ _ HQ.out) hok (fun g hg => by rw [HQ.out]; rfl))⟩
  · have TS := ((HT1.out.alloc (pageObj q1 qw f)).drewN nq).setCell ⟨w1.heap.size, 6 + 1, none⟩ (.int .i64 v) (fun hl => absurd hl (Nat.not_lt.2 HT1.out.size))
    unfold pageObj at TS
    have HTS := hid TS
    have HQl2 := hid (HQl.out.turned TS id)
    clear TS
    go_wp2_with (at_mapUpdate; refine wpList_mapput rfl _ _ _ 42 3 147 rfl Tryz.underlying42 Tryz.underlying3 keyI qm rfl HQl2.out a rfl (q1, updW qw 6 v, f) rfl ?_; intro w4 hm4 t4; have HM4 := hid hm4; have HT4 := hid t4; clear hm4 t4)
    go_ret
    have hA := H.out.same HTS.out
    have hok := H.out.sp.ok _ _ HQ.out
    exact ⟨rfl, hA.trans (hA.1.put HT4.out HE.out HM4.out (H.out.sp.dom _ _ HQ.out) hok (fun g hg => by rw [HQ.out]; rfl))⟩
  · have TS := ((HT1.out.alloc (pageObj q1 qw f)).drewN nq).setCell ⟨w1.heap.size, 7 + 1, none⟩ (.int .i64 v) (fun hl => absurd hl (Nat.not_lt.2 HT1.out.size))
    unfold pageObj at TS
    have HTS := hid TS
    have HQl2 := hid (HQl.out.turned TS id)
    clear TS
    go_wp2_with (at_mapUpdate; refine wpList_mapput rfl _ _ _ 42 3 147 rfl Tryz.underlying42 Tryz.underlying3 keyI qm rfl HQl2.out a rfl (q1, updW qw 7 v, f) rfl ?_; intro w4 hm4 t4; have HM4 := hid hm4; have HT4 := hid t4; clear hm4 t4)
    go_ret
    have hA := H.out.same HTS.out
    have hok := H.out.sp.ok _ _ HQ.out
    exact ⟨rfl, hA.trans (hA.1.put HT4.out HE.out HM4.out (H.out.sp.dom _ _ HQ.out) hok (fun g hg => by rw [HQ.out]; rfl))⟩
end
end Go.Proofs.YtiohpmcedfbcgabGreatDoor
/- The document's spaces: Store with no frame left, and with a new frame. Conditions: each theorem's own premises. -/
namespace Go.Proofs.YtiohpmcedfbcgabGreatDoor
open Go.RowKit Go.MapKept
set_option linter.unusedVariables false

section
variable {w w' w1 w2 w3 : World} {qm rb rm : Nat} {Q Q' : Int → Option Qg} {n nx : Int} {rl rl1 rl2 : List (Int × Nat)} {O : Int → Nat}
set_option maxHeartbeats 4000000 in
set_option maxRecDepth 100000 in
theorem rstore_full (h : QOne w rb rm n nx rl qm Q O) {a wd v q1 f : Int} {qw : Nat → Int} (hq : Q a = some (q1, qw, f)) (HA : RAccOk qm a wd w) (hf : ¬ (f ≠ 0 ∧ RR rl f ≤ 1)) (hl : (rl.length : Int) = n) :
    Calls Tryz.prog 19 #[.map (some qm), .pointer (some ⟨rb, 0, none⟩), .int .i64 a, .int .i64 wd, .int .i64 v] w fun e w' => e = .returned (.int .i64 12) ∧ Turn (fun _ => False) w w' := by
  have H := hid h
  have HA' := hid HA
  unfold RAccOk at HA'
  have hsm := h.mem.small
  have HLen : Hid (rl.length ≤ 100000 ∧ -100000 ≤ n ∧ n - rl.length = 0) := hid ⟨by omega, by omega, by omega⟩
  obtain ⟨rv, hrv2⟩ : ∃ rv : Nat, (mget rl f).getD 0 = rv := ⟨_, rfl⟩
  have hcase : (f == 0) = true ∨ (f == 0) = false ∧ decide ((1 : Int) < rv) = true := by
    by_cases e : f = 0
    · exact .inl (by simp [e])
    · have h1 : ¬ RR rl f ≤ 1 := fun h1 => hf ⟨e, h1⟩
      have h2 : RR rl f = rv := hrv2
      exact .inr ⟨by simp [e], decide_eq_true (by omega)⟩
  have HLk : Hid (∀ w', Turn (fun _ => False) w w' → (Instr.lookup 42 (.map (some qm)) (.int .i64 a) false).run Tryz.prog w' = .ok (encQ (q1, qw, f)) w') := hid (fun w' tt => by
    have h1 := look_q (h.sp.turned tt id) a
    rw [hq] at h1
    exact h1)
  have HRc : Hid (∀ w', Turn (fun _ => False) w w' → (Instr.lookup 92 (.map (some rm)) (.int .i64 f) false).run Tryz.prog w' = .ok (.int .i64 (rv : Int)) w') := hid (fun w' tt => by
    have h1 := look_rc (h.mem.turned tt id id).refs f
    rw [hrv2] at h1
    exact h1)
  clear h hq HA hf hrv2 hl hsm
  rcases hcase with hb | ⟨hb, hrv⟩
  all_goals
    go_enter Tryz.func19, Tryz.ntmps19
    go_wp2_with fail
    refine HA'.out.mono ?_
    rintro e w1 ⟨rfl, t1⟩
    have HT1 := hid t1
    have lk := HLk.out w1 t1
    simp only [encQ] at lk
    have rc := fun k => HRc.out ((w1.alloc (pageObj q1 qw f)).drewN k) ((t1.alloc _).drewN k)
    unfold pageObj at rc
    have c1 := (H.out.mem.turned (t1.alloc (pageObj q1 qw f)) id id).c1
    unfold pageObj at c1
    clear t1
    go_wp2_with fail
    go_quiet (fail)
    have TS := (HT1.out.alloc (pageObj q1 qw f)).drewN nq
    unfold pageObj at TS
    have HTS := hid TS
    have HL := hid (rleft_is (H.out.mem.turned TS id id) HLen.out.1 HLen.out.2.1)
    rw [HLen.out.2.2] at HL
    clear TS
    go_wp2_with fail
    refine HL.out.mono ?_
    rintro e w2 ⟨rfl, t2⟩
    have HT2 := hid t2
    clear t2
    go_wp2_with fail
    go_ret
    exact ⟨rfl, HTS.out.trans HT2.out⟩
/-- A page's cells in a block of its own. -/
def pv (q1 : Int) (qw : Nat → Int) (f : Int) (i : Nat) : Int := if i = 0 then q1 else if i = 9 then f else qw (i - 1)
structure PageAt (w : World) (c : Nat) (x : Nat → Int) : Prop where
  at_ : ∀ i, i < 10 → w.cell? ⟨c, i, none⟩ = some (.int .i64 (x i))
  free : ∀ i, w.frozen? ⟨c, i, none⟩ = false
theorem PageAt.turned {S : Nat → Prop} {c : Nat} {x : Nat → Int} (h : PageAt w c x) (tt : Turn S w w') (hn : ¬ S c) : PageAt w' c x :=
  ⟨fun i hi => (tt.cell (a := ⟨c, i, none⟩) (lt_of_cell (h.at_ i hi)) hn).trans (h.at_ i hi), fun i => (tt.frozen (a := ⟨c, i, none⟩) (lt_of_cell (a := ⟨c, 0, none⟩) (h.at_ 0 (by omega))) hn).trans (h.free i)⟩
theorem PageAt.set {c : Nat} {x : Nat → Int} (h : PageAt w c x) {k : Nat} (hk : k < 10) (z : Int) : PageAt (w.setCell ⟨c, k, none⟩ (.int .i64 z)) c (fun i => if i = k then z else x i) := by
  refine ⟨fun i hi => ?_, fun i => by rw [World.frozen?_setCell]; exact h.free i⟩
  by_cases e : i = k
  · subst e; simp only [if_pos]; exact World.cell?_setCell_same _ _ _ (h.at_ i hi)
  · rw [World.cell?_setCell_other _ _ _ _ (by intro e2; injection e2 with _ e2; omega)]
    simp only [if_neg e]; exact h.at_ i hi
theorem PageAt.cong {c : Nat} {x y : Nat → Int} (h : PageAt w c x) (e : ∀ i, i < 10 → x i = y i) : PageAt w c y := ⟨fun i hi => by rw [← e i hi]; exact h.at_ i hi, h.free⟩
theorem PageAt.fr {c : Nat} {q1 f : Int} {qw : Nat → Int} (h : PageAt w c (pv q1 qw f)) (g : Int) : PageAt (w.setCell ⟨c, 9, none⟩ (.int .i64 g)) c (pv q1 qw g) := by
  refine (h.set (k := 9) (by omega) g).cong fun i hi => ?_
  show (if i = 9 then g else pv q1 qw f i) = pv q1 qw g i
  unfold pv
  by_cases e : i = 9
  · rw [if_pos e, if_neg (by omega), if_pos e]
  · rw [if_neg e, if_neg e, if_neg e]
theorem PageAt.word {c : Nat} {q1 f : Int} {qw : Nat → Int} (h : PageAt w c (pv q1 qw f)) (j : Nat) (hj : j < 8) (v : Int) : PageAt (w.setCell ⟨c, j + 1, none⟩ (.int .i64 v)) c (pv q1 (updW qw j v) f) := by
  refine (h.set (k := j + 1) (by omega) v).cong fun i hi => ?_
  show (if i = j + 1 then v else pv q1 qw f i) = pv q1 (updW qw j v) f i
  unfold pv updW
  by_cases e : i = j + 1
  · rw [if_pos e, if_neg (by omega), if_neg (by omega), if_pos (by omega)]
  · rw [if_neg e]
    by_cases e0 : i = 0
    · rw [if_pos e0, if_pos e0]
    · rw [if_neg e0, if_neg e0]
      by_cases e9 : i = 9
      · rw [if_pos e9, if_pos e9]
      · rw [if_neg e9, if_neg e9, if_neg (by omega)]
theorem PageAt.new (w : World) (q1 f : Int) (qw : Nat → Int) : PageAt (w.alloc (pageObj q1 qw f)) w.heap.size (pv q1 qw f) := by
  refine ⟨fun i hi => ?_, fun i => by unfold pageObj; simp⟩
  have : i = 0 ∨ i = 1 ∨ i = 2 ∨ i = 3 ∨ i = 4 ∨ i = 5 ∨ i = 6 ∨ i = 7 ∨ i = 8 ∨ i = 9 := by omega
  unfold pageObj
  rcases this with rfl | rfl | rfl | rfl | rfl | rfl | rfl | rfl | rfl | rfl <;> exact World.cell?_alloc_new _ _ _ _
theorem RMem.next (h : RMem w rb rm n nx rl) (hn : nx + 1 < 1000000) : RMem (w.setCell ⟨rb, 2, none⟩ (.int .i64 (nx + 1))) rb rm n (nx + 1) rl :=
  { h with
    c0 := (World.cell?_setCell_other _ _ _ _ (fun e => by simp at e)).trans h.c0
    c1 := (World.cell?_setCell_other _ _ _ _ (fun e => by simp at e)).trans h.c1
    c2 := World.cell?_setCell_same _ _ _ h.c2
    f2 := by rw [World.frozen?_setCell]; exact h.f2
    refs := h.refs.turned (S := fun k => k = rb) ((Turn.refl _ w).setCell _ _ (fun _ => rfl)) (fun e => h.ne e.symm)
    key := fun g k hg => by have := h.key g k hg; omega
    nxt := by have := h.nxt; omega }
theorem QOne.newed (h : QOne w rb rm n nx rl qm Q O) {i : Int} {q : Qg} (hi : Q i = some q) (hR : ∀ g, RR rl1 g = if q.2.2 ≠ 0 ∧ g = q.2.2 then RR rl q.2.2 - 1 else RR rl g) (x : Nat → Int) :
    ∀ g, 0 < g → RR (mput rl1 (nx + 1) 1) g = O g + cntF (pgs (setQ Q i (some (q.1, x, nx + 1)))) g := by
  intro g hg
  have hd := h.sp.dom i q hi
  have hk := h.sp.ok i q hi
  have h1 := h.refs g hg
  have h2 := cntF_set (pgs Q) i (some (q.1, nx + 1)) g hd.1 hd.2
  have h5 : hasF (pgs Q i) g = if q.2.2 = g then 1 else 0 := by unfold pgs; rw [hi]; rfl
  have h6 : hasF (some (q.1, nx + 1)) g = if nx + 1 = g then 1 else 0 := rfl
  have h0 : RR rl (nx + 1) = 0 := by
    unfold RR
    cases e : mget rl (nx + 1) with
    | none => rfl
    | some c => have := h.mem.key _ _ e; omega
  rw [RR_put, pgs_set]
  show _ = O g + cntF (setP (pgs Q) i (some (q.1, nx + 1))) g
  by_cases e : g = nx + 1
  · subst e
    rw [if_pos rfl]
    rw [if_pos rfl] at h6
    have h7 : q.2.2 ≠ nx + 1 := fun e2 => by
      have := h.held hi (by omega)
      rw [e2] at this; omega
    rw [if_neg h7] at h5
    omega
  · rw [if_neg e, hR g]
    rw [if_neg (fun e2 => e e2.symm)] at h6
    by_cases e2 : g = q.2.2
    · subst e2
      rw [if_pos ⟨by omega, rfl⟩]
      rw [if_pos rfl] at h5
      omega
    · rw [if_neg (fun e3 => e2 e3.2)]
      rw [if_neg (fun e3 => e2 e3.symm)] at h5
      omega
def RStoredNew (rb rm : Nat) (n nx : Int) (rl : List (Int × Nat)) (qm : Nat) (Q : Int → Option Qg) (O : Int → Nat) (a : Int) (q : Qg) (w : World) (e : Ending) (w' : World) : Prop :=
  e = .returned (.int .i64 0) ∧ ∃ rl1, (∀ g, RR rl1 g = if q.2.2 ≠ 0 ∧ g = q.2.2 then RR rl q.2.2 - 1 else RR rl g) ∧ QOne w' rb rm n (nx + 1) (mput rl1 (nx + 1) 1) qm (setQ Q a (some (q.1, q.2.1, nx + 1))) O ∧ Turn (fun k => k = qm ∨ k = rm ∨ k = rb) w w'
set_option maxHeartbeats 4000000 in
set_option maxRecDepth 100000 in
theorem rstore_new (h : QOne w rb rm n nx rl qm Q O) {a v q1 f : Int} {qw : Nat → Int} (j : Nat) (hj8 : j < 8) (hq : Q a = some (q1, qw, f)) (HA : RAccOk qm a j w) (hf : ¬ (f ≠ 0 ∧ RR rl f ≤ 1)) (hl : (rl.length : Int) < n) (hnx : nx + 1 < 1000000) :
    Calls Tryz.prog 19 #[.map (some qm), .pointer (some ⟨rb, 0, none⟩), .int .i64 a, .int .i64 j, .int .i64 v] w (RStoredNew rb rm n nx rl qm Q O a (q1, updW qw j v, f) w) := by
  have H := hid h
  have HQ := hid hq
  have HA' := hid HA
  unfold RAccOk at HA'
  have hsm := h.mem.small
  obtain ⟨L, hL⟩ : ∃ L : Int, n - rl.length = L := ⟨_, rfl⟩
  have hLb : (L == 0) = false := by simp; omega
  have HLen : Hid (rl.length ≤ 100000 ∧ -100000 ≤ n ∧ n - rl.length = L) := hid ⟨by omega, by omega, hL⟩
  obtain ⟨rv, hrv2⟩ : ∃ rv : Nat, (mget rl f).getD 0 = rv := ⟨_, rfl⟩
  have hcase : (f == 0) = true ∨ (f == 0) = false ∧ decide ((1 : Int) < rv) = true := by
    by_cases e : f = 0
    · exact .inl (by simp [e])
    · have h1 : ¬ RR rl f ≤ 1 := fun h1 => hf ⟨e, h1⟩
      have h2 : RR rl f = rv := hrv2
      exact .inr ⟨by simp [e], decide_eq_true (by omega)⟩
  have HNx := hid hnx
  have hw1 : IntKind.i64.wrap (nx + 1) = nx + 1 := IntWalk.i64_in _ (by have := h.mem.nxt; omega)
  have HLk : Hid (∀ w', Turn (fun _ => False) w w' → (Instr.lookup 42 (.map (some qm)) (.int .i64 a) false).run Tryz.prog w' = .ok (encQ (q1, qw, f)) w') := hid (fun w' tt => by
    have h1 := look_q (h.sp.turned tt id) a
    rw [hq] at h1
    exact h1)
  have HRc : Hid (∀ w', Turn (fun _ => False) w w' → (Instr.lookup 92 (.map (some rm)) (.int .i64 f) false).run Tryz.prog w' = .ok (.int .i64 (rv : Int)) w') := hid (fun w' tt => by
    have h1 := look_rc (h.mem.turned tt id id).refs f
    rw [hrv2] at h1
    exact h1)
  have HHeld : Hid (f ≠ 0 → 0 < RR rl f) := hid (fun h0 => h.held hq h0)
  obtain ⟨ql, hql, he⟩ := h.sp.pages
  have HE := hid he
  have HQl := hid hql
  have HJ := hid hj8
  clear h hq HA hf hrv2 hl hsm hnx hL hql he hj8
  rcases hcase with hb | ⟨hb, hrv⟩
  all_goals
    go_enter Tryz.func19, Tryz.ntmps19
    go_wp2_with fail
    refine HA'.out.mono ?_
    rintro e w1 ⟨rfl, t1⟩
    have HT1 := hid t1
    have lk := HLk.out w1 t1
    simp only [encQ] at lk
    have rc := fun k => HRc.out ((w1.alloc (pageObj q1 qw f)).drewN k) ((t1.alloc _).drewN k)
    unfold pageObj at rc
    have c1 := (H.out.mem.turned (t1.alloc (pageObj q1 qw f)) id id).c1
    unfold pageObj at c1
    clear t1
    go_wp2_with fail
    go_quiet (fail)
    have TS := (HT1.out.alloc (pageObj q1 qw f)).drewN nq
    have HPg := hid ((PageAt.new w1 q1 f qw).turned ((Turn.refl (fun _ => False) _).drewN nq) id)
    have hcw : w.heap.size ≤ w1.heap.size := HT1.out.size
    have HCw := hid hcw
    clear hcw
    unfold pageObj at TS HPg
    have HTS := hid TS
    have HL := hid (rleft_is (H.out.mem.turned TS id id) HLen.out.1 HLen.out.2.1)
    rw [HLen.out.2.2] at HL
    clear TS
    go_wp2_with fail
    refine HL.out.mono ?_
    rintro e w2 ⟨rfl, t2⟩
    have HT2 := hid (HTS.out.trans t2)
    have HPg2 := hid (HPg.out.turned t2 id)
    have HLs := hid (less_is (H.out.mem.turned HT2.out id id) f HHeld.out)
    have e9 : w2.cell? ⟨w1.heap.size, 9, none⟩ = some (.int .i64 f) := HPg2.out.at_ 9 (by omega)
    clear t2
    go_wp2_with fail
    refine HLs.out.mono ?_
    rintro e w3 ⟨rfl, r3, hm3, hR3, t3⟩
    have hcr : w1.heap.size ≠ rm := fun e => by have := H.out.mem.refs.lt; have := HCw.out; omega
    have HPg3 := hid (HPg2.out.turned t3 hcr)
    have HM3 := hid hm3
    have HR3 := hid hR3
    have HT3 := hid t3
    have c2 := hm3.c2
    have f2 := hm3.f2
    have f9 := HPg3.out.free 9
    have g9 : w3.cell? ⟨w1.heap.size, 9, none⟩ = some (.int .i64 f) := HPg3.out.at_ 9 (by omega)
    clear e9 hm3 hR3 t3 rc c1
    go_upto_region 11 with fail
    have hcb : w1.heap.size ≠ rb := fun e => by have := lt_of_cell H.out.mem.c0; have := HCw.out; simp only at *; omega
    have HPg5 := hid ((HPg3.out.turned ((Turn.refl (fun k => k = rb) w3).setCell ⟨rb, 2, none⟩ (.int .i64 (nx + 1)) (fun _ => rfl)) hcb).fr (nx + 1))
    have HM5 := hid ((HM3.out.next HNx.out).turned ((Turn.refl (fun k => k = w1.heap.size) (w3.setCell ⟨rb, 2, none⟩ (.int .i64 (nx + 1)))).setCell ⟨w1.heap.size, 9, none⟩ (.int .i64 (nx + 1)) (fun _ => rfl)) (fun e => hcb e.symm) (fun e => hcr e.symm))
    have HT5 := hid ((((HT2.out.mono (S' := fun k => k = rm ∨ k = rb) (fun _ _ h => h.elim)).trans (HT3.out.mono (fun _ _ h => .inl h))).setCell ⟨rb, 2, none⟩ (.int .i64 (nx + 1)) (fun _ => .inr rfl)).setCell ⟨w1.heap.size, 9, none⟩ (.int .i64 (nx + 1)) (fun hl => absurd hl (Nat.not_lt.2 HCw.out)))
    clear c2 f2 f9 g9
    generalize (w3.setCell ⟨rb, 2, none⟩ (.int .i64 (nx + 1))).setCell ⟨w1.heap.size, 9, none⟩ (.int .i64 (nx + 1)) = W5 at *
    have c1 := HM5.out.c1
    have g9 : W5.cell? ⟨w1.heap.size, 9, none⟩ = some (.int .i64 (nx + 1)) := HPg5.out.at_ 9 (by omega)
    have HM5d := hid (HM5.out.turned ((Turn.refl (fun _ => False) W5).drew) id id)
    obtain ⟨w6, hrun, hm6, t6⟩ := HM5d.out.refs.run_update keyI Tryz.underlying92 Tryz.underlying3 (nx + 1) 1
    have HM6 := hid (HM5d.out.put (f := nx + 1) (k := 1) ⟨by have := H.out.mem.nxt; omega, Int.le_refl _⟩ ⟨by omega, by omega⟩ t6 hm6)
    have HPg6 := hid ((HPg5.out.turned ((Turn.refl (fun _ => False) W5).drew) id).turned t6 hcr)
    have HT6 := hid ((HT5.out.drew).trans (t6.mono (S' := fun k => k = rm ∨ k = rb) (fun _ _ h => .inl h)))
    rw [show encRc 1 = Value.int .i64 1 from rfl] at hrun
    simp only [encI] at hrun
    clear hm6 t6
    go_region
  all_goals go_upto_region 12 with fail
  all_goals
    obtain ⟨J, hJ⟩ : ∃ J, J = j := ⟨_, rfl⟩
    have HJJ := hid hJ
    have HPg7 := hid (HPg6.out.word J (hJ ▸ HJ.out) v)
    have e : j = 0 ∨ j = 1 ∨ j = 2 ∨ j = 3 ∨ j = 4 ∨ j = 5 ∨ j = 6 ∨ j = 7 := by have := HJ.out; omega
    have HM7 := hid (HM6.out.turned ((Turn.refl (fun k => k = w1.heap.size) w6).setCell ⟨w1.heap.size, J + 1, none⟩ (.int .i64 v) (fun _ => rfl)) (fun e => hcb e.symm) (fun e => hcr e.symm))
    have HT7 := hid (HT6.out.setCell ⟨w1.heap.size, J + 1, none⟩ (.int .i64 v) (fun hl => absurd hl (Nat.not_lt.2 HCw.out)))
    obtain ⟨W7, hW7⟩ : ∃ W7, w6.setCell ⟨w1.heap.size, J + 1, none⟩ (.int .i64 v) = W7 := ⟨_, rfl⟩
    rw [hW7] at HPg7 HM7 HT7
    have HW7 := hid hW7
    have HW8 : Hid (RStoredNew rb rm n nx rl qm Q O a (q1, updW qw j v, f) w = RStoredNew rb rm n nx rl qm Q O a (q1, updW qw J v, f) w) := hid (by rw [hJ])
    have fz := HPg6.out.free
    have y1 := HPg6.out.at_ 1 (by omega)
    have y2 := HPg6.out.at_ 2 (by omega)
    have y3 := HPg6.out.at_ 3 (by omega)
    have y4 := HPg6.out.at_ 4 (by omega)
    have y5 := HPg6.out.at_ 5 (by omega)
    have y6 := HPg6.out.at_ 6 (by omega)
    have y7 := HPg6.out.at_ 7 (by omega)
    have y8 := HPg6.out.at_ 8 (by omega)
    clear hW7 hJ c1 g9 hrun
    rcases e with rfl | rfl | rfl | rfl | rfl | rfl | rfl | rfl
  all_goals
    go_upto_region 13 with fail
  all_goals
    have hw := HW7.out
    rw [HJJ.out] at hw
    simp only [Nat.zero_add, Nat.reduceAdd] at hw
    rw [hw]
    have e0 : W7.cell? ⟨w1.heap.size, 0, none⟩ = some (.int .i64 q1) := HPg7.out.at_ 0 (by omega)
    have e1 : W7.cell? ⟨w1.heap.size, 1, none⟩ = some (.int .i64 (updW qw J v 0)) := HPg7.out.at_ 1 (by omega)
    have e2 : W7.cell? ⟨w1.heap.size, 2, none⟩ = some (.int .i64 (updW qw J v 1)) := HPg7.out.at_ 2 (by omega)
    have e3 : W7.cell? ⟨w1.heap.size, 3, none⟩ = some (.int .i64 (updW qw J v 2)) := HPg7.out.at_ 3 (by omega)
    have e4 : W7.cell? ⟨w1.heap.size, 4, none⟩ = some (.int .i64 (updW qw J v 3)) := HPg7.out.at_ 4 (by omega)
    have e5 : W7.cell? ⟨w1.heap.size, 5, none⟩ = some (.int .i64 (updW qw J v 4)) := HPg7.out.at_ 5 (by omega)
    have e6 : W7.cell? ⟨w1.heap.size, 6, none⟩ = some (.int .i64 (updW qw J v 5)) := HPg7.out.at_ 6 (by omega)
    have e7 : W7.cell? ⟨w1.heap.size, 7, none⟩ = some (.int .i64 (updW qw J v 6)) := HPg7.out.at_ 7 (by omega)
    have e8 : W7.cell? ⟨w1.heap.size, 8, none⟩ = some (.int .i64 (updW qw J v 7)) := HPg7.out.at_ 8 (by omega)
    have e9 : W7.cell? ⟨w1.heap.size, 9, none⟩ = some (.int .i64 (nx + 1)) := HPg7.out.at_ 9 (by omega)
    have hq7 : ¬ (qm = rm ∨ qm = rb) := fun e => e.elim H.out.ne.2 H.out.ne.1
    have HQl7 := hid (HQl.out.turned HT7.out hq7)
    clear hw y1 y2 y3 y4 y5 y6 y7 y8 fz
    go_wp2_with (at_mapUpdate; refine wpList_mapput rfl _ _ _ 42 3 147 rfl Tryz.underlying42 Tryz.underlying3 keyI qm rfl HQl7.out a rfl (q1, updW qw J v, nx + 1) rfl ?_; intro w8 hm8 t8; have HM8 := hid hm8; have HT8 := hid t8; clear hm8 t8)
    go_ret
    rw [HW8.out]
    have hok := H.out.sp.ok _ _ HQ.out
    have hnx := H.out.mem.nxt
    have hnx2 := HNx.out
    exact ⟨rfl, r3, HR3.out, ⟨HM7.out.turned HT8.out (fun e => H.out.ne.1 e.symm) (fun e => H.out.ne.2 e.symm), (H.out.sp.turned HT7.out hq7).put HT8.out HE.out HM8.out (H.out.sp.dom _ _ HQ.out) ⟨hok.1, hok.2.1, by show 0 ≤ nx + 1; omega, hnx2⟩, H.out.ne, H.out.newed HQ.out HR3.out _⟩, (HT7.out.mono (fun _ _ h => .inr h)).trans (HT8.out.mono (fun _ _ h => .inl h))⟩
end
end Go.Proofs.YtiohpmcedfbcgabGreatDoor
/- The document's spaces: Fork. Conditions: each theorem's own premises. -/
namespace Go.Proofs.YtiohpmcedfbcgabGreatDoor
open Go.RowKit Go.MapKept
set_option linter.unusedVariables false

section
variable {w w' w1 w2 w3 : World} {qm rb rm : Nat} {Q Q' : Int → Option Qg} {n nx : Int} {rl rl1 rl2 : List (Int × Nat)} {O : Int → Nat}
def cntQ (L : List (Int × Qg)) (f : Int) : Nat := (L.map fun p => hasF (some (pgQ p.2)) f).sum
theorem cntQ_le (f : Int) : ∀ L : List (Int × Qg), cntQ L f ≤ L.length
  | [] => Nat.le_refl _
  | p :: L => by
    have h1 := cntQ_le f L
    have h2 := hasF_le (some (pgQ p.2)) f
    unfold cntQ at *
    rw [List.map_cons, List.sum_cons, List.length_cons]
    omega
theorem cntQ_all {ql : List (Int × Qg)} (hn : MNodup ql) (h : RSp w qm Q) (he : ∀ i, mget ql i = Q i) (f : Int) : cntQ ql f = cntF (pgs Q) f := by
  have h1 := sum_map_pages (c := fun o : Option Qg => hasF (o.map pgQ) f) rfl hn h he
  exact h1
theorem cntQ_cons (i : Int) (q : Qg) (L : List (Int × Qg)) (g : Int) : cntQ ((i, q) :: L) g = cntQ L g + if q.2.2 = g then 1 else 0 := by
  have h1 : hasF (some (pgQ q)) g = if q.2.2 = g then 1 else 0 := rfl
  simp only [cntQ, List.map_cons, List.sum_cons, h1]; omega
/-- What the loop of Fork keeps. -/
structure ForkAt (w wr : World) (qm tm r rb rm : Nat) (n nx : Int) (rl rl' : List (Int × Nat)) (L tl : List (Int × Qg)) (seenK : Int → Prop) (Q : Int → Option Qg) : Prop where
  mem : RMem wr rb rm n nx rl'
  map : MapIs wr tm (.int .i64) encI encQ tl
  got : ∀ i q, mget tl i = some q ↔ (i, q) ∈ L
  cnt : ∀ g, 0 < g → RR rl' g = RR rl g + cntQ L g
  turn : Turn (fun k => k = rm) w wr
theorem ForkAt.also {S : Nat → Prop} {wr w5 : World} {tm r : Nat} {rl' : List (Int × Nat)} {L tl : List (Int × Qg)} {seenK : Int → Prop} (h : ForkAt w wr qm tm r rb rm n nx rl rl' L tl seenK Q) (tt : Turn S wr w5) (h1 : ¬ S rb) (h2 : ¬ S rm) (h3 : ¬ S tm) (h4 : ∀ k, k < w.heap.size → ¬ S k) : ForkAt w w5 qm tm r rb rm n nx rl rl' L tl seenK Q :=
  ⟨h.mem.turned tt h1 h2, h.map.turned tt h3, h.got, h.cnt, h.turn.trans' tt (fun k hk e => absurd e (h4 k hk))⟩
theorem got_put {L tl : List (Int × Qg)} (h : ∀ i q, mget tl i = some q ↔ (i, q) ∈ L) {i : Int} {q : Qg} (hn : ∀ q', ¬ (i, q') ∈ L) : ∀ j q', mget (mput tl i q) j = some q' ↔ (j, q') ∈ (i, q) :: L := by
  intro j q'
  rw [mget_mput, List.mem_cons]
  by_cases e : j = i
  · subst e
    rw [if_pos rfl]
    constructor
    · intro h1; cases h1; exact .inl rfl
    · rintro (h1 | h1)
      · cases h1; rfl
      · exact absurd h1 (hn q')
  · rw [if_neg e, h]
    constructor
    · exact .inr
    · rintro (h1 | h1)
      · cases h1; exact absurd rfl e
      · exact h1
def RForked (rb rm : Nat) (n nx : Int) (rl : List (Int × Nat)) (Q : Int → Option Qg) (w : World) (e : Ending) (w' : World) : Prop :=
  ∃ (tm : Nat) (rl' : List (Int × Nat)), e = .returned (.map (some tm)) ∧ w.heap.size ≤ tm ∧ RMem w' rb rm n nx rl' ∧ RSp w' tm Q ∧ (∀ g, 0 < g → RR rl' g = RR rl g + cntF (pgs Q) g) ∧ Turn (fun k => k = rm) w w'
set_option maxHeartbeats 2000000 in
set_option maxRecDepth 100000 in
theorem rfork_is (hm : RMem w rb rm n nx rl) (h : RSp w qm Q) (hne : qm ≠ rb ∧ qm ≠ rm) (hR : ∀ g, 0 < g → cntF (pgs Q) g ≤ RR rl g) (hmax : ∀ g, 0 < g → RR rl g + 64 ≤ 100000) :
    Calls Tryz.prog 21 #[.map (some qm), .pointer (some ⟨rb, 0, none⟩)] w (RForked rb rm n nx rl Q w) := by
  have H := hid h
  have HS := hid hm
  have HNe := hid hne
  have HRc := hid hR
  have HMax := hid hmax
  obtain ⟨pl, hpl, he⟩ := h.pages
  have hle : pl.length ≤ 64 := by rw [rlen_pages hpl.nodup h he]; exact rlenP_le Q
  have HPl := hid (hpl.turned ((Turn.refl (fun _ => False) w).alloc (.map #[] 0)) id)
  have HE := hid he
  have HQlt := hid hpl.lt
  have hmm := @run_makeMap Tryz.prog
  clear h hpl he hm hne hR hmax
  go_enter Tryz.func21, Tryz.ntmps21
  go_wp2_with (at_range; refine wpList_maprange rfl _ _ 3 147 rfl Tryz.underlying42 rfl HPl.out ?_; intro w2 hR2 t2 hs2; have HR2 := hid hR2; have HT2 := hid t2; clear hR2 t2 hs2)
  have HM2 := hid ((MapIs.made (d := .int .i64) (enc := encI) (val := encQ) w).turned HT2.out id)
  have hz2 : (w.alloc (.map #[] 0)).heap.size = w.heap.size + 1 := by simp
  have HT3 := hid (((Turn.refl (fun _ => False) w).alloc (.map #[] 0)).trans HT2.out)
  obtain ⟨r, hrr⟩ : ∃ r, (w.alloc (.map #[] 0)).heap.size = r := ⟨_, rfl⟩
  rw [hrr] at HR2 hz2
  rw [hrr]
  obtain ⟨tm, htm⟩ : ∃ tm, w.heap.size = tm := ⟨_, rfl⟩
  rw [htm] at HM2 hz2
  rw [htm]
  have HSz : Hid (w.heap.size = tm ∧ r = tm + 1) := hid ⟨htm, hz2⟩
  clear hrr htm hz2 hmm
  go_frame
  go_loopg [] (pl.length) (fun g wr => ∃ (seenK : Int → Prop) (L tl : List (Int × Qg)) (rl' : List (Int × Nat)), Hid (RangeOf wr qm r encI encQ pl seenK g) ∧ Hid (L.Nodup ∧ ∀ t, t ∈ L ↔ t ∈ pl ∧ seenK t.1) ∧ L.length + g ≤ pl.length ∧ Hid (ForkAt w wr qm tm r rb rm n nx rl rl' L tl seenK Q))
  case atStart => exact ⟨_, [], [], rl, HR2, hid ⟨List.nodup_nil, fun t => by simp⟩, by simp, hid ⟨HS.out.turned HT3.out id id, HM2.out, fun i q => by simp [mget], fun g _ => rfl, HT3.out.mono (fun _ _ h => h.elim)⟩⟩
  case round =>
    clear HR2 HT2 HT3 HM2
    obtain ⟨seenK, L, tl, rl', hRg, hL, hLg, hF⟩ := hrel
    go_wp2_with (at_next; refine wpList_mapnext rfl _ rfl rfl hRg.out ?_ ?_)
    · intro hall
      have hperm := all_seen' HPl.out.nodup hL.out (fun p hp => hall p.1 p.2.1 p.2.2.1 p.2.2.2 hp)
      have HSum : Hid (∀ g, 0 < g → RR rl' g = RR rl g + cntF (pgs Q) g) := hid (fun f hf => by rw [hF.out.cnt f hf, ← cntQ_all HPl.out.nodup H.out HE.out f]; congr 1; exact (hperm.map _).sum_nat)
      have HGot : Hid (∀ i, mget tl i = Q i) := hid (fun i => by
        cases e : mget tl i with
        | some q => 
          have h1 := (hL.out.2 _).1 ((hF.out.got i q).1 e)
          rw [← HE.out]; exact (mget_mem HPl.out.nodup h1.1).symm
        | none =>
          cases e2 : Q i with
          | none => rfl
          | some q =>
            exfalso
            have h1 : (i, q) ∈ pl := mem_of_mget (by rw [HE.out]; exact e2)
            have h2 := (hF.out.got i q).2 (hperm.mem_iff.2 h1)
            rw [e] at h2; cases h2)
      clear hall hperm hRg hL
      go_wp2_with fail
      go_ret
      exact ⟨tm, rl', rfl, by have := HSz.out.1; omega, hF.out.mem, ⟨⟨tl, hF.out.map, HGot.out⟩, H.out.dom, H.out.ok⟩, HSum.out, hF.out.turn⟩
    · intro i q1 qw f w5 cnt' hpm hns hR5 hlt5 t5 hsz5 hen
      (try simp only at hns hen)
      have hrb := lt_of_cell HS.out.c0
      have hrm := HS.out.refs.lt
      have hql := HQlt.out
      have hs1 := HSz.out.1
      have hs2 := HSz.out.2
      have htl := hF.out.map.lt
      simp only at hrb
      have hF5 := hF.out.also t5 (by omega) (by omega) (by omega) (fun k hk => by omega)
      have HF6 := hid (hF5.also ((Turn.refl (fun _ => False) w5).alloc (pageObj q1 qw f)) id id id (fun _ _ => id))
      have HR6 := hid (hR5.turned ((Turn.refl (fun _ => False) w5).alloc (pageObj q1 qw f)) id id)
      have HL2 := hid (more_seen HPl.out.nodup hL.out hpm hns)
      have HNo : Hid (∀ q', ¬ (i, q') ∈ L) := hid (fun q' h1 => hns ((hL.out.2 _).1 h1).2)
      have HOff : Hid (rb ≠ tm ∧ rm ≠ tm ∧ r ≠ tm ∧ r ≠ rm ∧ qm ≠ tm ∧ w.heap.size ≤ tm) := hid ⟨by omega, by omega, by omega, by omega, by omega, by omega⟩
      have hctm : ¬ w5.heap.size = tm := by omega
      have hQi : Q i = some (q1, qw, f) := by rw [← HE.out]; exact mget_mem HPl.out.nodup hpm
      have HQi := hid hQi
      unfold encQ at hen
      unfold pageObj at HF6 HR6
      clear hpm hns hR5 t5 hF5 hRg hL hF hsz5 hrb hrm hql hs1 hs2 htl hQi
      by_cases hf : 0 < f
      · go_wp2_with (at_mapUpdate; refine wpList_mapput rfl _ _ _ 42 3 147 rfl Tryz.underlying42 Tryz.underlying3 keyI tm rfl HF6.out.map i rfl (q1, qw, f) rfl ?_; intro w8 hm8 t8; have HM8 := hid hm8; have HT8 := hid t8; have g9 : w8.cell? ⟨w5.heap.size, 9, none⟩ = some (.int .i64 f) := (t8.cell (a := ⟨w5.heap.size, 9, none⟩) (by simp) hctm).trans (by simp); clear hm8 t8)
        have hM8 := HF6.out.mem.turned HT8.out HOff.out.1 HOff.out.2.1
        have c1 := hM8.c1
        have hMd := hM8.turned ((Turn.refl (fun _ => False) w8).drew) id id
        obtain ⟨k, hk⟩ : ∃ k, (mget rl' f).getD 0 = k := ⟨_, rfl⟩
        have lk := look_rc hMd.refs f
        rw [hk] at lk
        have hd := H.out.dom _ _ HQi.out
        have hge := cntF_ge (P := pgs Q) (i := i) (f := f) hd.1 hd.2
        have hone : hasF (pgs Q i) f = 1 := by unfold pgs; rw [HQi.out]; exact if_pos rfl
        have hrr := HRc.out f hf
        have hfx : f ≤ nx := by
          cases e : mget rl f with
          | none => exfalso; unfold RR at hrr; rw [e] at hrr; simp only [Option.getD_none] at hrr; omega
          | some c => exact (HS.out.key _ _ e).2
        have hkR : k = RR rl f + cntQ L f := by rw [← hk]; exact HF6.out.cnt f hf
        have hkb : k + 1 ≤ 100000 := by
          have h1 := HMax.out f hf
          have h2 := cntQ_le f L
          omega
        obtain ⟨w9, hrun, hm9, t9⟩ := hMd.refs.run_update (P := Tryz.prog) keyI Tryz.underlying92 Tryz.underlying3 f (k + 1)
        have HM9 := hid (hMd.put ⟨by omega, hfx⟩ ⟨by omega, hkb⟩ t9 hm9)
        have HT9 := hid (((Turn.refl (fun b => b = rm) w8).drew).trans t9)
        have HKR := hid hkR
        rw [show encRc (k + 1) = Value.int .i64 ((k : Int) + 1) from congrArg (Value.int .i64) (by omega)] at hrun
        simp only [encI] at hrun
        have hw1 : IntKind.i64.wrap ((k : Int) + 1) = (k : Int) + 1 := IntWalk.i64_in _ (by omega)
        clear hm9 t9 hM8 hMd hk hd hge hone hrr hfx hkR hkb
        go_region
        all_goals go_wp2_with fail
        all_goals go_roundg cnt'
        case measure => omega
        case rel =>
          refine ⟨_, _, mput tl i (q1, qw, f), mput rl' f (k + 1), hid ((HR6.out.turned HT8.out HOff.out.2.2.2.2.1 HOff.out.2.2.1).turned HT9.out HNe.out.2 HOff.out.2.2.2.1), HL2, by simp only [List.length_cons]; omega, hid ⟨HM9.out, HM8.out.turned HT9.out (fun e => HOff.out.2.1 e.symm), got_put HF6.out.got HNo.out, fun g hg => ?_, (HF6.out.turn.trans' HT8.out (fun k hk e => by have := HOff.out.2.2.2.2.2; omega)).trans HT9.out⟩⟩
          rw [cntQ_cons, RR_put]
          by_cases e : g = f
          · rw [if_pos e, if_pos e.symm, e]
            have := HKR.out
            omega
          · rw [if_neg e, if_neg (fun e2 => e e2.symm)]
            exact HF6.out.cnt g hg
      · go_wp2_with (at_mapUpdate; refine wpList_mapput rfl _ _ _ 42 3 147 rfl Tryz.underlying42 Tryz.underlying3 keyI tm rfl HF6.out.map i rfl (q1, qw, f) rfl ?_; intro w8 hm8 t8; have HM8 := hid hm8; have HT8 := hid t8; have g9 : w8.cell? ⟨w5.heap.size, 9, none⟩ = some (.int .i64 f) := (t8.cell (a := ⟨w5.heap.size, 9, none⟩) (by simp) hctm).trans (by simp); clear hm8 t8)
        go_roundg cnt'
        case measure => omega
        case rel =>
          refine ⟨_, _, mput tl i (q1, qw, f), rl', hid (HR6.out.turned HT8.out HOff.out.2.2.2.2.1 HOff.out.2.2.1), HL2, by simp only [List.length_cons]; omega, hid ⟨HF6.out.mem.turned HT8.out HOff.out.1 HOff.out.2.1, HM8.out, got_put HF6.out.got HNo.out, fun g hg => ?_, HF6.out.turn.trans' HT8.out (fun k hk e => by have := HOff.out.2.2.2.2.2; omega)⟩⟩
          rw [cntQ_cons, HF6.out.cnt g hg, if_neg (show ¬ f = g by omega)]
          rfl
end
end Go.Proofs.YtiohpmcedfbcgabGreatDoor
