/- Package vm: Unmap and Protect. Conditions: each theorem's own premises. -/
import Derived.Test.YtiohpmcedfbcgabDoorVmDrop
namespace Go.Proofs.YtiohpmcedfbcgabDoor
open Go.RowKit
set_option linter.unusedVariables false

/-- Behind a call at one space. -/
def VmAfter (s : SB) (n : Nat) (t : St) (sp pm : Nat) (O : Int → Nat) (w w' : World) (P' : Int → Option Pg) (t' : St) : Prop :=
  VmOne w' s n t' sp pm P' O ∧ Turn (fun j => j = pm ∨ StFoot s t.vs j) w w' ∧ ∀ k, StFoot s t'.vs k → StFoot s t.vs k ∨ w.heap.size ≤ k
section
variable {w w' w1 w2 w3 : World} {s : SB} {n : Nat} {t t' t1 t2 : St} {sp pm : Nat} {P P' P1 P2 : Int → Option Pg} {O : Int → Nat}
theorem VmAfter.trans (h1 : VmAfter s n t sp pm O w w1 P1 t1) (h2 : VmAfter s n t1 sp pm O w1 w2 P2 t2) : VmAfter s n t sp pm O w w2 P2 t2 := by
  obtain ⟨a1, b1, c1⟩ := h1
  obtain ⟨a2, b2, c2⟩ := h2
  refine ⟨a2, b1.trans' b2 (fun k hk hf => ?_), fun k hk => ?_⟩
  · rcases hf with h | h
    · exact .inl h
    · rcases c1 k h with h | h
      · exact .inr h
      · omega
  · rcases c2 k hk with h | h
    · exact c1 k h
    · exact .inr (Nat.le_trans b1.size h)
theorem VmOne.turned {S : Nat → Prop} (h : VmOne w s n t sp pm P O) (tt : Turn S w w') (h1 : ¬ S sp) (h2 : ¬ S pm) (h3 : ∀ k, StFoot s t.vs k → ¬ S k) : VmOne w' s n t sp pm P O :=
  ⟨h.store.turned tt h3, h.space.turned tt h1 h2, h.off, h.refs, h.one⟩
theorem VmOne.same (h : VmOne w s n t sp pm P O) (tt : Turn (fun _ => False) w w') : VmAfter s n t sp pm O w w' P t :=
  ⟨h.turned tt id id (fun _ _ => id), tt.mono (fun _ _ h => h.elim), fun _ h => .inl h⟩
theorem VmOne.ofSp (h : VmOne w s n t sp pm P O) (tt : Turn (fun j => j = pm) w w') (hs : SpIs w' sp pm s.sb P') (hc : ∀ f, 0 ≤ f → cntF P' f = cntF P f) : VmAfter s n t sp pm O w w' P' t :=
  ⟨⟨h.store.turned tt (fun k hk e => h.off.2 (e ▸ hk)), hs, h.off, fun f hf => by rw [hc f hf]; exact h.refs f hf, fun f hf => by rw [hc f hf]; exact h.one f hf⟩, tt.mono (fun _ _ h => .inl h), fun _ h => .inl h⟩
/-- The store changes, then the space's pages. -/
theorem VmOne.step (h : VmOne w s n t sp pm P O) (hA : StAfter s n t w w2 t2) (tt : Turn (fun j => j = pm) w2 w3) {pl : List (Int × Pg)} (hp : MapIs w3 pm (.int .i64) encI encPg pl) (he : ∀ i, mget pl i = P' i)
    (hd : ∀ i p, P' i = some p → 0 ≤ i ∧ i < 64) (ho : ∀ i p, P' i = some p → 1 ≤ p.1 ∧ p.1 ≤ 3 ∧ -1 ≤ p.2 ∧ p.2 < 256) (hR : ∀ f, 0 ≤ f → t2.R f = O f + cntF P' f) (h1 : ∀ f, 0 ≤ f → cntF P' f ≤ 1) :
    VmAfter s n t sp pm O w w3 P' t2 := by
  obtain ⟨a1, b1, c1⟩ := hA
  have l1 := h.space.lt
  have hs2 := h.space.turned b1 h.off.1 h.off.2
  have off2 : ¬ StFoot s t2.vs sp ∧ ¬ StFoot s t2.vs pm := ⟨fun hf => by
    rcases c1 _ hf with h2 | h2
    · exact h.off.1 h2
    · omega, fun hf => by
    rcases c1 _ hf with h2 | h2
    · exact h.off.2 h2
    · omega⟩
  refine ⟨⟨a1.turned tt (fun k hk e => off2.2 (e ▸ hk)), hs2.mapped tt hp he hd ho, off2, hR, h1⟩, Turn.trans' (b1.mono (fun _ _ h => .inr h)) tt (fun _ _ h => .inl h), c1⟩
theorem setP_dom (h : SpIs w sp pm s.sb P) {i : Int} {o : Option Pg} (hi : 0 ≤ i ∧ i < 64) : ∀ j p, setP P i o j = some p → 0 ≤ j ∧ j < 64 := fun j p hj => by
  unfold setP at hj
  by_cases e : j = i
  · rw [e]; exact hi
  · rw [if_neg e] at hj; exact h.dom j p hj
theorem setP_ok (h : SpIs w sp pm s.sb P) {i : Int} {o : Option Pg} (hq : ∀ q, o = some q → 1 ≤ q.1 ∧ q.1 ≤ 3 ∧ -1 ≤ q.2 ∧ q.2 < 256) : ∀ j p, setP P i o j = some p → 1 ≤ p.1 ∧ p.1 ≤ 3 ∧ -1 ≤ p.2 ∧ p.2 < 256 := fun j p hj => by
  unfold setP at hj
  by_cases e : j = i
  · rw [if_pos e] at hj; exact hq p hj
  · rw [if_neg e] at hj; exact h.ok j p hj
theorem setP_same (P : Int → Option Pg) (i : Int) : setP P i (P i) = P := by
  funext j
  unfold setP
  by_cases e : j = i
  · rw [if_pos e, e]
  · rw [if_neg e]
/-- A page goes, and its frame has a page less. -/
theorem VmOne.lost (h : VmOne w s n t sp pm P O) {i : Int} {q : Pg} (hi : P i = some q) (hA : StAfter s n t w w2 t2) (hR : t2.R = if 0 ≤ q.2 then (fun g => if g = q.2 then t.R q.2 - 1 else t.R g) else t.R)
    (tt : Turn (fun j => j = pm) w2 w3) {pl : List (Int × Pg)} (hp : MapIs w3 pm (.int .i64) encI encPg (mdel pl i)) (he : ∀ i, mget pl i = P i) : VmAfter s n t sp pm O w w3 (setP P i none) t2 := by
  have hdom := h.space.dom i q hi
  have hc := fun f => cntF_set P i none f hdom.1 hdom.2
  rw [hi] at hc
  refine h.step hA tt hp (fun j => ?_) (setP_dom h.space hdom) (setP_ok h.space (fun q hq => by cases hq)) (fun f hf => ?_) (fun f hf => ?_)
  · rw [mget_mdel, he]; rfl
  · have h1 := h.refs f hf
    have h2 := hc f
    rw [hasF_some] at h2
    have h3 : hasF none f = 0 := rfl
    rw [hR]
    by_cases e : q.2 = f
    · rw [if_pos e] at h2
      subst e
      rw [if_pos hf]
      show (if q.2 = q.2 then t.R q.2 - 1 else t.R q.2) = _
      rw [if_pos rfl]
      omega
    · rw [if_neg e] at h2
      by_cases e2 : 0 ≤ q.2
      · rw [if_pos e2]
        show (if f = q.2 then t.R q.2 - 1 else t.R f) = _
        rw [if_neg (fun e3 => e e3.symm)]
        omega
      · rw [if_neg e2]; omega
  · have h1 := h.one f hf
    have h2 := hc f
    have h3 : hasF none f = 0 := rfl
    omega

def unmapE (P : Int → Option Pg) (a k : Int) : Int := if ¬ RightP a k then 2 else if (thereN P a k.toNat : Int) < k then 7 else 0
def unmapP (P : Int → Option Pg) (a k : Int) : Int → Option Pg := fun i => if a ≤ i ∧ i < a + k then none else P i
theorem unmapP_start (P : Int → Option Pg) (a : Int) : unmapP P a 0 = P := by
  funext i
  unfold unmapP
  rw [if_neg (by omega)]
theorem unmapP_more (P : Int → Option Pg) (a : Int) (j : Nat) : unmapP P a ((j + 1 : Nat) : Int) = setP (unmapP P a j) (a + j) none := by
  funext i
  show (if a ≤ i ∧ i < a + ((j + 1 : Nat) : Int) then none else P i) = if i = a + j then none else if a ≤ i ∧ i < a + j then none else P i
  by_cases h : i = a + j
  · rw [if_pos h, if_pos (by omega)]
  · rw [if_neg h]
    by_cases h2 : a ≤ i ∧ i < a + j
    · rw [if_pos h2, if_pos (by omega)]
    · rw [if_neg h2, if_neg (by omega)]
theorem unmapP_at (P : Int → Option Pg) (a : Int) (j : Nat) : unmapP P a j (a + j) = P (a + j) := if_neg (by omega)
theorem fldPg (a b : Value) (w : World) : (Instr.field 198 (.agg #[a, b]) 1).run Tryd.prog w = .ok b w := by kernel_rfl
theorem there_all {P : Int → Option Pg} {a : Int} {k : Nat} (h : ¬ thereN P a k < k) (j : Nat) (hj : j < k) : ∃ p, P (a + j) = some p := by
  have h1 : thereN P a k ≤ k := cntB_le _ _
  exact Option.isSome_iff_exists.1 (cntB_all (g := fun j => (P (a + (j : Int))).isSome) (k := k) (by show thereN P a k = k; omega) j hj)
def Unmapped (s : SB) (n : Nat) (t : St) (sp pm : Nat) (P : Int → Option Pg) (O : Int → Nat) (a k : Int) (w : World) (e : Ending) (w' : World) : Prop :=
  e = .returned (VmErr (unmapE P a k)) ∧ ∃ t', t'.m = t.m ∧ VmAfter s n t sp pm O w w' (if unmapE P a k = 0 then unmapP P a k else P) t'
set_option maxHeartbeats 1000000 in
set_option maxRecDepth 100000 in
theorem vmUnmap_any (h : VmOne w s n t sp pm P O) (a k : Int) :
    Calls Tryd.prog 125 #[.pointer (some ⟨sp, 0, none⟩), .int .i64 a, .int .i64 k] w (Unmapped s n t sp pm P O a k w) := by
  have H := hid h
  have HR := hid (vright_is a k w)
  by_cases hr : RightP a k
  · rw [decide_eq_true hr] at HR
    obtain ⟨r0, r1, r2, r3⟩ := hr
    obtain ⟨k, rfl⟩ : ∃ n : Nat, k = n := ⟨k.toNat, by omega⟩
    have e1 : unmapE P a k = if (thereN P a k : Int) < k then 7 else 0 := by
      unfold unmapE
      rw [if_neg (fun h => h ⟨r0, r1, r2, r3⟩), Int.toNat_natCast]
    have HTh := hid (there_is h.space a k r0 (by omega))
    have HAll := hid (there_all (P := P) (a := a) (k := k))
    obtain ⟨T, hT⟩ : ∃ T, thereN P a k = T := ⟨_, rfl⟩
    rw [hT] at HTh HAll e1
    unfold Unmapped
    by_cases ht : T < k
    · have ht' : (T : Int) < k := by omega
      rw [if_pos ht'] at e1
      rw [e1]
      clear h e1 hT
      go_enter Tryd.func125, Tryd.ntmps125
      go_wp2_with fail
      refine HR.out.mono ?_
      rintro e w1 ⟨rfl, rfl⟩
      go_wp2_with fail
      refine HTh.out.mono ?_
      rintro e w1 ⟨rfl, t1⟩
      have HT1 := hid t1
      clear t1
      go_wp2_with fail
      go_ret
      exact ⟨rfl, t, rfl, H.out.same HT1.out⟩
    · have ht' : ¬ (T : Int) < k := by omega
      rw [if_neg ht'] at e1
      rw [e1]
      clear h e1 hT
      go_enter Tryd.func125, Tryd.ntmps125
      go_wp2_with fail
      refine HR.out.mono ?_
      rintro e w1 ⟨rfl, rfl⟩
      go_wp2_with fail
      refine HTh.out.mono ?_
      rintro e w1 ⟨rfl, tt1⟩
      have HT1 := hid tt1
      clear tt1
      go_wp2_with fail
      go_loopg [24] k (fun gl i wr => ∃ (j : Nat) (tj : St), j + gl = k ∧ i = .int .i64 j ∧ Hid (tj.m = t.m) ∧ Hid (VmAfter s n t sp pm O w wr (unmapP P a j) tj))
      case atStart => exact ⟨0, t, by omega, rfl, hid rfl, hid (by rw [Int.natCast_zero, unmapP_start]; exact H.out.same HT1.out)⟩
      case round =>
        obtain ⟨j, tj, hj, rfl, hm, hS⟩ := hrel
        by_cases hlt : j < k
        · have hlt' : (j : Int) < k := by omega
          obtain ⟨⟨q1, f⟩, hq⟩ := HAll.out ht j hlt
          have hqj : unmapP P a j (a + j) = some (q1, f) := (unmapP_at P a j).trans hq
          have HQ := hid hqj
          have c0 := hS.out.1.space.c0
          have c1 := hS.out.1.space.c1
          have lk := look_page hS.out.1.space (a + j)
          rw [hqj] at lk
          simp only [Option.getD_some, encPg] at lk
          obtain ⟨pl, hpl, he⟩ := hS.out.1.space.pages
          have HPl := hid hpl
          have HE := hid he
          have hfd := @fldPg
          have hw1 : IntKind.i64.wrap (a + j) = a + j := IntWalk.i64_in _ (by omega)
          have HMore := hid (unmapP_more P a j)
          clear hpl he hq hqj
          by_cases hf : 0 ≤ f
          · have hpos : 0 < tj.R f := by
              have h1 := hS.out.1.refs f hf
              have hdm := hS.out.1.space.dom _ _ HQ.out
              have h2 := cntF_ge (P := unmapP P a j) (i := a + j) (f := f) hdm.1 hdm.2
              rw [HQ.out, hasF_some, if_pos rfl] at h2
              omega
            have HD := hid (drop_is hS.out.1.store f hpos)
            clear hpos
            go_wp2_with fail
            refine HD.out.mono ?_
            rintro e w2 ⟨rfl, t2, hA, hm2, hR2⟩
            have HA := hid hA
            have HM2 := hid hm2
            have HR2 := hid hR2
            have HPl2 := hid (HPl.out.turned hA.2.1 hS.out.1.off.2)
            have c12 := (hA.2.1.cell (a := ⟨sp, 1, none⟩) (lt_of_cell c1) hS.out.1.off.1).trans c1
            clear hA hm2 hR2 c1 lk HD
            go_wp2_with (at_delete; refine wpList_mapdel rfl _ _ 194 3 198 rfl Tryd.underlying194 Tryd.underlying3 keyI pm rfl HPl2.out (a + j) rfl ?_; intro w4 hm4 t4; have HM4 := hid hm4; have HT4 := hid t4; clear hm4 t4)
            go_roundg (gk - 1)
            case measure => omega
            case rel =>
              refine ⟨j + 1, t2, by omega, by go_num, hid (HM2.out.trans hm.out), hid ?_⟩
              rw [HMore.out]
              exact hS.out.trans (hS.out.1.lost HQ.out HA.out (by rw [HR2.out, if_pos hf]) HT4.out HM4.out HE.out)
          · go_wp2_with (at_delete; refine wpList_mapdel rfl _ _ 194 3 198 rfl Tryd.underlying194 Tryd.underlying3 keyI pm rfl HPl.out (a + j) rfl ?_; intro w4 hm4 t4; have HM4 := hid hm4; have HT4 := hid t4; clear hm4 t4)
            go_roundg (gk - 1)
            case measure => omega
            case rel =>
              refine ⟨j + 1, tj, by omega, by go_num, hm, hid ?_⟩
              rw [HMore.out]
              exact hS.out.trans (hS.out.1.lost HQ.out (StAfter.refl hS.out.1.store) (by rw [if_neg (by simp only; omega)]) HT4.out HM4.out HE.out)
        · have hlt' : ¬ (j : Int) < k := by omega
          obtain rfl : j = k := by omega
          go_wp2_with fail
          go_ret
          exact ⟨rfl, tj, hm.out, hS.out⟩
  · rw [decide_eq_false hr] at HR
    have e1 : unmapE P a k = 2 := by unfold unmapE; rw [if_pos hr]
    unfold Unmapped
    rw [e1]
    clear h e1
    go_enter Tryd.func125, Tryd.ntmps125
    go_wp2_with fail
    refine HR.out.mono ?_
    rintro e w1 ⟨rfl, rfl⟩
    go_wp2_with fail
    go_ret
    exact ⟨rfl, t, rfl, H.out.same (Turn.refl _ _)⟩
end
end Go.Proofs.YtiohpmcedfbcgabDoor
