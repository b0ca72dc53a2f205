/- Package vm: Protect. Conditions: each theorem's own premises. -/
import Derived.Test.YtiohpmcedfbcgabDoorVmUnmap
namespace Go.Proofs.YtiohpmcedfbcgabDoor
open Go.RowKit
set_option linter.unusedVariables false

section
variable {w w' : World} {s : SB} {n : Nat} {t : St} {sp pm : Nat} {P P' : Int → Option Pg} {O : Int → Nat}
def protE (P : Int → Option Pg) (a k prot : Int) : Int := if ¬ RightP a k then 2 else if prot < 1 ∨ 3 < prot then 1 else if (thereN P a k.toNat : Int) < k then 7 else 0
def protP (P : Int → Option Pg) (a k prot : Int) : Int → Option Pg := fun i => if a ≤ i ∧ i < a + k then (P i).map (fun q => (prot, q.2)) else P i
theorem protP_start (P : Int → Option Pg) (a prot : Int) : protP P a 0 prot = P := by
  funext i
  unfold protP
  rw [if_neg (by omega)]
theorem protP_at (P : Int → Option Pg) (a prot : Int) (j : Nat) : protP P a j prot (a + j) = P (a + j) := if_neg (by omega)
theorem protP_more (P : Int → Option Pg) (a prot : Int) (j : Nat) {q : Pg} (h : P (a + j) = some q) : protP P a ((j + 1 : Nat) : Int) prot = setP (protP P a j prot) (a + j) (some (prot, q.2)) := by
  funext i
  show (if a ≤ i ∧ i < a + ((j + 1 : Nat) : Int) then (P i).map (fun q => (prot, q.2)) else P i) = if i = a + j then some (prot, q.2) else if a ≤ i ∧ i < a + j then (P i).map (fun q => (prot, q.2)) else P i
  by_cases h2 : i = a + j
  · rw [if_pos h2, if_pos (by omega), h2, h]; rfl
  · rw [if_neg h2]
    by_cases h3 : a ≤ i ∧ i < a + j
    · rw [if_pos h3, if_pos (by omega)]
    · rw [if_neg h3, if_neg (by omega)]
theorem hasF_map (o : Option Pg) (prot f : Int) : hasF (o.map fun q => (prot, q.2)) f = hasF o f := by cases o <;> rfl
theorem cntF_prot (P : Int → Option Pg) (a k prot f : Int) : cntF (protP P a k prot) f = cntF P f := sumN_congr fun i hi => by
  unfold protP
  split
  · exact hasF_map _ _ _
  · rfl
def Protected (s : SB) (n : Nat) (t : St) (sp pm : Nat) (P : Int → Option Pg) (O : Int → Nat) (a k prot : Int) (w : World) (e : Ending) (w' : World) : Prop :=
  e = .returned (VmErr (protE P a k prot)) ∧ VmAfter s n t sp pm O w w' (if protE P a k prot = 0 then protP P a k prot else P) t
set_option maxHeartbeats 1000000 in
set_option maxRecDepth 100000 in
theorem vmProt_any (h : VmOne w s n t sp pm P O) (a k prot : Int) :
    Calls Tryd.prog 126 #[.pointer (some ⟨sp, 0, none⟩), .int .i64 a, .int .i64 k, .int .i64 prot] w (Protected s n t sp pm P O a k prot w) := by
  have H := hid h
  have HR := hid (vright_is a k w)
  unfold Protected
  by_cases hr : RightP a k
  · rw [decide_eq_true hr] at HR
    obtain ⟨r0, r1, r2, r3⟩ := hr
    obtain ⟨k, rfl⟩ : ∃ n : Nat, k = n := ⟨k.toNat, by omega⟩
    have e1 : protE P a k prot = if prot < 1 ∨ 3 < prot then 1 else if (thereN P a k : Int) < k then 7 else 0 := by
      unfold protE
      rw [if_neg (fun h => h ⟨r0, r1, r2, r3⟩), Int.toNat_natCast]
    by_cases hp : prot < 1 ∨ 3 < prot
    · rw [if_pos hp] at e1
      rw [e1]
      by_cases hp1 : prot < 1
      · clear h hp e1
        go_enter Tryd.func126, Tryd.ntmps126
        go_wp2_with fail
        refine HR.out.mono ?_
        rintro e w1 ⟨rfl, rfl⟩
        go_wp2_with fail
        go_ret
        exact ⟨rfl, H.out.same (Turn.refl _ _)⟩
      · have hp2 : 3 < prot := hp.resolve_left hp1
        clear h hp e1
        go_enter Tryd.func126, Tryd.ntmps126
        go_wp2_with fail
        refine HR.out.mono ?_
        rintro e w1 ⟨rfl, rfl⟩
        go_wp2_with fail
        go_ret
        exact ⟨rfl, H.out.same (Turn.refl _ _)⟩
    · rw [if_neg hp] at e1
      have hp1 : ¬ prot < 1 := fun h => hp (.inl h)
      have hp2 : ¬ 3 < prot := fun h => hp (.inr h)
      have HTh := hid (there_is h.space a k r0 (by omega))
      have HAll := hid (there_all (P := P) (a := a) (k := k))
      obtain ⟨T, hT⟩ : ∃ T, thereN P a k = T := ⟨_, rfl⟩
      rw [hT] at HTh e1 HAll
      by_cases ht : T < k
      · have ht' : (T : Int) < k := by omega
        rw [if_pos ht'] at e1
        rw [e1]
        clear h hp e1 hT
        go_enter Tryd.func126, Tryd.ntmps126
        go_wp2_with fail
        refine HR.out.mono ?_
        rintro e w1 ⟨rfl, rfl⟩
        go_wp2_with fail
        refine HTh.out.mono ?_
        rintro e w1 ⟨rfl, t1⟩
        have HT1 := hid t1
        clear t1
        go_wp2_with fail
        go_ret
        exact ⟨rfl, H.out.same HT1.out⟩
      · have ht' : ¬ (T : Int) < k := by omega
        rw [if_neg ht'] at e1
        rw [e1]
        clear h hp e1 hT
        go_enter Tryd.func126, Tryd.ntmps126
        go_wp2_with fail
        refine HR.out.mono ?_
        rintro e w1 ⟨rfl, rfl⟩
        go_wp2_with fail
        refine HTh.out.mono ?_
        rintro e w1 ⟨rfl, t1⟩
        have HT1 := hid t1
        clear t1
        go_wp2_with fail
        go_loopg [33] k (fun gl i wr => ∃ j : Nat, j + gl = k ∧ i = .int .i64 j ∧ Hid (SpIs wr sp pm s.sb (protP P a j prot)) ∧ Hid (Turn (fun q => q = pm) w wr))
        case atStart => exact ⟨0, by omega, rfl, hid (by rw [Int.natCast_zero, protP_start]; exact H.out.space.turned HT1.out id id), hid (HT1.out.mono fun _ _ h => h.elim)⟩
        case round =>
          obtain ⟨j, hj, rfl, hS, hT⟩ := hrel
          by_cases hlt : j < k
          · have hlt' : (j : Int) < k := by omega
            obtain ⟨⟨q1, f⟩, hq⟩ := HAll.out ht j hlt
            have hqj : protP P a j prot (a + j) = some (q1, f) := (protP_at P a prot j).trans hq
            have HMore := hid (protP_more P a prot j hq)
            have HQ := hid hqj
            have c1 := hS.out.c1
            have lk := look_page (hS.out.turned (S := fun _ => False) ((Turn.refl _ _).drew) id id) (a + j)
            rw [hqj] at lk
            simp only [Option.getD_some, encPg] at lk
            obtain ⟨pl, hpl, he⟩ := hS.out.pages
            have HE := hid he
            have hfd := @fldPg
            have hw1 : IntKind.i64.wrap (a + j) = a + j := IntWalk.i64_in _ (by omega)
            have hpd : MapIs wr.drew pm (.int .i64) encI encPg pl := hpl.of_heap rfl
            obtain ⟨w3, hrun, hm3, t3⟩ := hpd.run_update (P := Tryd.prog) keyI Tryd.underlying194 Tryd.underlying3 (a + j) (prot, f)
            have HM3 := hid hm3
            have HT3 : Hid (Turn (fun q => q = pm) wr w3) := hid (Turn.trans' ((Turn.refl _ _).drew) t3 (fun _ _ h => h))
            simp only [encI, encPg] at hrun
            clear hpl he hq hqj hpd hm3 t3
            go_wp2_with fail
            go_region
            go_wp2_with fail
            go_roundg (gk - 1)
            case measure => omega
            case rel =>
              refine ⟨j + 1, by omega, by go_num, hid ?_, hid (hT.out.trans HT3.out)⟩
              rw [HMore.out]
              exact hS.out.put HT3.out HE.out HM3.out (hS.out.dom _ _ HQ.out) (by have := hS.out.ok _ _ HQ.out; exact ⟨by simp only; omega, by simp only; omega, this.2.2⟩)
          · have hlt' : ¬ (j : Int) < k := by omega
            obtain rfl : j = k := by omega
            go_wp2_with fail
            go_ret
            exact ⟨rfl, H.out.ofSp hT.out hS.out (fun f _ => cntF_prot _ _ _ _ _)⟩
  · rw [decide_eq_false hr] at HR
    have e1 : protE P a k prot = 2 := by unfold protE; rw [if_pos hr]
    rw [e1]
    clear h e1
    go_enter Tryd.func126, Tryd.ntmps126
    go_wp2_with fail
    refine HR.out.mono ?_
    rintro e w1 ⟨rfl, rfl⟩
    go_wp2_with fail
    go_ret
    exact ⟨rfl, H.out.same (Turn.refl _ _)⟩
end
end Go.Proofs.YtiohpmcedfbcgabDoor
