/- Package vm: Fork. Conditions: each theorem's own premises. -/
import Derived.Test.YtiohpmcedfbcgabGreatDoorVmFork
import Derived.Test.YtiohpmcedfbcgabGreatDoorVmStore
namespace Go.Proofs.YtiohpmcedfbcgabGreatDoor
open Go.RowKit Go.MapKept
set_option linter.unusedVariables false

section
variable {w w' w1 w2 w3 : World} {s : SB} {n : Nat} {t t1 t2 : St} {sp pm sb : Nat} {P P' : Int → Option Pg} {O : Int → Nat}
def ForkIs (s : SB) (n : Nat) (t : St) (sp pm : Nat) (P : Int → Option Pg) (w : World) (e : Ending) (w' : World) : Prop :=
  ∃ (sp2 pm2 : Nat) (rl : List (Int × Nat)), e = .returned (.pointer (some ⟨sp2, 0, none⟩)) ∧ SpIs w' sp2 pm2 s.sb P ∧ StAfter s n t w w' { t with rl := rl } ∧ (∀ f, 0 ≤ f → ({ t with rl := rl } : St).R f = t.R f + cntF P f) ∧ w.heap.size ≤ sp2 ∧ w.heap.size ≤ pm2
set_option maxHeartbeats 2000000 in
set_option maxRecDepth 100000 in
theorem vmFork_is (hs : StoreIs w s n t) (h : SpIs w sp pm s.sb P) (hoff : ¬ StFoot s t.vs sp ∧ ¬ StFoot s t.vs pm) (hR : ∀ f, 0 ≤ f → cntF P f ≤ t.R f) (hmax : ∀ f, 0 ≤ f → t.R f + 64 ≤ 100000) :
    Calls Tryz.prog 20 #[.pointer (some ⟨sp, 0, none⟩)] w (ForkIs s n t sp pm P w) := by
  have c1 := h.c1
  have H := hid h
  have HS := hid hs
  have HOff := hid hoff
  have HRc := hid hR
  have HMax := hid hmax
  obtain ⟨pl, hpl, he⟩ := h.pages
  have hle : pl.length ≤ 64 := by rw [len_pages hpl.nodup h he]; exact lenP_le P
  have HPl := hid hpl
  have HE := hid he
  clear h hpl he hs hoff hR hmax
  go_enter Tryz.func20, Tryz.ntmps20
  go_wp2_with (at_range; refine wpList_maprange rfl _ _ 3 143 rfl Tryz.underlying135 rfl HPl.out ?_; intro w2 hR2 t2 hs2; have HR2 := hid hR2; have HT2 := hid t2; clear hR2 t2 hs2)
  obtain ⟨r, hrr⟩ : ∃ r, w.heap.size = r := ⟨_, rfl⟩
  rw [hrr] at HR2
  rw [hrr]
  have HWr := hid hrr
  have HRF : Hid (∀ k, StFoot s t.vs k → ¬ k = r) := hid (fun k hk e => by have := HS.out.foot_lt k hk; omega)
  clear hrr c1
  go_frame
  go_loopg [] (pl.length) (fun g wr => ∃ (seenK : Int → Prop) (L : List (Int × Pg)) (rl : List (Int × Nat)), Hid (RangeOf wr pm r encI encPg pl seenK g) ∧ Hid (L.Nodup ∧ ∀ t, t ∈ L ↔ t ∈ pl ∧ seenK t.1) ∧ L.length + g ≤ pl.length ∧ Hid (StAfter s n t w wr { t with rl := rl }) ∧ Hid (∀ f, 0 ≤ f → ({ t with rl := rl } : St).R f = t.R f + cntL L f))
  case atStart => exact ⟨_, [], t.rl, HR2, hid ⟨List.nodup_nil, fun t => by simp⟩, by simp, hid ((StAfter.refl HS.out).also HT2.out (fun _ h => h.elim) (fun _ h => h.elim)), hid (fun f _ => rfl)⟩
  case round =>
    clear HR2 HT2
    obtain ⟨seenK, L, rl, hRg, hL, hLg, hA, hRc⟩ := hrel
    go_wp2_with (at_next; refine wpList_mapnext rfl _ rfl rfl hRg.out ?_ ?_)
    · intro hall
      have hperm := all_seen' HPl.out.nodup hL.out (fun p hp => hall p.1 p.2.1 p.2.2 hp)
      have HSum : Hid (∀ f, 0 ≤ f → ({ t with rl := rl } : St).R f = t.R f + cntF P f) := hid (fun f hf => by rw [hRc.out f hf, ← cntL_all HPl.out.nodup H.out HE.out f]; congr 1; exact (hperm.map _).sum_nat)
      clear hall hperm
      obtain ⟨c0, c1⟩ : wr.cell? ⟨sp, 0, none⟩ = some (.pointer (some ⟨s.sb, 0, none⟩)) ∧ wr.cell? ⟨sp, 1, none⟩ = some (.map (some pm)) := by
        have h1 := H.out.turned hA.out.2.1 HOff.out.1 HOff.out.2
        exact ⟨h1.c0, h1.c1⟩
      have HPl2 := hid ((HPl.out.turned hA.out.2.1 HOff.out.2).turned ((Turn.refl (fun _ => False) wr).drew) id)
      have HCl := hid (clonePg_is HPl2.out)
      clear hRg hL hRc HRc HMax
      have hsp := H.out.lt
      have htw : Turn (fun _ => False) w wr ∨ True := .inr trivial
      go_wp2_with fail
      go_region_with (go_at_call 71; refine HCl.out.mono ?_; rintro e w9 ⟨rfl, hm9, t9⟩; have HM9 := hid hm9; have HT9 := hid t9; have c09 := (t9.cell (a := ⟨sp, 0, none⟩) (lt_of_cell (show wr.drew.cell? ⟨sp, 0, none⟩ = _ from c0)) id).trans (show wr.drew.cell? ⟨sp, 0, none⟩ = _ from c0); have c19 := (t9.cell (a := ⟨sp, 1, none⟩) (lt_of_cell (show wr.drew.cell? ⟨sp, 1, none⟩ = _ from c1)) id).trans (show wr.drew.cell? ⟨sp, 1, none⟩ = _ from c1); clear hm9 t9)
      all_goals go_wp2_with fail
      all_goals go_ret
      all_goals
        have T9 : Turn (fun _ => False) wr (w9.alloc (.cells #[.pointer (some ⟨s.sb, 0, none⟩), .map (some wr.heap.size)] 137)) := (((Turn.refl (fun _ => False) wr).drew).trans HT9.out).alloc _
        have hz9 := HT9.out.size
        have hzr := hA.out.2.1.size
        have hml := HM9.out.lt
        rw [show wr.drew.heap = wr.heap from rfl] at hz9 HM9 hml
        refine ⟨w9.heap.size, wr.heap.size, rl, rfl, ⟨by simp, by simp, ⟨pl, HM9.out.turned ((Turn.refl (fun _ => False) w9).alloc _) id, HE.out⟩, by omega, H.out.dom, H.out.ok⟩, hA.out.also T9 (fun _ h => h.elim) (fun _ h => h.elim), HSum.out, by omega, by omega⟩
    · intro i q1 f w5 cnt' hpm hns hR5 hlt5 t5 hsz5 hen
      (try simp only at hns hen)
      have hA5 := hA.out.also t5 (fun k e hf => HRF.out k hf e) (fun k e hk => by have := HWr.out; omega)
      have HA6 := hid (hA5.also ((Turn.refl (fun _ => False) w5).alloc (.cells #[.int .i64 q1, .int .i64 f] 143)) (fun _ h => h.elim) (fun _ h => h.elim))
      have HR6 := hid (hR5.turned ((Turn.refl (fun _ => False) w5).alloc (.cells #[.int .i64 q1, .int .i64 f] 143)) id id)
      have HL2 := hid (more_seen HPl.out.nodup hL.out hpm hns)
      have hN3 : ∀ g, cntL ((i, (q1, f)) :: L) g = cntL L g + if f = g then 1 else 0 := fun g => by
        simp only [cntL, List.map_cons, List.sum_cons, hasF_some]; omega
      have HN3 := hid hN3
      unfold encPg at hen
      by_cases hf : 0 ≤ f
      · have hpos : 1 ≤ t.R f := by
          have hPi : P i = some (q1, f) := by rw [← HE.out]; exact mget_mem HPl.out.nodup hpm
          have hd := H.out.dom _ _ hPi
          have h2 := cntF_ge (P := P) (i := i) (f := f) hd.1 hd.2
          rw [hPi, hasF_some, if_pos rfl] at h2
          have := HRc.out f hf
          omega
        obtain ⟨k, hk⟩ : ∃ k, mget rl f = some k := by
          have h1 := hRc.out f hf
          unfold St.R at h1
          simp only at h1
          cases hm : mget rl f with
          | none =>
            rw [hm] at h1
            have h2 : (Option.getD (none : Option Nat) 0) = 0 := rfl
            unfold St.R at hpos
            omega
          | some k => exact ⟨k, rfl⟩
        have hkR : k = t.R f + cntL L f := by
          have h1 := hRc.out f hf
          unfold St.R at h1 ⊢
          simp only [hk, Option.getD_some] at h1
          exact h1
        have hkb : k + 1 ≤ 100000 := by
          have h1 := HMax.out f hf
          have h2 := cntL_le f L
          omega
        have HK := hid hk
        have HKR := hid hkR
        have c0 := (H.out.turned HA6.out.2.1 HOff.out.1 HOff.out.2).c0
        have d2 := HA6.out.1.c2
        have e0 : (w5.alloc (.cells #[.int .i64 q1, .int .i64 f] 143)).cell? ⟨wr.heap.size, 1, none⟩ = some (.int .i64 f) := by rw [← hsz5]; simp
        have hrd := (HA6.out.1.turned (S := fun _ => False) ((Turn.refl (fun _ => False) _).drew) (fun _ _ => id)).refs
        have lk := look_rc hrd f
        simp only at lk hrd
        rw [hk] at lk
        simp only [Option.getD_some] at lk
        obtain ⟨w7, hrun, hm7, t7⟩ := hrd.run_update (P := Tryz.prog) keyI Tryz.underlying92 Tryz.underlying3 f (k + 1)
        simp only [encI, encRc] at hrun
        rw [show ((k + 1 : Nat) : Int) = (k : Int) + 1 by omega] at hrun
        have HM7 := hid hm7
        have HT7 := hid (Turn.trans' ((Turn.refl (fun b => b = s.rm) _).drew) t7 (fun _ _ h => h))
        have hw1 : IntKind.i64.wrap ((k : Int) + 1) = (k : Int) + 1 := IntWalk.i64_in _ (by omega)
        clear hpm hns hR5 t5 hA5 hN3 hpos hk hkR hRg hm7 t7 hrd
        go_wp2_with fail
        go_region
        all_goals go_wp2_with fail
        go_roundg cnt'
        case measure => omega
        case rel =>
          have hpr : pm ≠ s.rm := fun e => HOff.out.2 (.inr (.inl e))
          have hrr2 : r ≠ s.rm := fun e => HRF.out s.rm (.inr (.inl rfl)) e.symm
          have hrc := HA6.out.1.recount (f := f) (k := k + 1) (by simp only; rw [HK.out]; rfl) ⟨by omega, hkb⟩ HT7.out HM7.out
          refine ⟨_, _, mput rl f (k + 1), hid (HR6.out.turned HT7.out hpr hrr2), HL2, by simp only [List.length_cons]; omega, hid (HA6.out.trans hrc), hid (fun g hg => ?_)⟩
          have h1 := R_put ({ t with rl := rl } : St) f (k + 1)
          simp only at h1
          rw [h1]
          show (if g = f then k + 1 else ({ t with rl := rl } : St).R g) = _
          rw [HN3.out]
          by_cases e : g = f
          · rw [if_pos e, if_pos e.symm, e]
            have := HKR.out
            omega
          · rw [if_neg e, if_neg (fun e2 => e e2.symm)]
            exact hRc.out g hg
      · clear hpm hns hR5 t5 hA5 hN3 hRg
        go_wp2_with fail
        go_roundg cnt'
        case measure => omega
        case rel => exact ⟨_, _, rl, HR6, HL2, by simp only [List.length_cons]; omega, HA6, hid (fun g hg => by rw [hRc.out g hg, HN3.out, if_neg (by omega)]; rfl)⟩
end
end Go.Proofs.YtiohpmcedfbcgabGreatDoor
