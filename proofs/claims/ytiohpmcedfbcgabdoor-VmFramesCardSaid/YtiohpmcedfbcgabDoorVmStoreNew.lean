/- Package vm: Store, at a page that wants a new frame. Conditions: each theorem's own premises. -/
import Derived.Test.YtiohpmcedfbcgabDoorVmStore
namespace Go.Proofs.YtiohpmcedfbcgabDoor
open Go.RowKit
set_option linter.unusedVariables false

section
variable {w w' w1 w2 w3 : World} {s : SB} {n : Nat} {t t1 t2 : St} {sp pm sb : Nat} {P P' : Int → Option Pg} {O : Int → Nat}
set_option maxHeartbeats 4000000 in
set_option maxRecDepth 100000 in
theorem vmStore_new (h : VmOne w s n t sp pm P O) {a wd v q1 f : Int} (hq : P a = some (q1, f)) (h0 : 0 ≤ wd) (h8 : wd < 8) (HA : AccOk sp a wd q1 f w) (hno : ¬ (0 ≤ f ∧ t.R f ≤ 1)) :
    Calls Tryd.prog 122 #[.pointer (some ⟨sp, 0, none⟩), .int .i64 a, .int .i64 wd, .int .i64 v] w fun e w' => StoredFull s n t sp pm P O (q1, f) w e w' ∨ StoredNew s n t sp pm P O a wd v (q1, f) w e w' := by
  have HNo := hid hno
  have H := hid h
  have HQ := hid hq
  have HA' := hid HA
  unfold AccOk at HA'
  clear h hq HA hno
  go_enter Tryd.func122, Tryd.ntmps122
  go_wp2_with fail
  refine HA'.out.mono ?_
  rintro e w1 ⟨rfl, tt1⟩
  have T2 := tt1.alloc (.cells #[.int .i64 q1, .int .i64 f] 198)
  have e0 : (w1.alloc (.cells #[.int .i64 q1, .int .i64 f] 198)).cell? ⟨w1.heap.size, 1, none⟩ = some (.int .i64 f) := by simp
  have e1 : (w1.alloc (.cells #[.int .i64 q1, .int .i64 f] 198)).cell? ⟨w1.heap.size, 0, none⟩ = some (.int .i64 q1) := by simp
  have e2 : (w1.alloc (.cells #[.int .i64 q1, .int .i64 f] 198)).frozen? ⟨w1.heap.size, 1, none⟩ = false := by simp
  have hWs : (w1.alloc (.cells #[.int .i64 q1, .int .i64 f] 198)).heap.size = w1.heap.size + 1 := by simp
  have hW0 := tt1.size
  have h2 := H.out.turned T2 id id (fun _ _ => id)
  have HT2 := hid T2
  have H2 := hid h2
  clear T2 h2 tt1
  go_wp2_with fail
  generalize w1.alloc (.cells #[.int .i64 q1, .int .i64 f] 198) = W at *
  obtain ⟨c, hc⟩ : ∃ c, w1.heap.size = c := ⟨_, rfl⟩
  rw [hc] at hWs hW0 e0 e1 e2 ⊢
  have HC : Hid (¬ StFoot s t.vs c ∧ c < W.heap.size) := hid ⟨fun hf => by have := H.out.store.foot_lt c hf; omega, by omega⟩
  have hsc : sp ≠ c := by have := H.out.space.lt.1; omega
  have hbc : s.sb ≠ c := fun e => HC.out.1 (.inl e.symm)
  have h2 := H2.out
  have HWs := hid hWs
  have c0 := h2.space.c0
  have d0 := h2.store.c0
  have d1 := h2.store.c1
  have d2 := h2.store.c2
  have lk := fun k => look_rc (h2.store.refs.turned ((Turn.refl (fun _ => False) W).drewN k) id) f
  clear h2 hc hWs
  go_cut [38] (fun v wx => v = .bool true ∧ Hid (Turn (fun _ => False) W wx))
  case first =>
    as_aux_lemma =>
      by_cases hf : f < 0
      · have hfn : decide (f < 0) = true := decide_eq_true hf
        go_quiet (fail)
        go_wp2_with fail
        go_meet
        exact ⟨rfl, hid (Turn.drewN (Turn.refl _ _) _)⟩
      · have hfn : decide (f < 0) = false := decide_eq_false hf
        have hrv : 1 < ((mget t.rl f).getD 0 : Nat) := Nat.lt_of_not_le (fun h => HNo.out ⟨by omega, h⟩)
        obtain ⟨rv, hrv2⟩ : ∃ rv : Nat, (mget t.rl f).getD 0 = rv := ⟨_, rfl⟩
        rw [hrv2] at hrv lk
        have hrv3 : decide ((1 : Int) < rv) = true := decide_eq_true (by omega)
        clear hrv2
        go_quiet (fail)
        go_wp2_with fail
        go_meet
        exact ⟨rfl, hid (Turn.drewN (Turn.refl _ _) _)⟩
  case rest =>
    obtain ⟨rfl, ht⟩ := hcut
    have h3 := H2.out.turned ht.out id id (fun _ _ => id)
    have HT3 := hid (HT2.out.trans ht.out)
    have hlt3 := ht.out.size
    replace e0 := (ht.out.cell (a := ⟨c, 1, none⟩) HC.out.2 id).trans e0
    replace e1 := (ht.out.cell (a := ⟨c, 0, none⟩) HC.out.2 id).trans e1
    replace e2 := (ht.out.frozen (a := ⟨c, 1, none⟩) HC.out.2 id).trans e2
    replace HC : Hid (¬ StFoot s t.vs c ∧ c < wc.heap.size) := hid ⟨HC.out.1, by have := HC.out.2; omega⟩
    replace c0 := h3.space.c0
    replace d0 := h3.store.c0
    replace d1 := h3.store.c1
    replace d2 := h3.store.c2
    have H3 := hid h3
    have HAl := hid (alloc_any h3.store.pool 0 (by omega) h3.store.good (by have := h3.store.hn; show (n : Int) ≤ 256; omega))
    have hc1 := h3.space.c1
    clear h3 lk ht HT2 H2 HA' hlt3
    go_wp2_with fail
    refine HAl.out.mono ?_
    rintro e w2 hres
    rcases hres with ⟨rfl, rfl, hnone⟩ | ⟨k, base, fr', hk0, hk7, hbef, hmem, hle, rfl, hnew, hgood, hpa⟩
    · have HNone := hid hnone
      clear hnone
      go_wp2_with fail
      go_ret
      refine .inl ⟨HNo.out, ?_, rfl, H.out.same HT3.out⟩
      have h1 := H.out.store.left
      rw [leftOf_none HNone.out] at h1
      omega
    · obtain ⟨vs2, hp2, tp2, gp2⟩ := hpa
      have hbase := H.out.store.good.okF k base hk7 hmem
      have HB : Hid (0 ≤ base ∧ base < n ∧ t.R base = 0) := by
        refine hid ⟨hbase.2.1, ?_, ?_⟩
        · have h1 := hbase.2.2.2
          have h2 := sz_pos k
          omega
        · have h1 := H.out.store.same base
          rw [hnew] at h1
          unfold St.R
          cases hm : mget t.rl base with
          | none => rfl
          | some x => rw [hm] at h1; cases h1
      have HNew := hid hnew
      have HP2 := hid hp2
      have HTp := hid tp2
      have HGp := hid gp2
      have HGood := hid hgood
      have nsb : ¬ Foot s.p s.pmb t.vs s.sb := fun hf => (H.out.store.ap _ hf).1 rfl
      have nrm : ¬ Foot s.p s.pmb t.vs s.rm := fun hf => (H.out.store.ap _ hf).2.1 rfl
      have nsp : ¬ Foot s.p s.pmb t.vs sp := fun hf => H.out.off.1 (.inr (.inr (.inr (.inr hf))))
      have HRf := hid (H3.out.store.refs.turned tp2 nrm)
      have c02 := (tp2.cell (a := ⟨sp, 0, none⟩) (lt_of_cell c0) nsp).trans c0
      have d22 := (tp2.cell (a := ⟨s.sb, 2, none⟩) (lt_of_cell d2) nsb).trans d2
      have HCells : Hid (∀ w' t', StAfter s n t wc w' t' → _) := hid (fun w' t' (hA : StAfter s n t wc w' t') => (⟨hA.cells H3.out, hA.own HC.out.2 HC.out.1⟩ : _ ∧ _))
      have E0 := hid e0
      have E1 := hid e1
      have E2 := hid e2
      clear hnew hp2 tp2 gp2 hgood nsb nrm nsp hmem hle hbef hbase c0 d0 d1 d2 e0 e1 e2 hc1
      go_upto_if 63 with (at_mapUpdate; refine wpList_mapput rfl _ _ _ 33 3 3 rfl Tryd.underlying33 Tryd.underlying3 keyI s.rm rfl HRf.out base rfl 1 (by first | rfl | go_num) ?_; intro w4 hm4 t4; have hA4 := H3.out.store.taken HNew.out HP2.out HGood.out HTp.out HGp.out t4 hm4; obtain ⟨⟨c04, c14, d04, d14, d24⟩, k4, f4, n4⟩ := HCells.out _ _ hA4; have e04 := (k4 1).trans E0.out; have HA4 := hid hA4; clear k4 f4 n4 hm4 t4 hA4 c02 d22)
      have HBn : base < n := HB.out.2.1
      have HB0 : 0 ≤ base := HB.out.1
      go_cut [12] (fun er wx => er = .nilIface ∧ Hid (∃ t5, StAfter s n t wc wx t5 ∧ t5.R = (fun x => if x = base then 1 else if 0 ≤ f ∧ x = f then t.R f - 1 else t.R x) ∧ t5.m = if f < 0 then memZero t.m base.toNat else memCopy t.m base.toNat f.toNat))
      case first =>
        by_cases hf : f < 0
        · have hfn : decide (f < 0) = true := decide_eq_true hf
          have HZ := hid (zero_yes HA4.out.1.mem base HB0 HBn)
          go_wp2_with fail
          refine HZ.out.mono ?_
          rintro e w5 ⟨rfl, hm5, tt5⟩
          have HM5 := hid hm5
          have HT5 := hid tt5
          clear hm5 tt5
          go_wp2_with fail
          go_meet
          refine ⟨rfl, hid ⟨_, HA4.out.trans (HA4.out.1.words HT5.out HM5.out), ?_, ?_⟩⟩
          · refine (R_new t base vs2 fr' (mput t.tk base 0) _).trans ?_
            funext x
            rw [if_neg (show ¬ (0 ≤ f ∧ x = f) from fun h => by omega)]
          · rw [if_pos hf]
        · have hfn : decide (f < 0) = false := decide_eq_false hf
          have hrv : 1 < t.R f := Nat.lt_of_not_le (fun h => HNo.out ⟨by omega, h⟩)
          have hfr := H.out.store.frame (f := f) (by omega)
          have HCp := hid (copy_yes (HA4.out.1.mem.turned ((Turn.refl (fun _ => False) _).drew) id id) base f HB0 HBn hfr.1 hfr.2)
          have Hrv := hid hrv
          have HFn := hid hf
          clear hrv hf
          go_upto_region 11 with fail
          go_cut [12] (fun er wx => er = .nilIface ∧ Hid (∃ m5, m5 = memCopy t.m base.toNat f.toNat ∧ StAfter s n t wc wx ⟨vs2, fr', mput t.tk base 0, mput t.rl base 1, m5⟩))
          case first =>
            --<<
            as_aux_lemma =>
              go_region_with (go_at_call 165; refine HCp.out.mono ?_; rintro e w5 ⟨rfl, hm5, tt5⟩; have HM5 := hid hm5; have HT5 := hid (Turn.trans' (Turn.drew (Turn.refl _ _)) tt5 (fun _ _ h => h)); clear hm5 tt5)
              all_goals go_wp2_with fail
              all_goals go_meet
              all_goals exact ⟨rfl, hid ⟨_, rfl, HA4.out.trans (HA4.out.1.words HT5.out HM5.out)⟩⟩
            -->>
          case rest =>
            obtain ⟨rfl, hx⟩ := hcut
            obtain ⟨m5, hm5, hA5⟩ := hx.out
            have HM5 := hid hm5
            have HA5 := hid hA5
            have HD := hid (drop_is (hA5.1.turned ((Turn.refl (fun _ => False) _).drew) (fun _ _ => id)) f (by
              have h1 := R_new t base vs2 fr' (mput t.tk base 0) m5
              rw [h1]
              show 0 < if f = base then 1 else t.R f
              split
              · omega
              · have := Hrv.out; omega))
            obtain ⟨⟨c05, c15, d05, d15, d25⟩, k5, f5, n5⟩ := HCells.out _ _ hA5
            have e05 := (k5 1).trans E0.out
            clear hx hm5 hA5 c04 c14 d04 d14 d24 e04 k5 f5 n5
            go_upto_region 12 with fail
            go_region_with (go_at_call 166; refine HD.out.mono ?_; rintro e w6 ⟨rfl, t6, hA6, hm6, hR6⟩; have HA6 := hid hA6; have HM6 := hid hm6; have HR6 := hid hR6; clear hA6 hm6 hR6)
            all_goals go_wp2_with fail
            all_goals go_meet
            all_goals
              refine ⟨rfl, hid ⟨t6, (HA5.out.also (Turn.drew (Turn.refl (fun _ => False) _)) (fun _ h => h.elim) (fun _ h => h.elim)).trans HA6.out, ?_, ?_⟩⟩
            all_goals first
              | (rw [HR6.out]
                 have h1 := R_new t base vs2 fr' (mput t.tk base 0) m5
                 funext x
                 rw [h1]
                 have h2 := HB.out.2.2
                 have h3 := Hrv.out
                 have h4 : f ≠ base := fun e => by rw [e, h2] at h3; omega
                 show (if x = f then (if f = base then 1 else t.R f) - 1 else if x = base then 1 else t.R x) = _
                 by_cases e : x = f
                 · subst e
                   rw [if_pos rfl, if_neg h4, if_neg h4, if_pos ⟨by omega, rfl⟩]
                 · rw [if_neg e]
                   by_cases e2 : x = base
                   · rw [if_pos e2, if_pos e2]
                   · rw [if_neg e2, if_neg e2, if_neg (fun e3 => e e3.2)])
              | (rw [HM6.out, if_neg (Int.not_lt.2 HFn.out)]; exact HM5.out)
      case rest =>
        obtain ⟨rfl, hx⟩ := hcut
        obtain ⟨t5, hA5, hR5, hm5⟩ := hx.out
        have HA5 := hid hA5
        have HR5 := hid hR5
        have HM5 := hid hm5
        obtain ⟨⟨c05, c15, d05, d15, d25⟩, k5, f5, n5⟩ := HCells.out _ _ hA5
        have e05 := (k5 1).trans E0.out
        have e15 := (k5 0).trans E1.out
        have e25 := (f5 1).trans E2.out
        have N5 := hid n5
        clear hx hA5 hR5 hm5 k5 f5 n5 c04 c14 d04 d14 d24 e04
        go_wp2_with fail
        have hA6 := (HA5.out.before HT3.out).also ((Turn.refl (fun k => k = c) wc).setCell ⟨c, 1, none⟩ (.int .i64 base) (fun _ => rfl)) (fun k e => e ▸ N5.out) (fun k e => by omega)
        have g1 : (wc.setCell ⟨c, 1, none⟩ (.int .i64 base)).cell? ⟨c, 1, none⟩ = some (.int .i64 base) := World.cell?_setCell_same _ _ _ e05
        have g0 : (wc.setCell ⟨c, 1, none⟩ (.int .i64 base)).cell? ⟨c, 0, none⟩ = some (.int .i64 q1) := by
          exact (World.cell?_setCell_other _ _ _ _ (fun e => by simp at e)).trans e15
        generalize wc.setCell ⟨c, 1, none⟩ (.int .i64 base) = W5 at *
        obtain ⟨c06, c16, d06, d16, d26⟩ := hA6.cells H.out
        obtain ⟨pl, hpl, he⟩ := H.out.space.pages
        have HE := hid he
        have hpd : MapIs W5.drew pm (.int .i64) encI encPg pl := (hpl.turned hA6.2.1 H.out.off.2).of_heap rfl
        obtain ⟨w7, hrun, hm7, t7⟩ := hpd.run_update (P := Tryd.prog) keyI Tryd.underlying194 Tryd.underlying3 a (q1, base)
        simp only [encI, encPg] at hrun
        have hpc : pm ≠ c := by have := H.out.space.lt.2; omega
        have hdm := H.out.space.dom _ _ HQ.out
        have hok := H.out.space.ok _ _ HQ.out
        have hsr := store_refs (O := O) (R := t.R) (R' := t5.R) (f := f) (pr := q1) hdm HQ.out H.out.refs H.out.one HB0 HB.out.2.2 HR5.out
        have hV := H.out.step hA6 (Turn.trans' ((Turn.refl (fun q => q = pm) W5).drew) t7 (fun _ _ h => h)) hm7 (P' := setP P a (some (q1, base))) (fun i => by rw [mget_mput, HE.out]; rfl) (setP_dom H.out.space hdm) (setP_ok H.out.space (fun q hq => by have := H.out.store.hn; cases hq; exact ⟨hok.1, hok.2.1, by simp only; omega, by simp only; omega⟩)) hsr.1 hsr.2
        have HV := hid hV
        have g17 := (t7.cell (a := ⟨c, 1, none⟩) (by rw [show W5.drew.heap = W5.heap from rfl]; exact lt_of_cell g1) (fun e => hpc e.symm)).trans (show W5.drew.cell? ⟨c, 1, none⟩ = _ from g1)
        have c07 := hV.1.space.c0
        have d07 := hV.1.store.c0
        have HSet := hid (set_yes (hV.1.store.mem.turned ((Turn.refl (fun _ => False) w7).drew) id id) base wd v HB0 HBn h0 h8)
        clear hA6 hpl he hpd hm7 t7 hdm hok hsr hV c05 c15 d05 d15 d25 e05 e15 e25
        go_region
        go_wp2_with fail
        go_region_with (go_at_call 167; refine HSet.out.mono ?_; rintro e w8 ⟨rfl, hm8, tt8⟩; have HM8 := hid hm8; have HT8 := hid (Turn.trans' (Turn.drew (Turn.refl (fun b => b = s.wb) w7)) tt8 (fun _ _ h => h)); clear hm8 tt8)
        all_goals go_wp2_with fail
        all_goals go_ret
        all_goals exact .inr ⟨HNo.out, rfl, base, { t5 with m := memSet t5.m base.toNat wd.toNat v }, HB.out.1, HB.out.2.1, HB.out.2.2, by unfold newM; rw [← HM5.out], HV.out.trans (HV.out.1.stored HT8.out HM8.out)⟩
end
end Go.Proofs.YtiohpmcedfbcgabDoor
