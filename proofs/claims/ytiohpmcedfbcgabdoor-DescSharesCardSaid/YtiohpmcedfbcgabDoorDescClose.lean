/- Package desc: Close. Conditions: each theorem's own premises. -/
import Derived.Test.YtiohpmcedfbcgabDoorDescFiles
namespace Go.Proofs.YtiohpmcedfbcgabDoor
open Go.RowKit
set_option linter.unusedVariables false
/-- A pipe with one end less. -/
def endP (q : PP) (kind : Int) : PP := if kind = 2 then { q with e0 := q.e0 - 1 } else { q with e1 := q.e1 - 1 }
/-- What goes with an entry. -/
def goneS (S : PS) (e : PE) : PS := if e.kind = 1 then treeS S (dropT S.T e.node) else (S.ps[e.pid]?).elim S fun q => pipeS S e.pid (endP q e.kind)
def closeS (S : PS) (L : PTab) (n : Int) : PS := (entL S L n).elim S fun x => if 1 < x.2.refs then putS S x.1 { x.2 with refs := x.2.refs - 1 } else goneS (delS S x.1) x.2
def closeE (S : PS) (L : PTab) (n : Int) : Int := (entL S L n).elim 7 fun x => if 1 < x.2.refs then 0 else if x.2.kind = 1 then dropE S.T x.2.node else 0
def closeL (S : PS) (L : PTab) (n : Int) : PTab := (entL S L n).elim L fun _ => tset L n.toNat (0, false)
section
variable {w w' w1 w2 : World} {fb tb om b tab : Nat} {S S' : PS} {B : Int → Nat} {P : Nat → Nat} {Ft F : Nat → Prop} {C : Nat → Nat × Int} {e e' : PE} {k n : Int} {L L' : PTab}
theorem FilesIn.still (h : FilesIn w fb tb om S B P Ft C) (t : Turn (fun _ => False) w w') : FilesIn w' fb tb om S B P Ft C := h.turned t (fun _ _ => id)
theorem mdel_mupd (m : List (Int × PE)) (k : Int) (v : PE) : mdel (mupd m k v) k = mdel m k := by
  induction m with
  | nil => rfl
  | cons t l ih =>
    show List.filter _ ((if t.1 = k then (t.1, v) else t) :: mupd l k v) = List.filter _ (t :: l)
    rw [List.filter_cons, List.filter_cons]
    by_cases h : t.1 = k
    · rw [if_pos h]; simp only [h, ne_eq, not_true_eq_false, decide_false, Bool.false_eq_true, if_false]; exact ih
    · rw [if_neg h]; simp only [h, ne_eq, not_false_eq_true, decide_true, if_true]; exact congrArg _ ih
theorem del_put (he : mget S.es k = some e) : delS (putS S k e') k = delS S k := by
  show PS.mk _ _ _ = PS.mk _ _ _
  congr 1
  show mdel (mput S.es k e') k = mdel S.es k
  unfold mput
  rw [he]
  exact mdel_mupd _ _ _
set_option maxHeartbeats 2000000 in
set_option maxRecDepth 100000 in
theorem close_is (h : FilesIs w fb tb S F) (hS : DOk S) (ht : TabIs w tab L) (hok : TabOk S L) (hn : ¬ F tab) (n : Int) :
    Calls Tryd.prog 84 #[.pointer (some ⟨fb, 0, none⟩), .pointer (some ⟨tab, 0, none⟩), .int .i64 n] w fun e w' => e = .returned (TErr (closeE S L n)) ∧ FilesTo fb tb tab F w w' (closeS S L n) (closeL S L n) := by
  obtain ⟨om, B, P, Ft, C, hin, rfl⟩ := h
  cases hx : entL S L n with
  | none =>
    have e1 : closeE S L n = 7 := by unfold closeE; rw [hx]; rfl
    have e2 : closeS S L n = S := by unfold closeS; rw [hx]; rfl
    have e4 : closeL S L n = L := by unfold closeL; rw [hx]; rfl
    rw [e1, e2, e4]
    have HG := hid (get_none hin ht hok hx)
    have HK : Hid (∀ w', Turn (fun _ => False) w w' → FilesTo fb tb tab (CFoot C) w w' S L) := hid (fun w' t => .same (hin.turned t (fun _ _ => id)) (ht.turned t id) (no_turn t) hn)
    clear hin ht hok hn hx e1 e2 e4
    go_enter Tryd.func84, Tryd.ntmps84
    go_wp2_with (go_at_call 131; refine HG.out.mono ?_; rintro e w' ⟨rfl, t⟩)
    go_ret
    exact ⟨rfl, HK.out _ t⟩
  | some x =>
    obtain ⟨k, e⟩ := x
    have hs := (entL_some hx).1
    have he := (entL_some hx).2
    obtain ⟨hn0, hn8, hnz, hnk⟩ := slotL_some hs
    have e4 : closeL S L n = tset L n.toNat (0, false) := by unfold closeL; rw [hx]; rfl
    rw [e4]
    have hE := hS.ent k e he
    obtain ⟨⟨hr1, hr2, _, _⟩, hkind⟩ := hE
    have hj : n.toNat < 8 := by omega
    have hp := ht.pos n.toNat hj
    have hw : IntKind.i64.wrap ((L n.toNat).1 - 1) = (L n.toNat).1 - 1 := IntWalk.i64_in _ (by omega)
    have hrw : IntKind.i64.wrap ((e.refs : Int) - 1) = (e.refs : Int) - 1 := IntWalk.i64_in _ (by omega)
    have HG := hid (get_some hin ht hok hx)
    have HI := hid hin
    have HT := hid ht
    have HN := hid hn
    have HE := hid he
    have HNK := hid hnk
    have HB : CFoot C (B k) := hin.foot he
    have HBt : Hid (tab ≠ B k) := hid (fun e => hn (e ▸ HB))
    have hoz : n.toNat = n := by omega
    by_cases hr : 1 < e.refs
    · have e1 : closeE S L n = 0 := by unfold closeE; rw [hx]; exact if_pos hr
      have e2 : closeS S L n = putS S k { e with refs := e.refs - 1 } := by unfold closeS; rw [hx]; exact if_pos hr
      rw [e1, e2]
      clear hin ht hok hn hx e1 e2 e4 he hs hnz hnk hS hkind hp
      go_enter Tryd.func84, Tryd.ntmps84
      go_wp2_with (go_at_call 131; refine HG.out.mono ?_; rintro e w' ⟨rfl, t⟩; have HTt := hid t; clear t; have c0 := (HT.out.turned HTt.out id).ent n.toNat hj; have c1 := (HT.out.turned HTt.out id).mark n.toNat hj; have z0 := (HT.out.turned HTt.out id).fz (n.toNat * 2); have z1 := (HT.out.turned HTt.out id).fz (n.toNat * 2 + 1); have HD := hid (((HI.out.still HTt.out).en k _ HE.out).turned (turn_tab_own tab w' (n.toNat * 2) (n.toNat * 2 + 1) (.int .i64 0) (.bool false)) (fun x => HBt.out x.symm)); have c5 := HD.out.c5; have z5 := HD.out.fz 5)
      go_ret
      have hi := (HI.out.still HTt.out).beside HN.out (turn_tab_own tab w' (n.toNat * 2) (n.toNat * 2 + 1) (.int .i64 0) (.bool false))
      have ht2 := (HT.out.turned HTt.out id).set hj 0 false (by omega)
      exact ⟨rfl, .same (hi.put HE.out (HD.out.setRefs (c := e.refs - 1) (by omega)) (turn_own _ _ _ _)) (ht2.turned (turn_own (B k) _ _ _) (fun x => HBt.out x)) (((no_turn HTt.out).trans (turn_tab C tab _ _ _ _ _)).trans (turn_ent C tab HB _ _ _)) HN.out⟩
    · have hr' : e.refs = 1 := by omega
      have e1 : closeE S L n = if e.kind = 1 then dropE S.T e.node else 0 := by unfold closeE; rw [hx]; exact if_neg hr
      have e2 : closeS S L n = goneS (delS S k) e := by unfold closeS; rw [hx]; exact if_neg hr
      obtain ⟨Z, hZ⟩ : ∃ Z, closeE S L n = Z := ⟨_, rfl⟩
      obtain ⟨S2, hS2⟩ : ∃ S2, closeS S L n = S2 := ⟨_, rfl⟩
      rw [hZ, hS2]
      have HZ := hid (hZ.symm.trans e1)
      have HS2 := hid (hS2.symm.trans e2)
      clear hZ hS2
      have HR := hid hr'
      have HBd : Hid (∀ p, mget S.T e.node = some p → p.held < 1000000) := hid (fun p hp => by rw [hS.held _ p hp]; have h1 := hS.size; have h2 : heldE e.node S.es ≤ S.es.length := List.length_filter_le _ _; omega)
      clear hin ht hok hn hx e1 e2 e4 he hs hnz hnk hS hp hr hr' hrw hr1 hr2
      go_enter Tryd.func84, Tryd.ntmps84
      go_upto_region 9 with (go_at_call 131; refine HG.out.mono ?_; rintro e w' ⟨rfl, t⟩; have HTt := hid t; clear t; have c0 := (HT.out.turned HTt.out id).ent n.toNat hj; have c1 := (HT.out.turned HTt.out id).mark n.toNat hj; have z0 := (HT.out.turned HTt.out id).fz (n.toNat * 2); have z1 := (HT.out.turned HTt.out id).fz (n.toNat * 2 + 1); have HD := hid (((HI.out.still HTt.out).en k _ HE.out).turned (turn_tab_own tab w' (n.toNat * 2) (n.toNat * 2 + 1) (.int .i64 0) (.bool false)) (fun x => HBt.out x.symm)); have c5 := HD.out.c5; have z5 := HD.out.fz 5; rw [HR.out] at c5)
      have HI2 := hid (((HI.out.still HTt.out).beside HN.out (turn_tab_own tab w' (n.toNat * 2) (n.toNat * 2 + 1) (.int .i64 0) (.bool false))).put HE.out (HD.out.setRefs (z := 0) (c := 0) rfl) (turn_own (B k) _ 5 (.int .i64 0)))
      have HT2 := hid (((HT.out.turned HTt.out id).set hj 0 false (by omega)).turned (turn_own (B k) _ 5 (.int .i64 0)) (fun x => HBt.out x))
      have HTu := hid (((no_turn (X := fun j => CFoot C j ∨ j = tab) HTt.out).trans (turn_tab C tab w' (n.toNat * 2) (n.toNat * 2 + 1) (.int .i64 0) (.bool false))).trans (turn_ent C tab HB _ 5 (.int .i64 0)))
      have HD2 := hid (HD.out.setRefs (z := 0) (c := 0) rfl)
      clear c0 c1 z0 z1 c5 z5 HD
      have hh := HI2.out.h1
      go_upto_region 10 with (at_delete; refine wpList_mapdel rfl _ _ 208 3 212 rfl Tryd.underlying208 Tryd.underlying3 keyI om rfl HI2.out.mp ((L n.toNat).1 - 1) rfl ?_; intro w4 hm4 t4; rw [HNK.out] at hm4; have hi4 := HI2.out.del hm4 t4; rw [del_put HE.out] at hi4; have HI4 := hid hi4; have HT4 := hid (HT2.out.turned t4 (fun x => HN.out (x ▸ (show C om ≠ _ from by rw [HI.out.cm]; simp)))); have HTu4 := hid (HTu.out.trans (t4.mono (fun j _ hj => .inl (hj ▸ (show C om ≠ _ from by rw [HI.out.cm]; simp))))); have HD4 := hid (HD2.out.turned t4 (mark_ne (HI.out.ce _ _ HE.out) HI.out.cm (by simp))); clear hm4 t4 hi4 hh)
      clear HI2 HT2 HTu HD2
      rcases hkind with ⟨hk, _⟩ | ⟨hk, _, q, hq, hq1⟩ | ⟨hk, _, q, hq, hq1⟩
      · have c0 : w4.cell? ⟨B k, 0, none⟩ = some (.int .i64 1) := by rw [← hk]; exact HD4.out.c0
        have c2 : w4.cell? ⟨B k, 2, none⟩ = some (.int .i64 e.node) := HD4.out.c2
        have h0 := HI4.out.h0
        have e1 : (if e.kind = 1 then dropE S.T e.node else 0) = dropE S.T e.node := if_pos hk
        have e2 : goneS (delS S k) e = treeS (delS S k) (dropT S.T e.node) := if_pos hk
        have E1 := hid (HZ.out.trans e1)
        have E2 := hid (HS2.out.trans e2)
        clear HZ HS2
        have HC := hid (drop_is (HI4.out.still (Turn.refl _ _).drew).tr e.node HBd.out)
        clear hk e1 e2
        go_upto_region 11 with fail
        go_region_with (go_at_call 97; refine HC.out.mono ?_; rintro e w5 ⟨rfl, h5⟩; have H5 := hid h5; clear h5)
        all_goals go_wp2_with fail
        all_goals go_ret
        all_goals rw [E1.out, E2.out]
        all_goals (
          obtain ⟨Ft', C', hi5, hC5, ht5⟩ := (HI4.out.still (Turn.refl _ _).drew).tree H5.out
          have hlt : tab < w4.drew.heap.size := HT4.out.lt
          have htab : C' tab = C tab := (hC5 tab).resolve_right (by omega)
          refine ⟨rfl, .of hi5 ((HT4.out.turned (S := fun _ => False) (Turn.refl _ _).drew id).turned ht5 HN.out) (HTu4.out.drew.trans (ht5.mono (fun j _ hj => .inl hj))) (fun j hj => ?_) (fun hx => HN.out (by have hx : C' tab ≠ _ := hx; rw [htab] at hx; exact hx))⟩
          rcases hC5 j with h1 | h1
          · exact .inl (by have hj : C' j ≠ _ := hj; rw [h1] at hj; exact hj)
          · exact .inr (Nat.le_trans HTu4.out.size h1))
      · have c0 : w4.cell? ⟨B k, 0, none⟩ = some (.int .i64 2) := by rw [← hk]; exact HD4.out.c0
        have c3 : w4.cell? ⟨B k, 3, none⟩ = some (.pointer (some ⟨P e.pid, 0, none⟩)) := by
          have h1 := HD4.out.c3
          have h2 : pipeV P { e with refs := 0 } = ptrV (P e.pid) := if_neg (by show ¬ e.kind = 1; rw [hk]; decide)
          rw [h2] at h1; exact h1
        have HQ : Hid (S.ps[e.pid]? = some q) := hid hq
        have e1 : (if e.kind = 1 then dropE S.T e.node else 0) = 0 := if_neg (by rw [hk]; decide)
        have e2 : goneS (delS S k) e = pipeS (delS S k) e.pid { q with e0 := q.e0 - 1 } := by
          have h1 : goneS (delS S k) e = (S.ps[e.pid]?).elim (delS S k) fun q => pipeS (delS S k) e.pid (endP q e.kind) := if_neg (by rw [hk]; decide)
          rw [h1, hq]
          show pipeS _ _ (endP q e.kind) = _
          unfold endP
          rw [hk]
          rfl
        have E1 := hid (HZ.out.trans e1)
        have E2 := hid (HS2.out.trans e2)
        clear HZ HS2
        have HPp := hid ((HI4.out.still (Turn.refl _ _).drew).pp e.pid q hq)
        have HC := hid (close2 (b := q.b) HPp.out (by omega) (by omega))
        clear hk hq hq1 e1 e2
        go_upto_region 12 with fail
        go_region_with (go_at_call 134; refine HC.out.mono ?_; rintro e w5 ⟨rfl, hp5, t5⟩; have HP5 := hid hp5; have HT5 := hid t5; clear hp5 t5)
        all_goals go_wp2_with fail
        all_goals go_ret
        all_goals rw [E1.out, E2.out]
        all_goals exact ⟨rfl, .same ((HI4.out.still (Turn.refl _ _).drew).pipe HQ.out (q' := { q with e0 := q.e0 - 1 }) HP5.out HT5.out) ((HT4.out.turned (S := fun _ => False) (Turn.refl _ _).drew id).turned HT5.out (fun x => HN.out (x ▸ (show C _ ≠ _ from by rw [HI4.out.cp e.pid q HQ.out]; simp)))) (HTu4.out.drew.trans (HT5.out.mono (fun j _ hj => .inl (hj ▸ (show C _ ≠ _ from by rw [HI4.out.cp e.pid q HQ.out]; simp))))) HN.out⟩
      · have c0 : w4.cell? ⟨B k, 0, none⟩ = some (.int .i64 3) := by rw [← hk]; exact HD4.out.c0
        have c3 : w4.cell? ⟨B k, 3, none⟩ = some (.pointer (some ⟨P e.pid, 0, none⟩)) := by
          have h1 := HD4.out.c3
          have h2 : pipeV P { e with refs := 0 } = ptrV (P e.pid) := if_neg (by show ¬ e.kind = 1; rw [hk]; decide)
          rw [h2] at h1; exact h1
        have HQ : Hid (S.ps[e.pid]? = some q) := hid hq
        have e1 : (if e.kind = 1 then dropE S.T e.node else 0) = 0 := if_neg (by rw [hk]; decide)
        have e2 : goneS (delS S k) e = pipeS (delS S k) e.pid { q with e1 := q.e1 - 1 } := by
          have h1 : goneS (delS S k) e = (S.ps[e.pid]?).elim (delS S k) fun q => pipeS (delS S k) e.pid (endP q e.kind) := if_neg (by rw [hk]; decide)
          rw [h1, hq]
          show pipeS _ _ (endP q e.kind) = _
          unfold endP
          rw [hk]
          rfl
        have E1 := hid (HZ.out.trans e1)
        have E2 := hid (HS2.out.trans e2)
        clear HZ HS2
        have HPp := hid ((HI4.out.still (Turn.refl _ _).drew).pp e.pid q hq)
        have HC := hid (close3 (b := q.b) HPp.out (by omega) (by omega))
        clear hk hq hq1 e1 e2
        go_upto_region 12 with fail
        go_region_with (go_at_call 134; refine HC.out.mono ?_; rintro e w5 ⟨rfl, hp5, t5⟩; have HP5 := hid hp5; have HT5 := hid t5; clear hp5 t5)
        all_goals go_wp2_with fail
        all_goals go_ret
        all_goals rw [E1.out, E2.out]
        all_goals exact ⟨rfl, .same ((HI4.out.still (Turn.refl _ _).drew).pipe HQ.out (q' := { q with e1 := q.e1 - 1 }) HP5.out HT5.out) ((HT4.out.turned (S := fun _ => False) (Turn.refl _ _).drew id).turned HT5.out (fun x => HN.out (x ▸ (show C _ ≠ _ from by rw [HI4.out.cp e.pid q HQ.out]; simp)))) (HTu4.out.drew.trans (HT5.out.mono (fun j _ hj => .inl (hj ▸ (show C _ ≠ _ from by rw [HI4.out.cp e.pid q HQ.out]; simp))))) HN.out⟩
end
end Go.Proofs.YtiohpmcedfbcgabDoor
