/- Package kernel: own.with: what costs numbers is done all or nothing. Conditions: each theorem's own premises; the variable errors.errorType holds what is laid. Package kernel: Dup, and what it hands to own.with. Conditions: each theorem's own premises; the variable errors.errorType holds what is laid. Package kernel: File, and what it hands to own.with. Conditions: each theorem's own premises; the variable errors.errorType holds what is laid. Package kernel: Pipe, and what it hands to own.with. Conditions: each theorem's own premises; the variable errors.errorType holds what is laid. Package kernel: Write. Conditions: each theorem's own premises; the variable errors.errorType holds what is laid. KernelTalks: each call that the law makes, and what is there then. Conditions: each theorem's own premises. KernelTalks: the law's walk: for all texts and numbers it returns true. Conditions: each theorem's own premises; the variable errors.errorType holds what is laid. -/
import Derived.Test.YtamleilijmgoeaaGreatDoorKern
import Derived.Test.YtamleilijmgoeaaGreatDoorBase
namespace Go.Proofs.YtamleilijmgoeaaGreatDoor
open Go.RowKit
set_option linter.unusedVariables false
section
variable {W w w' w1 : World} {a : KA} {k : KS} {C C' : Nat → Nat × Nat} {pid : Int} {i j : Nat} {o o' : KO} {x : Spc} {y : Nat × PTab} {S S' : PS} {L L' L0 : PTab} {ts : List (Nat × PTab)} {tab : Nat} {t' : St} {u' : Nat → Int} {e : PE} {n : Int}
def FnDoes (W : World) (a : KA) (k : KS) (i : Nat) (o : KO) (y : Nat × PTab) (z : Int) (S' : PS) (L' : PTab) (u' : Nat → Int) (C : Nat → Nat × Nat) (Kq : World → Prop) (e : Ending) (w' : World) : Prop :=
 e = .returned (TErr z) ∧ KIn W w' a (fileK k i o y S' L' u') C ∧ Kq w'
def withE (o : KO) (n z : Int) : Int := if o.m 1 < o.u 1 + n then 4 else z
def WithTo (W : World) (a : KA) (k : KS) (i : Nat) (o : KO) (y : Nat × PTab) (n z : Int) (S' : PS) (L' : PTab) (C : Nat → Nat × Nat) (Kp Kq : World → Prop) (e : Ending) (w' : World) : Prop :=
 e = .returned (TErr (withE o n z)) ∧ ((o.m 1 < o.u 1 + n ∧ KIn W w' a k C ∧ Kp w') ∨ (¬ o.m 1 < o.u 1 + n ∧ KIn W w' a (fileK k i o y S' L' (if z = 0 then upd o.u 1 (o.u 1 + n) else o.u)) C ∧ Kq w'))
theorem KIn.fileBack (h : KIn W w a (fileK k i o y S' L' u') C) (hm : Mine k pid i o x y) {v : Nat → Int} (hL : LedgerIs w' o.lb v o.m) (t : Turn (fun j => j = o.lb) w w') : KIn W w' a (fileK k i o y S' L' v) C := by
 have h1 := h.ledgerC (i := i) (o := { o with u := u' }) (set_at hm.ko) hL t
 have e : ({ fileK k i o y S' L' u' with os := (fileK k i o y S' L' u').os.set i { ({ o with u := u' } : KO) with u := v, m := o.m } } : KS) = fileK k i o y S' L' v := by
  unfold fileK
  simp only [List.set_set]
 rw [e] at h1
 exact h1
set_option maxHeartbeats 2000000 in
set_option maxRecDepth 100000 in
theorem kwith_is (h : KIn W w a k C) (hok : KOk k) (hm : Mine k pid i o x y) (hLd : Laid W) (N : Nat) (h1 : 1 ≤ N) (h2 : N ≤ 2) (g : Nat) (lb : Array Value) (eg : ∀ args w, (callFunc g args).run Tryz.prog w = .ok (.enter g args) w)
  (z : Int) (S' : PS) (L' : PTab) (Kp Kq : World → Prop) (hKp : Kp w) (hp : ∀ w1 w2, Kp w1 → Turn (fun j => j = o.lb) w1 w2 → Kp w2) (hq : ∀ w1 w2, Kq w1 → Turn (fun j => j = o.lb) w1 w2 → Kq w2)
  (hF : ∀ w5, KIn W w5 a (fileK k i o y k.S y.2 (upd o.u 1 (o.u 1 + N))) C → Kp w5 → Calls Tryz.prog g lb w5 (FnDoes W a k i o y z S' L' (upd o.u 1 (o.u 1 + N)) C Kq)) :
  Calls Tryz.prog 53 #[.pointer (some ⟨o.ob, 0, none⟩), .int .i64 1, .int .i64 N, .func (.func g) #[] lb] w (WithTo W a k i o y N z S' L' C Kp Kq) := by
 obtain ⟨hO, hL⟩ := h.at_ hm
 have hfit := (hok.fit i o hm.ko).1
 have hcg := charge_one hL hfit 1 N
 have hwy : why o.u o.m ((1 : Int), (N : Int)) = if 0 < (N : Int) ∧ o.m 1 < o.u 1 + N then 4 else 0 := why_more hfit 1 (by omega) N (by omega) (by omega)
 unfold Charged1 at hcg
 have HCg := hid hcg
 have c2 := hO.c2
 have H := hid h
 have HOk := hid hok
 have HM := hid hm
 have HLd := hid hLd
 have HKp := hid hKp
 have Hp := hid hp
 have Hq := hid hq
 have HF := hid hF
 have hneg : IntKind.i64.wrap (-(N : Int)) = -N := IntWalk.i64_in _ (by omega)
 have Hneg := hid hneg
 have hN64 : -2 ≤ -(N : Int) ∧ -(N : Int) ≤ 2 := by omega
 by_cases hlim : o.m 1 < o.u 1 + N
 ·rw [if_pos ⟨by omega, hlim⟩] at hwy
  have HWy := hid hwy
  have HLim := hid hlim
  have hR : ∀ w', KIn W w' a k C → Kp w' → WithTo W a k i o y N z S' L' C Kp Kq (.returned (.iface 36 (.int .i64 4))) w' := fun w' h1 h2 => ⟨by rw [show withE o N z = 4 from if_pos hlim]; rfl, .inl ⟨hlim, h1, h2⟩⟩
  have HRt := hid hR
  clear h hok hm hO hL hcg hLd hKp hp hq hF hneg hwy hlim hfit hR
  go_enter Tryz.func53, Tryz.ntmps53
  go_wp2_with fail
  refine HCg.out.mono ?_
  rintro e w3 (⟨h0, _⟩ | ⟨_, b, rfl, hb, t3, hbf⟩)
  ·rw [HWy.out] at h0; cases h0
  ·rw [HWy.out] at hb
   have HK3 := hid (H.out.still t3)
   have HBr := hid (kbare_at 4 b w3 (HLd.out.turned0 HK3.out.turn) hb)
   have HP3 := hid (Hp.out _ _ HKp.out (t3.mono (fun _ _ h => h.elim)))
   clear hb t3 hbf
   go_wp2_with fail
   refine HBr.out.mono ?_
   rintro e w5 ⟨rfl, t5⟩
   have HR := hid (HK3.out.still t5)
   have HP5 := hid (Hp.out _ _ HP3.out (t5.mono (fun _ _ h => h.elim)))
   clear t5
   go_wp2_with fail
   go_returns
   exact HRt.out _ HR.out HP5.out
 ·rw [if_neg (fun e => hlim e.2)] at hwy
  have HWy := hid hwy
  have HLim := hid hlim
  have HFit := hid hfit
  have e3 : ({ k with os := k.os.set i { o with u := done o.u ((1 : Int), (N : Int)), m := o.m } } : KS) = fileK k i o y k.S y.2 (upd o.u 1 (o.u 1 + N)) := by
   unfold fileK
   rw [show k.ts.set i (y.1, y.2) = k.ts from list_set_same hm.tab]
   rfl
  have HE3 := hid e3
  have hback : Fit (upd o.u 1 (o.u 1 + N)) o.m → why (upd o.u 1 (o.u 1 + N)) o.m ((1 : Int), -(N : Int)) = 0 := by
   intro hf
   have h3 := hfit 1 (by omega)
   refine why_less hf 1 (by omega) N (by omega) ?_
   rw [upd_same]
   omega
  have HBack := hid hback
  have hdb : done (upd o.u 1 (o.u 1 + N)) ((1 : Int), -(N : Int)) = o.u := by
   funext j
   show upd (upd o.u 1 (o.u 1 + N)) 1 (upd o.u 1 (o.u 1 + N) 1 + -(N : Int)) j = o.u j
   unfold upd
   by_cases hj : j = 1
   ·subst hj; simp; omega
   ·simp [hj]
  have HDb := hid hdb
  by_cases hz : z = 0
  ·subst hz
   have hR : ∀ w', KIn W w' a (fileK k i o y S' L' (upd o.u 1 (o.u 1 + N))) C → Kq w' → WithTo W a k i o y N 0 S' L' C Kp Kq (.returned .nilIface) w' := fun w' h1 h2 => ⟨by rw [show withE o N 0 = 0 from if_neg hlim]; rfl, .inr ⟨hlim, by rw [if_pos rfl]; exact h1, h2⟩⟩
   have HRt := hid hR
   clear hR h hok hm hO hL hcg hLd hKp hp hq hF hneg hwy hlim hfit e3 hback hdb
   go_enter Tryz.func53, Tryz.ntmps53
   go_wp2_with fail
   refine HCg.out.mono ?_
   rintro e w3 (⟨_, rfl, hl3, hf3, t3⟩ | ⟨hne, _⟩)
   ·have hK3 := H.out.ledgerC HM.out.ko hl3 t3
    rw [HE3.out] at hK3
    have HP3 := hid (Hp.out _ _ HKp.out t3)
    have HFn := hid (HF.out w3 hK3 HP3.out)
    unfold FnDoes at HFn
    rw [show TErr 0 = .nilIface from rfl] at HFn
    clear hl3 hf3 t3 hK3
    go_wp2_with (go_at_fn g; refine HFn.out.mono ?_; rintro e w6 ⟨rfl, hK6, hq6⟩)
    all_goals
     have HR := hid (show KIn W w6 a (fileK k i o y S' L' (upd o.u 1 (o.u 1 + N))) C ∧ Kq w6 from ⟨hK6, hq6⟩)
     clear hK6 hq6
     go_wp2_with fail
     go_returns
     exact HRt.out _ HR.out.1 HR.out.2
   ·exact absurd HWy.out hne
  ·have hR : ∀ w', KIn W w' a (fileK k i o y S' L' o.u) C → Kq w' → WithTo W a k i o y N z S' L' C Kp Kq (.returned (.iface 36 (.int .i64 z))) w' := fun w' h1 h2 => ⟨by rw [show withE o N z = z from if_neg hlim, TErr_of hz], .inr ⟨hlim, by rw [if_neg hz]; exact h1, h2⟩⟩
   have HRt := hid hR
   have HZ := hid hz
   clear hR h hok hm hO hL hcg hLd hKp hp hq hF hneg hwy hlim hfit e3 hback hdb hz
   go_enter Tryz.func53, Tryz.ntmps53
   go_wp2_with fail
   refine HCg.out.mono ?_
   rintro e w3 (⟨_, rfl, hl3, hf3, t3⟩ | ⟨hne, _⟩)
   ·have hK3 := H.out.ledgerC HM.out.ko hl3 t3
    rw [HE3.out] at hK3
    have HP3 := hid (Hp.out _ _ HKp.out t3)
    have HFn := hid (HF.out w3 hK3 HP3.out)
    have HF3 := hid hf3
    unfold FnDoes at HFn
    rw [TErr_of HZ.out] at HFn
    clear hl3 hf3 t3 hK3
    have hng := Hneg.out
    go_wp2_with (go_at_fn g; refine HFn.out.mono ?_; rintro e w6 ⟨rfl, hI6, hq6⟩; have hA6 := hI6.at_ (mine_file HM.out); have r6 := hA6.1.c2; simp only at r6; have HA6 := hid hA6.2; have HI6 := hid hI6; have HQ6 := hid hq6; clear hI6 hA6 hq6)
    all_goals
     have hcg6 := charge_one (kind := 1) (n := -(N : Int)) HA6.out HF3.out
     unfold Charged1 at hcg6
     have HCg6 := hid hcg6
     clear hcg6
     with_reducible refine HCg6.out.mono ?_
     rintro e w7 (⟨_, rfl, hl7, hf7, t7⟩ | ⟨hne, _⟩)
     ·have hl8 : LedgerIs w7 o.lb o.u o.m := by rw [← HDb.out]; exact hl7
      have HR := hid (KIn.fileBack HI6.out HM.out hl8 t7)
      have HQ7 := hid (Hq.out _ _ HQ6.out t7)
      clear hl7 hf7 t7 hl8
      go_wp2_with fail
      go_returns
      exact HRt.out _ HR.out HQ7.out
     ·exact absurd (HBack.out HF3.out) hne
   ·exact absurd HWy.out hne
end
end Go.Proofs.YtamleilijmgoeaaGreatDoor
namespace Go.Proofs.YtamleilijmgoeaaGreatDoor
open Go.RowKit
set_option linter.unusedVariables false
section
variable {W w w' w1 : World} {a : KA} {k : KS} {C C' : Nat → Nat × Nat} {pid : Int} {i j : Nat} {o o' : KO} {x : Spc} {y : Nat × PTab} {S S' : PS} {L L' L0 : PTab} {ts : List (Nat × PTab)} {tab : Nat} {t' : St} {u' v' : Nat → Int} {e : PE} {n : Int}
theorem KIn.seven (h : KIn W w a k C) (t : Turn (fun j => C j = (7, 0)) w w') : KIn W w' a k C := by
 obtain ⟨o1, o2, o3, o4, o5, o6⟩ := h.others t (by decide)
 obtain ⟨k0, k1, k2, k3, k4⟩ := o1 (by decide)
 refine ⟨k0, k1, k2, k3, k4, fun i o ho => ?_, o2 (by decide), h.has, o4 (by decide), o5 (by decide), ?_, h.ckb, h.com, h.cob, h.clb, h.cvm, h.cpr, fun j hj => ⟨(h.low j hj).1, Nat.lt_of_lt_of_le (h.low j hj).2 t.size⟩, o6⟩
 ·obtain ⟨x, y, h1, h2, h3, h4⟩ := o3 i o ho
  exact ⟨x, y, h1, h2, h3 (by simp), h4 (by simp)⟩
 ·exact h.desc.rebase (t.mono (fun j _ hj => .inr (by rw [hj]; decide))) (fun j hj => .inl hj) (fun j hj => Nat.lt_of_lt_of_le (h.desc.low j hj) t.size)
def BoxAt (w : World) (b : Nat) (v : Value) : Prop := w.cell? ⟨b, 0, none⟩ = some v ∧ w.frozen? ⟨b, 0, none⟩ = false
theorem BoxAt.turned {b : Nat} {v : Value} {X : Nat → Prop} (h : BoxAt w b v) (t : Turn X w w') (hn : ¬ X b) : BoxAt w' b v :=
 ⟨(t.cell (a := ⟨b, 0, none⟩) (lt_of_cell h.1) hn).trans h.1, (t.frozen (a := ⟨b, 0, none⟩) (lt_of_cell h.1) hn).trans h.2⟩
theorem fileK_fileK (v : Nat → Int) : fileK (fileK k i o y S L u') i { o with u := u' } (y.1, L) S' L' v = fileK k i o y S' L' v := by
 unfold fileK
 simp only [List.set_set]
theorem KIn.fileIn (h : KIn W w a (fileK k i o y k.S y.2 u') C) (hm : Mine k pid i o x y) (hd : DLawB ⟨w, fun j => j < W.heap.size ∨ C j ≠ (0, 0)⟩ w' a.fb a.tb S' ((k.ts.set i (y.1, y.2)).set i (y.1, L'))) : KIn W w' a (fileK k i o y S' L' u') C := by
 have h1 := h.fileStepC (mine_file (S' := k.S) (L' := y.2) (u' := u') hm) hd
 rw [fileK_fileK] at h1
 exact h1
theorem KIn.there (h : KIn W w a (fileK k i o y k.S y.2 u') C) (hm : Mine k pid i o x y) : OwnAt w o.ob x.sp y.1 o.lb o.adj := (h.at_ (mine_file (S' := k.S) (L' := y.2) (u' := u') hm)).1
theorem box_new (w : World) (v : Value) (t : TypeId) : BoxAt (w.alloc (.cells #[v] t)) w.heap.size v := ⟨by simp, by simp⟩
theorem box_in {w w' : World} {v : Value} {t : TypeId} {b : Nat} (hb : b = w.heap.size) (t1 : Turn (fun _ => False) (w.alloc (.cells #[v] t)) w') : BoxAt w' b v := by
 subst hb
 exact (box_new w v t).turned t1 id
end
end Go.Proofs.YtamleilijmgoeaaGreatDoor
namespace Go.Proofs.YtamleilijmgoeaaGreatDoor
open Go.RowKit
set_option linter.unusedVariables false
section
variable {W w w' w1 : World} {a : KA} {k : KS} {C C' : Nat → Nat × Nat} {pid : Int} {i j : Nat} {o o' : KO} {x : Spc} {y : Nat × PTab} {S S' : PS} {L L' L0 : PTab} {ts : List (Nat × PTab)} {tab : Nat} {t' : St} {u' v' : Nat → Int} {e : PE} {n : Int}
end
end Go.Proofs.YtamleilijmgoeaaGreatDoor
namespace Go.Proofs.YtamleilijmgoeaaGreatDoor
open Go.RowKit
set_option linter.unusedVariables false
section
variable {W w w' w1 : World} {a : KA} {k : KS} {C C' : Nat → Nat × Nat} {pid : Int} {i j : Nat} {o o' : KO} {x : Spc} {y : Nat × PTab} {S S' : PS} {L L' L0 : PTab} {ts : List (Nat × PTab)} {tab : Nat} {t' : St} {u' v' : Nat → Int} {e : PE} {n : Int}
theorem BoxAt.same {b : Nat} {v z : Value} (h : BoxAt w b v) : BoxAt (w.setCell ⟨b, 0, none⟩ z) b z := ⟨World.cell?_setCell_same _ _ _ h.1, by rw [World.frozen?_setCell]; exact h.2⟩
theorem BoxAt.other {b c : Nat} {v z : Value} (h : BoxAt w b v) (hn : b ≠ c) : BoxAt (w.setCell ⟨c, 0, none⟩ z) b v := h.turned (turn_own c _ 0 _) hn
theorem seven_two {b c : Nat} {v v' z z' : Value} (h : KIn W w a k C) (hb : BoxAt w b v) (hc : BoxAt w c v') (h1 : C b = (7, 0)) (h2 : C c = (7, 0)) (hn : b ≠ c) :
  KIn W ((w.setCell ⟨b, 0, none⟩ z).setCell ⟨c, 0, none⟩ z') a k C ∧ BoxAt ((w.setCell ⟨b, 0, none⟩ z).setCell ⟨c, 0, none⟩ z') b z ∧ BoxAt ((w.setCell ⟨b, 0, none⟩ z).setCell ⟨c, 0, none⟩ z') c z' :=
 ⟨(h.seven ((turn_own b w 0 z).mono (fun j _ e => by rw [e]; exact h1))).seven ((turn_own c _ 0 z').mono (fun j _ e => by rw [e]; exact h2)), hb.same.other hn, (hc.other (fun e => hn e.symm)).same⟩
def PipeBox (w : World) (a : KA) (o : KO) (bk bo bt bu : Nat) : Prop := BoxAt w bk (.pointer (some ⟨a.kb, 0, none⟩)) ∧ BoxAt w bo (.pointer (some ⟨o.ob, 0, none⟩)) ∧ BoxAt w bt (.int .i64 0) ∧ BoxAt w bu (.int .i64 0)
set_option maxHeartbeats 2000000 in
set_option maxRecDepth 100000 in
theorem kpipe1_is {bk bo bt bu : Nat} (h : KIn W w a (fileK k i o y k.S y.2 u') C) (hok : KOk k) (hm : Mine k pid i o x y) (hb : PipeBox w a o bk bo bt bu) (hC : C bk = (7, 0) ∧ C bo = (7, 0) ∧ C bt = (7, 0) ∧ C bu = (7, 0)) (hN : bt ≠ bk ∧ bt ≠ bo ∧ bu ≠ bk ∧ bu ≠ bo ∧ bt ≠ bu) :
  Calls Tryz.prog 54 #[.pointer (some ⟨bk, 0, none⟩), .pointer (some ⟨bo, 0, none⟩), .pointer (some ⟨bt, 0, none⟩), .pointer (some ⟨bu, 0, none⟩)] w (FnDoes W a k i o y (pipeE k.S y.2) (pipedS k.S y.2) (pipedL k.S y.2) u' C (fun w' => BoxAt w' bt (.int .i64 (pipeK1 k.S y.2)) ∧ BoxAt w' bu (.int .i64 (pipeK2 k.S y.2)))) := by
 have hd := h.drewS
 have hO2 := hd.there hm
 obtain ⟨b1, b2, b3, b4⟩ := hb
 have tw : Turn (fun _ => False) w w.drew := (Turn.refl _ _).drew
 have q1 := (b1.turned tw id).1
 have q2 := hd.c2
 have q3 := (b2.turned tw id).1
 have q4 := hO2.c1
 have HP := hid (law_pipe hd.desc hok.dok (mine_file (S' := k.S) (L' := y.2) (u' := u') hm).tab)
 have HD := hid hd
 have HM := hid hm
 have HC := hid hC
 have HB := hid (show BoxAt w.drew bk _ ∧ BoxAt w.drew bo _ ∧ BoxAt w.drew bt _ ∧ BoxAt w.drew bu _ from ⟨b1.turned tw id, b2.turned tw id, b3.turned tw id, b4.turned tw id⟩)
 have n1 := hN.1
 have n2 := hN.2.1
 have n3 := hN.2.2.1
 have n4 := hN.2.2.2.1
 have n9 := hN.2.2.2.2
 have n5 : bt ≠ a.kb := kmark hC.2.2.1 h.ckb (by decide)
 have n6 : bu ≠ a.kb := kmark hC.2.2.2 h.ckb (by decide)
 have h5 := h.cob i _ (mine_file (S' := k.S) (L' := y.2) (u' := u') hm).ko
 have n7 : bt ≠ o.ob := kmark hC.2.2.1 h5 (by simp)
 have n8 : bu ≠ o.ob := kmark hC.2.2.2 h5 (by simp)
 clear h hok hm hd hO2 hN b1 b2 b3 b4 tw hC h5
 go_enter Tryz.func54, Tryz.ntmps54
 go_wp2_with fail
 go_region_held3 (fun w' => w'.cell? ⟨bk, 0, none⟩ = some (.pointer (some ⟨a.kb, 0, none⟩)) ∧ w'.cell? ⟨a.kb, 2, none⟩ = some (.pointer (some ⟨a.fb, 0, none⟩)) ∧ w'.cell? ⟨bo, 0, none⟩ = some (.pointer (some ⟨o.ob, 0, none⟩)) ∧ w'.cell? ⟨o.ob, 1, none⟩ = some (.pointer (some ⟨y.1, 0, none⟩)))
  (first | exact ⟨q1, q2, q3, q4⟩ | exact ⟨r1, r2, r3, r4⟩ | (refine ⟨?_, ?_, ?_, ?_⟩ <;> (repeat rw [World.cell?_setCell_other _ _ _ _ (by intro e; injection e with e; omega)]) <;> assumption) | go_keep)
  (first | (go_at_call 55; refine HP.out.mono ?_; rintro e w4 ⟨rfl, hd4⟩; have hI4 := HD.out.fileIn HM.out hd4; have hT4 := hd4.turn; have HI4 := hid hI4; have r2 := hI4.c2; have r4 := (hI4.at_ (mine_file HM.out)).1.c1; have r1 := (HB.out.1.turned hT4 (fun hn => hn (.inr (by rw [HC.out.1]; decide)))).1; have r3 := (HB.out.2.1.turned hT4 (fun hn => hn (.inr (by rw [HC.out.2.1]; decide)))).1; have hb4 := (HB.out.2.2.1.turned hT4 (fun hn => hn (.inr (by rw [HC.out.2.2.1]; decide)))); have hb5 := (HB.out.2.2.2.turned hT4 (fun hn => hn (.inr (by rw [HC.out.2.2.2]; decide)))); have r6 := hb4.1; have r7 := hb4.2; have r8 := hb5.1; have r9 := hb5.2; simp only at r4; clear hd4 hI4 hT4 hb4 hb5))
 all_goals go_wp2_with fail
 all_goals go_returns
 all_goals first
  | (obtain ⟨g1, g2, g3⟩ := seven_two (z := .int .i64 (pipeK1 k.S y.2)) (z' := .int .i64 (pipeK2 k.S y.2)) HI4.out ⟨r6, r7⟩ ⟨r8, r9⟩ HC.out.2.2.1 HC.out.2.2.2 n9; exact ⟨rfl, g1, g2, g3⟩)
  | (obtain ⟨g1, g2, g3⟩ := seven_two (z := .int .i64 (pipeK2 k.S y.2)) (z' := .int .i64 (pipeK1 k.S y.2)) HI4.out ⟨r8, r9⟩ ⟨r6, r7⟩ HC.out.2.2.2 HC.out.2.2.1 (Ne.symm n9); exact ⟨rfl, g1, g3, g2⟩)
theorem usedL_pipe (hE : pipeE S L = 0) (hp : ∀ m, m < 8 → 0 ≤ (L m).1) : usedL (pipedL S L) = usedL L + 2 := by
 unfold pipedL
 rw [if_pos hE]
 have hu : ¬ (6 < usedL L ∨ 38 < S.es.length) := fun e => by unfold pipeE at hE; rw [if_pos e] at hE; cases hE
 obtain ⟨j, hl, hj, hjz⟩ := least_room hp (by omega)
 have e1 : pipeL1 S L = tset L j ((freeE S.es : Int) + 1, false) := by unfold pipeL1; rw [show (leastL L).toNat = j by omega]
 have h5 := usedL_set (L := L) (j := j) (x := ((freeE S.es : Int) + 1, false)) hj
 have h6 : usX (L j) = 0 := if_neg (by omega)
 have h7 : usX ((freeE S.es : Int) + 1, false) = 1 := if_pos (by show 0 < (freeE S.es : Int) + 1; omega)
 rw [← e1] at h5
 have hp1 : ∀ m, m < 8 → 0 ≤ (pipeL1 S L m).1 := fun m hm => by
  rw [e1]
  unfold tset
  by_cases h : m = j
  ·rw [if_pos h]; show 0 ≤ (freeE S.es : Int) + 1; omega
  ·rw [if_neg h]; exact hp m hm
 obtain ⟨q, hl2, hq, hqz⟩ := least_room hp1 (by omega)
 unfold pipeL2
 rw [show (leastL (pipeL1 S L)).toNat = q by omega]
 have h8 := usedL_set (L := pipeL1 S L) (j := q) (x := ((freeE (pipeS1 S).es : Int) + 1, false)) hq
 have h9 : usX (pipeL1 S L q) = 0 := if_neg (by omega)
 have h10 : usX ((freeE (pipeS1 S).es : Int) + 1, false) = 1 := if_pos (by show 0 < (freeE (pipeS1 S).es : Int) + 1; omega)
 omega
theorem fit_two (hf : Fit o.u o.m) (hlim : ¬ o.m 1 < o.u 1 + 2) : Fit (upd o.u 1 (o.u 1 + 2)) o.m := fun j hj => by
 have h3 := hf j hj
 have h4 := hf 1 (by omega)
 by_cases e : j = 1
 ·subst e; rw [upd_same]; exact ⟨by omega, by omega, h3.2.2⟩
 ·rw [upd_other _ _ e]; exact h3
theorem pipe_boxes (h : KIn W w a k C) (t1 t2 t3 t4 : TypeId) :
  ∃ C', KIn W ((((w.alloc (.cells #[.pointer (some ⟨a.kb, 0, none⟩)] t1)).alloc (.cells #[.int .i64 0] t2)).alloc (.cells #[.int .i64 0] t3)).alloc (.cells #[.pointer (some ⟨o.ob, 0, none⟩)] t4)) a k C' ∧ PipeBox ((((w.alloc (.cells #[.pointer (some ⟨a.kb, 0, none⟩)] t1)).alloc (.cells #[.int .i64 0] t2)).alloc (.cells #[.int .i64 0] t3)).alloc (.cells #[.pointer (some ⟨o.ob, 0, none⟩)] t4)) a o w.heap.size (w.heap.size + 1 + 1 + 1) (w.heap.size + 1) (w.heap.size + 1 + 1) ∧ C' w.heap.size = (7, 0) ∧ C' (w.heap.size + 1 + 1 + 1) = (7, 0) ∧ C' (w.heap.size + 1) = (7, 0) ∧ C' (w.heap.size + 1 + 1) = (7, 0) := by
 refine ⟨markF C (fun j => w.heap.size ≤ j ∧ j < w.heap.size + 4) (7, 0), h.marked (((((Turn.refl _ _).alloc _).alloc _).alloc _).alloc _) _ (fun j hj => ⟨hj.1, by simp only [World.size_alloc]; omega⟩), ⟨?_, ?_, ?_, ?_⟩, markF_in ⟨by omega, by omega⟩, markF_in ⟨by omega, by omega⟩, markF_in ⟨by omega, by omega⟩, markF_in ⟨by omega, by omega⟩⟩
 ·exact box_in rfl ((((Turn.refl _ _).alloc _).alloc _).alloc _)
 ·exact box_in (by simp only [World.size_alloc]) (Turn.refl _ _)
 ·exact box_in (by simp only [World.size_alloc]) (((Turn.refl _ _).alloc _).alloc _)
 ·exact box_in (by simp only [World.size_alloc]) ((Turn.refl _ _).alloc _)
theorem results_pipe {tmps : Array Value} {w : World} {b c : Nat} {x y v : Value} (ht : tmps[4]?.getD undef = .pointer (some ⟨b, 0, none⟩)) (hu : tmps[5]?.getD undef = .pointer (some ⟨c, 0, none⟩)) (hv : tmps[6]?.getD undef = v) (h0 : w.cell? ⟨b, 0, none⟩ = some x) (h1 : w.cell? ⟨c, 0, none⟩ = some y) :
  (results Tryz.f13 tmps).run Tryz.prog w = .ok (.tuple #[x, y, v]) w := by
 simp [results, Tryz.results13, ht, hu, hv, go_sem, h0, h1]
def pipeTo1 (o : KO) (S : PS) (L : PTab) : Int := if o.m 1 < o.u 1 + 2 then 0 else pipeK1 S L
def pipeTo2 (o : KO) (S : PS) (L : PTab) : Int := if o.m 1 < o.u 1 + 2 then 0 else pipeK2 S L
def KPipeTo (W : World) (a : KA) (k : KS) (i : Nat) (o : KO) (y : Nat × PTab) (e : Ending) (w' : World) : Prop :=
 e = .returned (.tuple #[.int .i64 (pipeTo1 o k.S y.2), .int .i64 (pipeTo2 o k.S y.2), TErr (withE o 2 (pipeE k.S y.2))]) ∧ KTo W a k (withE o 2 (pipeE k.S y.2)) (fun k' => k' = fileK k i o y (pipedS k.S y.2) (pipedL k.S y.2) (upd o.u 1 (o.u 1 + 2))) w'
set_option maxHeartbeats 2000000 in
set_option maxRecDepth 100000 in
theorem kpipe_yes (h : KIn W w a k C) (hok : KOk k) (hm : Mine k pid i o x y) (hLd : Laid W) :
  Calls Tryz.prog 13 #[.pointer (some ⟨a.kb, 0, none⟩), .int .i64 pid] w (fun e w' => KPipeTo W a k i o y e w') := by
 have HW := hid (fun w' (tt : Turn (fun _ => False) w w') => who_yes (h.still tt) hok hm.own hm.ko)
 have H := hid h
 have HOk := hid hok
 have HM := hid hm
 have HLd := hid hLd
 clear h hok hm hLd
 go_enter Tryz.func13, Tryz.ntmps13
 go_wp2_with fail
 refine (HW.out _ ?_).mono ?_
 ·exact ((((Turn.refl _ _).alloc _).alloc _).alloc _)
 rintro e w1 ⟨rfl, hw⟩; subst w1
 go_wp2_with fail
 obtain ⟨C', hI, hb, hC⟩ := pipe_boxes (o := o) H.out 25 3 3 107
 have hlb : ∀ {b : Nat}, C' b = (7, 0) → ¬ b = o.lb := fun h1 => kmark h1 (hI.clb i o HM.out.ko) (by simp)
 have HWi := hid (kwith_is (z := pipeE k.S y.2) (S' := pipedS k.S y.2) (L' := pipedL k.S y.2) hI HOk.out HM.out HLd.out 2 (by omega) (by omega) 54 _ (fun _ _ => rfl)
  (Kp := fun w' => PipeBox w' a o w.heap.size (w.heap.size + 1 + 1 + 1) (w.heap.size + 1) (w.heap.size + 1 + 1)) (Kq := fun w' => BoxAt w' (w.heap.size + 1) (.int .i64 (pipeK1 k.S y.2)) ∧ BoxAt w' (w.heap.size + 1 + 1) (.int .i64 (pipeK2 k.S y.2))) hb
  (fun w1 w2 h1 t => ⟨h1.1.turned t (hlb hC.1), h1.2.1.turned t (hlb hC.2.1), h1.2.2.1.turned t (hlb hC.2.2.1), h1.2.2.2.turned t (hlb hC.2.2.2)⟩)
  (fun w1 w2 h1 t => ⟨h1.1.turned t (hlb hC.2.2.1), h1.2.turned t (hlb hC.2.2.2)⟩)
  (fun w5 h5 hb5 => kpipe1_is h5 HOk.out HM.out hb5 hC ⟨by omega, by omega, by omega, by omega, by omega⟩))
 have HC := hid hC
 clear hI hb hC hlb
 refine HWi.out.mono ?_
 rintro e w5 ⟨rfl, hcs⟩
 obtain ⟨k', hI5, hb5, hc5, hok5⟩ : ∃ k', KIn W w5 a k' C' ∧ BoxAt w5 (w.heap.size + 1) (.int .i64 (pipeTo1 o k.S y.2)) ∧ BoxAt w5 (w.heap.size + 1 + 1) (.int .i64 (pipeTo2 o k.S y.2)) ∧ (∀ w6, KIs W w6 a k' → KTo W a k (withE o 2 (pipeE k.S y.2)) (fun k' => k' = fileK k i o y (pipedS k.S y.2) (pipedL k.S y.2) (upd o.u 1 (o.u 1 + 2))) w6) := by
  rcases hcs with ⟨hlim, h1, h2⟩ | ⟨hlim, h1, h2⟩
  ·refine ⟨_, h1, by rw [show pipeTo1 o k.S y.2 = 0 from if_pos hlim]; exact h2.2.2.1, by rw [show pipeTo2 o k.S y.2 = 0 from if_pos hlim]; exact h2.2.2.2, fun w6 h6 => KTo.no h6 HOk.out ?_⟩
   rw [show withE o 2 (pipeE k.S y.2) = 4 from if_pos hlim]; decide
  ·refine ⟨_, h1, by rw [show pipeTo1 o k.S y.2 = pipeK1 k.S y.2 from if_neg hlim]; exact h2.1, by rw [show pipeTo2 o k.S y.2 = pipeK2 k.S y.2 from if_neg hlim]; exact h2.2, fun w6 h6 => ?_⟩
   rw [show withE o 2 (pipeE k.S y.2) = pipeE k.S y.2 from if_neg hlim]
   by_cases hz : pipeE k.S y.2 = 0
   ·rw [if_pos hz] at h6
    have hf := (HOk.out.fit i o HM.out.ko).1
    have hlv := (HOk.out.live i o x y HM.out.ko HM.out.sp HM.out.tab ⟨pid, HM.out.own⟩).2.1
    obtain ⟨hd6, hj6⟩ := joint_pipe HOk.out.joint HOk.out.dok HM.out.tab
    refine ⟨_, h6, HOk.out.file HM.out hd6 hj6 ⟨upd_other _ _ (by decide), ?_, upd_other _ _ (by decide)⟩ (fit_two hf hlim), fun _ => rfl, fun e => absurd hz e⟩
    show upd o.u 1 (o.u 1 + 2) 1 = _
    rw [upd_same, hlv, usedL_pipe hz (fun m hm => (HOk.out.joint.pos i _ HM.out.tab m hm).1)]
    omega
   ·rw [if_neg hz] at h6
    exact fileK_err HM.out h6 HOk.out (if_neg hz) (if_neg hz) hz
 have HI5 := hid hI5
 have HO5 := hid hok5
 have r1 := hb5.1
 have r2 := hb5.2
 have r3 := hc5.1
 have r4 := hc5.2
 have HG := hid (seven_two (z := .int .i64 (pipeTo1 o k.S y.2)) (z' := .int .i64 (pipeTo2 o k.S y.2)) hI5 hb5 hc5 HC.out.2.2.1 HC.out.2.2.2 (by omega))
 clear hcs hI5 hb5 hc5 hok5 HI5
 go_wp2_with fail
 go_region
 all_goals go_wp2_with fail
 (try simp only [Exit.inBlock, Exit.then])
 have g1 : (((w5.setCell ⟨w.heap.size + 1, 0, none⟩ (.int .i64 (pipeTo1 o k.S y.2))).setCell ⟨w.heap.size + 1 + 1, 0, none⟩ (.int .i64 (pipeTo2 o k.S y.2))).drew).cell? ⟨w.heap.size + 1, 0, none⟩ = some (.int .i64 (pipeTo1 o k.S y.2)) := HG.out.2.1.1
 have g2 : (((w5.setCell ⟨w.heap.size + 1, 0, none⟩ (.int .i64 (pipeTo1 o k.S y.2))).setCell ⟨w.heap.size + 1 + 1, 0, none⟩ (.int .i64 (pipeTo2 o k.S y.2))).drew).cell? ⟨w.heap.size + 1 + 1, 0, none⟩ = some (.int .i64 (pipeTo2 o k.S y.2)) := HG.out.2.2.1
 refine bodyPost_ret (results_pipe rfl rfl rfl g1 g2) rfl ?_
 exact ⟨rfl, HO5.out _ ⟨_, HG.out.1.drewS⟩⟩
end
end Go.Proofs.YtamleilijmgoeaaGreatDoor
namespace Go.Proofs.YtamleilijmgoeaaGreatDoor
open Go.RowKit
set_option linter.unusedVariables false
section
variable {W w w' w1 : World} {a : KA} {k : KS} {C C' : Nat → Nat × Nat} {pid : Int} {i j : Nat} {o o' : KO} {x : Spc} {y : Nat × PTab} {S S' : PS} {L L' L0 : PTab} {ts : List (Nat × PTab)} {tab : Nat} {t' : St} {u' v' : Nat → Int} {e : PE} {n most : Int} {s : ByteArray}
theorem dok_wrs (h : DOk S) (L : PTab) (n : Int) (s : ByteArray) (most : Int) : DOk (wrS S L n s most) := by
 unfold wrS
 cases hx : entL S L n with
 | none => exact h
 | some x =>
  obtain ⟨k, e⟩ := x
  have he := (entL_some hx).2
  have hE := (h.ent k e he).1
  have hall : ∀ S2 : PS, S2 = (if e.prot = 1 then S else if e.kind = 3 then (S.ps[e.pid]?).elim S fun q => pipeS S e.pid (pWrQ q s) else if limB e s most = true then S else if writeE S.T e.node e.at' s = 0 then putS (treeS S (writeT S.T e.node e.at' s)) k { e with at' := e.at' + s.size } else S) → DOk S2 := by
   rintro S2 rfl
   split
   ·exact h
   ·split
    ·cases hq : S.ps[e.pid]? with
     | none => exact h
     | some q =>
      have h1 := pWrQ_ok (s := s) (h.pipes _ q hq).1
      exact h.pipe hq h1.1 h1.2.1 h1.2.2
    ·split
     ·exact h
     ·split
      ·rename_i hz
       have h2 := h.tree (write_same S.T e.node e.at' s)
       have h3 : 0 ≤ e.at' + (s.size : Int) ∧ e.at' + (s.size : Int) ≤ 200 := by
        unfold writeE at hz
        split at hz
        ·rename_i hz2; exact absurd hz hz2
        ·split at hz
         ·cases hz
         ·split at hz
          ·cases hz
          ·omega
       exact h2.put (S := treeS S (writeT S.T e.node e.at' s)) he rfl rfl rfl rfl ⟨hE.1, hE.2.1, h3.1, h3.2⟩
      ·exact h
  exact hall _ rfl
def WriteTo (W : World) (a : KA) (k : KS) (pid : Int) (i : Nat) (o : KO) (y : Nat × PTab) (n : Int) (s : ByteArray) (e : Ending) (w' : World) : Prop :=
 e = .returned (.tuple #[.int .i64 (wrK k.S y.2 n s (o.m 2)), TErr (wrE k.S y.2 n s (o.m 2))]) ∧ ∃ pf', KIs W w' a { fileK k i o y (wrS k.S y.2 n s (o.m 2)) y.2 o.u with pf := pf' } ∧ KOk { fileK k i o y (wrS k.S y.2 n s (o.m 2)) y.2 o.u with pf := pf' } ∧ Quiet k.pl k.pf pf' ∧ (wrE k.S y.2 n s (o.m 2) ≠ 14 → pf' = k.pf) ∧ (wrE k.S y.2 n s (o.m 2) = 14 → (killE k.pl k.pf pid 5 = 0 → KillF k.pl k.pf pid 5 pf') ∧ (killE k.pl k.pf pid 5 ≠ 0 → pf' = k.pf))
set_option maxHeartbeats 2000000 in
set_option maxRecDepth 100000 in
theorem kwrite_yes (h : KIn W w a k C) (hok : KOk k) (hm : Mine k pid i o x y) (hLd : Laid W) (n : Int) (s : ByteArray) (hs : s.size ≤ 1000000) :
  Calls Tryz.prog 16 #[.pointer (some ⟨a.kb, 0, none⟩), .int .i64 pid, .int .i64 n, .string s] w (fun e w' => WriteTo W a k pid i o y n s e w') := by
 have HW := hid (who_yes h hok hm.own hm.ko)
 have hd := h.drewS
 obtain ⟨hO2, hL2⟩ := hd.at_ hm
 have hf2 := (hok.fit i o hm.ko).1 2 (by omega)
 have HMo := hid (most_is hL2 2 (by omega))
 have HP := hid (law_dwrite hd.desc hok.dok hm.tab (hok.there hm) n s hs (o.m 2) (by omega) (by omega))
 have q1 := hO2.c1
 have q2 := hd.c2
 have q3 := hO2.c2
 have HD := hid hd
 have HOk := hid hok
 have HM := hid hm
 have HLd := hid hLd
 obtain ⟨z, hz⟩ : ∃ z, wrE k.S y.2 n s (o.m 2) = z := ⟨_, rfl⟩
 have hokF : KOk (fileK k i o y (wrS k.S y.2 n s (o.m 2)) y.2 o.u) := hok.file hm (dok_wrs hok.dok y.2 n s (o.m 2)) (by rw [set_same hm.tab]; exact joint_wr hok.joint y.2 n s (o.m 2)) ⟨rfl, (hok.live i o x y hm.ko hm.sp hm.tab ⟨pid, hm.own⟩).2.1, rfl⟩ (hok.fit i o hm.ko).1
 have HOkF := hid hokF
 have HZ := hid hz
 unfold WriteTo
 rw [hz] at HP ⊢
 clear h hok hm hd hO2 hL2 hf2 hLd hs hz hokF
 go_enter Tryz.func16, Tryz.ntmps16
 go_wp2_with fail
 refine HW.out.mono ?_
 rintro e w1 ⟨rfl, hw⟩; subst w1
 go_wp2_with fail
 go_region_held3 (fun w' => w'.cell? ⟨o.ob, 1, none⟩ = some (.pointer (some ⟨y.1, 0, none⟩)) ∧ w'.cell? ⟨a.kb, 2, none⟩ = some (.pointer (some ⟨a.fb, 0, none⟩)) ∧ w'.cell? ⟨o.ob, 2, none⟩ = some (.pointer (some ⟨o.lb, 0, none⟩)))
  (first | exact ⟨q1, q2, q3⟩ | exact ⟨r1, r2, r3⟩ | go_keep)
  (first | (go_at_call 62; refine HMo.out.mono ?_; rintro e w4 ⟨rfl, hw4⟩; subst w4) | (go_at_call 61; refine HP.out.mono ?_; rintro e w4 ⟨rfl, hd4⟩; have hK4 := HD.out.fileStep HM.out (by rw [set_same HM.out.tab]; rw [set_same HM.out.tab] at hd4; exact hd4); have HK4 := hid hK4; obtain ⟨C4, hI4⟩ := hK4; have r2 := hI4.c2; have r1 := (hI4.at_ (mine_file HM.out)).1.c1; have r3 := (hI4.at_ (mine_file HM.out)).1.c2; simp only at r1 r3; clear hd4 hI4))
 all_goals
  have HT := hid (tell_tree z _ (HLd.out.turned0 HK4.out.turn))
  go_wp2_with fail
  refine HT.out.mono ?_
  rintro e w5 ⟨rfl, t5⟩
  obtain ⟨C5, hI5⟩ := HK4.out.still t5
  by_cases h14 : z = 14
  ·subst h14
   have c3 := hI5.c3
   have HP2 := hid (pkill_is hI5.pr HOkF.out.kin pid 5)
   unfold Killed at HP2
   have HI5 := hid hI5
   clear hI5 t5
   go_wp2_with fail
   refine HP2.out.mono ?_
   rintro e w6 ⟨rfl, pf', h1, h2, h3, h4, h5, h6⟩
   have HR := hid (HI5.out.prStep h1 h4 (fun j hj => .inl hj))
   have HX := hid (show KOk { fileK k i o y (wrS k.S y.2 n s (o.m 2)) y.2 o.u with pf := pf' } ∧ Quiet k.pl k.pf pf' ∧ (killE k.pl k.pf pid 5 = 0 → KillF k.pl k.pf pid 5 pf') ∧ (killE k.pl k.pf pid 5 ≠ 0 → pf' = k.pf) from ⟨HOkF.out.quiet h3 h2, h3, h5, h6⟩)
   clear h1 h2 h3 h4 h5 h6
   go_wp2_with fail
   go_returns
   exact ⟨rfl, pf', HR.out, HX.out.1, HX.out.2.1, HX.out.2.2⟩
  ·have hbe : (z == 14) = false := by simpa using h14
   have HI5 := hid hI5
   have H14 := hid h14
   clear hI5 t5 h14
   go_wp2_with fail
   go_returns
   exact ⟨rfl, k.pf, ⟨C5, HI5.out⟩, HOkF.out, Quiet.refl _ _, fun _ => rfl, fun e => absurd e H14.out⟩
end
end Go.Proofs.YtamleilijmgoeaaGreatDoor
namespace Go.Proofs.YtamleilijmgoeaaGreatDoor
open Go.RowKit
set_option linter.unusedVariables false
def NumsK (w : World) (a : Option Addr) (l : List Int) : Prop := l = [] ∨ ∃ g off, a = some ⟨g, off, none⟩ ∧ g < w.heap.size ∧ ∀ (j : Nat) s, l[j]? = some s → w.cell? ⟨g, off + j, none⟩ = some (.int .i64 s)
theorem NumsK.turned {w w' : World} {a : Option Addr} {l : List Int} (h : NumsK w a l) (t : Turn (fun _ => False) w w') : NumsK w' a l := by
 rcases h with h | ⟨g, off, rfl, hg, hc⟩
 ·exact .inl h
 ·exact .inr ⟨g, off, rfl, Nat.lt_of_lt_of_le hg t.size, fun j s hs => (t.cell (a := ⟨g, off + j, none⟩) hg id).trans (hc j s hs)⟩
section
variable {W w w' w1 : World} {a : KA} {k k' : KS} {C C' : Nat → Nat × Nat} {pid z : Int} {i j : Nat} {o o' : KO} {x : Spc} {y : Nat × PTab} {q : ByteArray} {ow : List (Int × Nat)} {es es' : List (Int × PE)} {ps ps' : List PP} {Ls : List PTab} {L : PTab}
structure Tk (k : KS) (ow : List (Int × Nat)) (es : List (Int × PE)) (ps : List PP) (Ls : List PTab) : Prop where
 ow : k.ow = ow
 es : k.S.es = es
 ps : k.S.ps = ps
 ts : k.ts.map (·.2) = Ls
def eR (r : Nat) : PE := ⟨2, 1, 0, 0, 0, r⟩
def eW (r : Nat) : PE := ⟨3, 2, 0, 0, 0, r⟩
def tL : PTab := tset (tset noTab 0 (1, false)) 1 (2, false)
def tL1 : PTab := tset tL 0 (0, false)
def tL2 : PTab := tset tL 1 (0, false)
def tL3 : PTab := tset tL1 1 (0, false)
def owT : List (Int × Nat) := [(1, 0), (2, 1)]
theorem Tk.st (h : Tk k ow es ps Ls) : k.S = ⟨k.S.T, es, ps⟩ := by
 have h1 := h.es
 have h2 := h.ps
 subst h1; subst h2
 rfl
theorem Tk.mine (h : Tk k ow es ps Ls) (hk : KIn W w a k C) (hok : KOk k) (hi : mget ow pid = some i) (hL : Ls[i]? = some L) : ∃ o x y, Mine k pid i o x y ∧ y.2 = L := by
 obtain ⟨o, x, y, hm⟩ := hk.mine hok (by rw [h.ow]; exact hi)
 refine ⟨o, x, y, hm, ?_⟩
 have h1 : (k.ts.map (·.2))[i]? = some y.2 := by rw [List.getElem?_map, hm.tab]; rfl
 rw [h.ts, hL] at h1
 exact (Option.some.inj h1).symm
theorem Tk.file (h : Tk k ow es ps Ls) {S' : PS} {L' : PTab} {u' : Nat → Int} (h1 : S'.es = es') (h2 : S'.ps = ps') : Tk (fileK k i o y S' L' u') ow es' ps' (Ls.set i L') := by
 refine ⟨h.ow, h1, h2, ?_⟩
 show (k.ts.set i (y.1, L')).map (·.2) = _
 rw [List.map_set, h.ts]
abbrev KT (W : World) (a : KA) (ow : List (Int × Nat)) (es : List (Int × PE)) (ps : List PP) (Ls : List PTab) (w : World) : Prop := ∃ k C, KIn W w a k C ∧ KOk k ∧ Tk k ow es ps Ls
theorem KTo.tk {R : KS → Prop} (h : KTo W a k 0 R w') (hR : ∀ k', R k' → Tk k' ow es ps Ls) : KT W a ow es ps Ls w' := by
 obtain ⟨k', ⟨C', h1⟩, h2, h3, _⟩ := h
 exact ⟨k', C', h1, h2, hR k' (h3 rfl)⟩
theorem talk_pipe {t : St} {sp pm tab ob lb b : Nat} (h : KIn W w a (newKS t sp pm tab ob lb b) C) (hok : KOk (newKS t sp pm tab ob lb b)) (hLd : Laid W) :
  Calls Tryz.prog 13 #[.pointer (some ⟨a.kb, 0, none⟩), .int .i64 1] w fun e w' => e = .returned (.tuple #[.int .i64 0, .int .i64 1, .nilIface]) ∧ ∃ k C, KIn W w' a k C ∧ KOk k ∧ Tk k [(1, 0)] [(0, eR 1), (1, eW 1)] [⟨ByteArray.empty, 1, 1⟩] [tL] ∧ k.pl = [(1, b)] ∧ k.os.length = 1 := by
 have hm : Mine (newKS t sp pm tab ob lb b) 1 0 ⟨ob, lb, fun _ => 0, mostN 3, 0⟩ ⟨sp, pm, noP⟩ (tab, noTab) := ⟨rfl, rfl, rfl, rfl⟩
 refine (kpipe_yes h hok hm hLd).mono ?_
 rintro e w' ⟨rfl, hk⟩
 refine ⟨rfl, ?_⟩
 obtain ⟨k', ⟨C', h1⟩, h2, h3, _⟩ := hk
 have h4 := h3 rfl
 subst h4
 exact ⟨_, C', h1, h2, ⟨rfl, rfl, rfl, rfl⟩, rfl, rfl⟩
theorem talk_fork {b : Nat} (h : KIn W w a k C) (hok : KOk k) (ht : Tk k [(1, 0)] [(0, eR 1), (1, eW 1)] [⟨ByteArray.empty, 1, 1⟩] [tL]) (hpl : k.pl = [(1, b)]) (hol : k.os.length = 1) :
  Calls Tryz.prog 14 #[.pointer (some ⟨a.kb, 0, none⟩), .int .i64 1] w fun e w' => e = .returned (.tuple #[.int .i64 2, .nilIface]) ∧ KT W a owT [(0, eR 2), (1, eW 2)] [⟨ByteArray.empty, 1, 1⟩] [tL, tL] w' := by
 obtain ⟨o, x, y, hm, hy⟩ := ht.mine h hok (pid := 1) (i := 0) (L := tL) rfl rfl
 refine (kfork_yes h hok hm (by omega)).mono ?_
 rintro e w' (⟨h1, _⟩ | ⟨_, b2, f, _, hc, _, rfl, ⟨C', h1⟩, h2⟩)
 ·rw [hpl] at h1; simp at h1
 ·have hc2 : f.c = 2 := by
   obtain ⟨c1, c2, c3, c4⟩ := hc
   rw [hpl] at c3 c4
   have hg : ∀ p, mget [((1 : Int), b)] p = if p = 1 then some b else none := fun p => by
    by_cases e : p = 1
    ·subst e; rfl
    ·rw [if_neg e]; exact mget_none (fun t ht => by rw [List.mem_singleton.1 ht]; exact fun e2 => e e2.symm)
   have h5 : f.c ≠ 1 := fun e => by rw [e, hg, if_pos rfl] at c3; cases c3
   by_cases h6 : 2 < f.c
   ·have := c4 2 (by decide) h6
    rw [hg, if_neg (by decide)] at this
    cases this
   ·omega
  refine ⟨by rw [hc2], _, C', h1, h2, ?_, ?_, ?_, ?_⟩
  ·show k.ow ++ [(f.c, k.os.length)] = owT
   rw [ht.ow, hc2, hol]; rfl
  ·show (forkS k.S y.2).es = _
   rw [ht.st, hy]; rfl
  ·show (forkS k.S y.2).ps = _
   rw [ht.st, hy]; rfl
  ·show (k.ts ++ [(f.ub, y.2)]).map (·.2) = _
   rw [List.map_append, ht.ts, hy]; rfl
theorem talk_close1 (h : KIn W w a k C) (hok : KOk k) (ht : Tk k owT [(0, eR 2), (1, eW 2)] [⟨ByteArray.empty, 1, 1⟩] [tL, tL]) :
  Calls Tryz.prog 15 #[.pointer (some ⟨a.kb, 0, none⟩), .int .i64 1, .int .i64 0] w fun e w' => e = .returned .nilIface ∧ KT W a owT [(0, eR 1), (1, eW 2)] [⟨ByteArray.empty, 1, 1⟩] [tL1, tL] w' := by
 obtain ⟨o, x, y, hm, hy⟩ := ht.mine h hok (pid := 1) (i := 0) (L := tL) rfl rfl
 refine (kclose_yes h hok hm 0).mono ?_
 rintro e w' ⟨rfl, hk⟩
 rw [ht.st, hy] at hk ⊢
 refine ⟨rfl, KTo.tk hk ?_⟩
 rintro k' rfl
 exact ht.file rfl rfl
theorem talk_close2 (h : KIn W w a k C) (hok : KOk k) (ht : Tk k owT [(0, eR 1), (1, eW 2)] [⟨ByteArray.empty, 1, 1⟩] [tL1, tL]) :
  Calls Tryz.prog 15 #[.pointer (some ⟨a.kb, 0, none⟩), .int .i64 2, .int .i64 1] w fun e w' => e = .returned .nilIface ∧ KT W a owT [(0, eR 1), (1, eW 1)] [⟨ByteArray.empty, 1, 1⟩] [tL1, tL2] w' := by
 obtain ⟨o, x, y, hm, hy⟩ := ht.mine h hok (pid := 2) (i := 1) (L := tL) rfl rfl
 refine (kclose_yes h hok hm 1).mono ?_
 rintro e w' ⟨rfl, hk⟩
 rw [ht.st, hy] at hk ⊢
 refine ⟨rfl, KTo.tk hk ?_⟩
 rintro k' rfl
 exact ht.file rfl rfl
abbrev Talk (W : World) (a : KA) (q : ByteArray) (w : World) : Prop := KT W a owT [(0, eR 1), (1, eW 1)] [⟨q, 1, 1⟩] [tL1, tL2] w
theorem talk_write (h : Talk W a q w) (hLd : Laid W) (hq : q.size ≤ 15) (s : ByteArray) (hs : s.size ≠ 0) (hs6 : s.size ≤ 60) :
  Calls Tryz.prog 16 #[.pointer (some ⟨a.kb, 0, none⟩), .int .i64 1, .int .i64 1, .string s] w fun e w' => e = .returned (.tuple #[.int .i64 ((min s.size (16 - q.size) : Nat) : Int), .nilIface]) ∧ Talk W a (q ++ s.extract 0 (min s.size (16 - q.size))) w' := by
 obtain ⟨k, C, h, hok, ht⟩ := h
 obtain ⟨o, x, y, hm, hy⟩ := ht.mine h hok (pid := 1) (i := 0) (L := tL1) rfl rfl
 refine (kwrite_yes h hok hm hLd 1 s (by omega)).mono ?_
 rintro e w' ⟨rfl, pf', ⟨C', h1⟩, h2, _, h3, _⟩
 have e0 : pWrE ⟨q, 1, 1⟩ s = 0 := by unfold pWrE; rw [if_neg (by show ¬ (1 : Int) = 0; decide), if_neg hs, if_neg (by show ¬ 16 ≤ q.size; omega)]
 have e1 : pWr ⟨q, 1, 1⟩ s = min s.size (16 - q.size) := if_pos e0
 have a0 : wrE k.S y.2 1 s (o.m 2) = pWrE ⟨q, 1, 1⟩ s := by rw [ht.st, hy]; rfl
 have a1 : wrK k.S y.2 1 s (o.m 2) = (pWr ⟨q, 1, 1⟩ s : Nat) := by rw [ht.st, hy]; rfl
 have a2 : wrS k.S y.2 1 s (o.m 2) = ⟨k.S.T, [(0, eR 1), (1, eW 1)], [pWrQ ⟨q, 1, 1⟩ s]⟩ := by rw [ht.st, hy]; rfl
 rw [a0, e0, a1, e1]
 have h4 := h3 (by rw [a0, e0]; decide)
 subst h4
 refine ⟨rfl, _, C', h1, h2, ?_⟩
 have hf : Tk (fileK k 0 o y (wrS k.S y.2 1 s (o.m 2)) y.2 o.u) owT [(0, eR 1), (1, eW 1)] [⟨q ++ s.extract 0 (min s.size (16 - q.size)), 1, 1⟩] ([tL1, tL2].set 0 y.2) := by
  refine ht.file (by rw [a2]) ?_
  rw [a2]
  unfold pWrQ
  rw [e1]
 exact ⟨hf.ow, hf.es, hf.ps, hf.ts.trans (by rw [hy]; rfl)⟩
theorem talk_read (h : Talk W a q w) (hq : q.size ≠ 0) (many : Int) (hm1 : 1 ≤ many) :
  Calls Tryz.prog 19 #[.pointer (some ⟨a.kb, 0, none⟩), .int .i64 2, .int .i64 0, .int .i64 many] w fun e w' => e = .returned (.tuple #[.string (q.extract 0 (min many.toNat q.size)), .nilIface]) ∧ Talk W a (q.extract (min many.toNat q.size) q.size) w' := by
 obtain ⟨k, C, h, hok, ht⟩ := h
 obtain ⟨o, x, y, hm, hy⟩ := ht.mine h hok (pid := 2) (i := 1) (L := tL2) rfl rfl
 refine (kread_yes h hok hm 0 many).mono ?_
 rintro e w' ⟨rfl, hk⟩
 have e0 : pRdE ⟨q, 1, 1⟩ many = 0 := by unfold pRdE; rw [if_neg (by omega), if_neg (fun h => hq h.2.1)]
 have e1 : pRd ⟨q, 1, 1⟩ many = q.extract 0 (min many.toNat q.size) := if_pos e0
 have a0 : rdE k.S y.2 0 many = pRdE ⟨q, 1, 1⟩ many := by rw [ht.st, hy]; rfl
 have a1 : rdB k.S y.2 0 many = pRd ⟨q, 1, 1⟩ many := by rw [ht.st, hy]; rfl
 have a2 : rdS k.S y.2 0 many = ⟨k.S.T, [(0, eR 1), (1, eW 1)], [pRdQ ⟨q, 1, 1⟩ many]⟩ := by rw [ht.st, hy]; rfl
 rw [a0, e0] at hk
 rw [a0, e0, a1, e1]
 refine ⟨rfl, KTo.tk hk ?_⟩
 rintro k' rfl
 have hf : Tk (fileK k 1 o y (rdS k.S y.2 0 many) y.2 o.u) owT [(0, eR 1), (1, eW 1)] [⟨q.extract (min many.toNat q.size) q.size, 1, 1⟩] ([tL1, tL2].set 1 y.2) := by
  refine ht.file (by rw [a2]) ?_
  rw [a2]
  unfold pRdQ
  rw [if_pos e0]
 exact ⟨hf.ow, hf.es, hf.ps, hf.ts.trans (by rw [hy]; rfl)⟩
theorem talk_none (h : Talk W a ByteArray.empty w) :
  Calls Tryz.prog 19 #[.pointer (some ⟨a.kb, 0, none⟩), .int .i64 2, .int .i64 0, .int .i64 1] w fun e w' => e = .returned (.tuple #[.string ByteArray.empty, .iface 36 (.int .i64 8)]) ∧ Talk W a ByteArray.empty w' := by
 obtain ⟨k, C, h, hok, ht⟩ := h
 obtain ⟨o, x, y, hm, hy⟩ := ht.mine h hok (pid := 2) (i := 1) (L := tL2) rfl rfl
 refine (kread_yes h hok hm 0 1).mono ?_
 rintro e w' ⟨rfl, hk⟩
 have e0 : pRdE ⟨ByteArray.empty, 1, 1⟩ 1 = 8 := rfl
 have a0 : rdE k.S y.2 0 1 = 8 := by rw [ht.st, hy]; rfl
 have a1 : rdB k.S y.2 0 1 = ByteArray.empty := by rw [ht.st, hy]; rfl
 rw [a0] at hk
 rw [a0, a1]
 refine ⟨rfl, ?_⟩
 obtain ⟨k', ⟨C', h1⟩, h2, _, h3⟩ := hk
 obtain ⟨t', _, rfl⟩ := h3 (by decide)
 exact ⟨_, C', h1, h2, ht.ow, ht.es, ht.ps, ht.ts⟩
abbrev Said (W : World) (a : KA) (q : ByteArray) (w : World) : Prop := KT W a owT [(0, eR 1)] [⟨q, 1, 0⟩] [tL3, tL2] w
theorem talk_close3 (h : Talk W a q w) :
  Calls Tryz.prog 15 #[.pointer (some ⟨a.kb, 0, none⟩), .int .i64 1, .int .i64 1] w fun e w' => e = .returned .nilIface ∧ Said W a q w' := by
 obtain ⟨k, C, h, hok, ht⟩ := h
 obtain ⟨o, x, y, hm, hy⟩ := ht.mine h hok (pid := 1) (i := 0) (L := tL1) rfl rfl
 refine (kclose_yes h hok hm 1).mono ?_
 rintro e w' ⟨rfl, hk⟩
 rw [ht.st, hy] at hk ⊢
 refine ⟨rfl, KTo.tk hk ?_⟩
 rintro k' rfl
 exact ht.file rfl rfl
theorem talk_last (h : Said W a ByteArray.empty w) :
  Calls Tryz.prog 19 #[.pointer (some ⟨a.kb, 0, none⟩), .int .i64 2, .int .i64 0, .int .i64 1] w fun e w' => e = .returned (.tuple #[.string ByteArray.empty, .nilIface]) ∧ ∃ q, Said W a q w' := by
 obtain ⟨k, C, h, hok, ht⟩ := h
 obtain ⟨o, x, y, hm, hy⟩ := ht.mine h hok (pid := 2) (i := 1) (L := tL2) rfl rfl
 refine (kread_yes h hok hm 0 1).mono ?_
 rintro e w' ⟨rfl, hk⟩
 have a0 : rdE k.S y.2 0 1 = 0 := by rw [ht.st, hy]; rfl
 have a1 : rdB k.S y.2 0 1 = ByteArray.empty.extract 0 0 := by rw [ht.st, hy]; rfl
 have a2 : rdS k.S y.2 0 1 = ⟨k.S.T, [(0, eR 1)], [⟨ByteArray.empty.extract 0 0, 1, 0⟩]⟩ := by rw [ht.st, hy]; rfl
 rw [a0] at hk
 rw [a0, a1, ext_none]
 refine ⟨rfl, ByteArray.empty.extract 0 0, KTo.tk hk ?_⟩
 rintro k' rfl
 have hf : Tk (fileK k 1 o y (rdS k.S y.2 0 1) y.2 o.u) owT [(0, eR 1)] [⟨ByteArray.empty.extract 0 0, 1, 0⟩] ([tL3, tL2].set 1 y.2) := ht.file (by rw [a2]) (by rw [a2])
 exact ⟨hf.ow, hf.es, hf.ps, hf.ts.trans (by rw [hy]; rfl)⟩
theorem talk_exit (h : Said W a q w) :
  Calls Tryz.prog 20 #[.pointer (some ⟨a.kb, 0, none⟩), .int .i64 2, .int .i64 0] w fun e w' => e = .returned .nilIface ∧ ∃ k C, KIn W w' a k C ∧ k.S.es.length = 0 := by
 obtain ⟨k, C, h, hok, ht⟩ := h
 obtain ⟨o, x, y, hm, hy⟩ := ht.mine h hok (pid := 2) (i := 1) (L := tL2) rfl rfl
 refine (kexit_yes h hok hm 0).mono ?_
 rintro e w' ⟨rfl, hk⟩
 refine ⟨rfl, ?_⟩
 obtain ⟨k', ⟨C', h1⟩, h2, h3, _⟩ := hk
 obtain ⟨t', b, _, _, rfl⟩ := h3 rfl
 refine ⟨_, C', h1, ?_⟩
 show (clearS k.S y.2 true).es.length = 0
 rw [ht.st, hy]; rfl
end
end Go.Proofs.YtamleilijmgoeaaGreatDoor
namespace Go.Proofs.YtamleilijmgoeaaGreatDoor
open Go.RowKit
set_option linter.unusedVariables false
section
variable {W w w' w1 : World} {a : KA} {k k' : KS} {C C' : Nat → Nat × Nat}
set_option maxRecDepth 100000 in
theorem kernelTalks_many (al : Option Addr) (n cap : Nat) (bl : Option Addr) (n2 cap2 : Nat) (W : World) (h : 20 < n) :
  Calls Tryz.prog 3 #[.slice al n cap, .slice bl n2 cap2] W fun e w' => e = .returned (.bool true) ∧ Turn (fun _ => False) W w' := by
 have h' : (20 : Int) < n := by omega
 clear h
 go_enter Tryz.func3, Tryz.ntmps3
 go_wp2_with fail
 go_returns
 exact ⟨rfl, Turn.refl _ _⟩
set_option maxRecDepth 100000 in
theorem kernelTalks_many2 (al : Option Addr) (n cap : Nat) (bl : Option Addr) (n2 cap2 : Nat) (W : World) (h : n ≤ 20) (h2 : 20 < n2) :
  Calls Tryz.prog 3 #[.slice al n cap, .slice bl n2 cap2] W fun e w' => e = .returned (.bool true) ∧ Turn (fun _ => False) W w' := by
 have h' : ¬ (20 : Int) < n := by omega
 have h2' : (20 : Int) < n2 := by omega
 clear h h2
 go_enter Tryz.func3, Tryz.ntmps3
 go_wp2_with fail
 go_returns
 exact ⟨rfl, Turn.refl _ _⟩
set_option maxHeartbeats 16000000 in
set_option maxRecDepth 100000 in
theorem kernelTalks_few (al : Option Addr) (l : List ByteArray) (cap : Nat) (bl : Option Addr) (xs : List Int) (cap2 : Nat) (W : World) (hL : Laid W) (hl : l.length ≤ 20) (hc : StrsIn W al l) (hl2 : xs.length ≤ 20) (hc2 : NumsK W bl xs) :
  Calls Tryz.prog 3 #[.slice al l.length cap, .slice bl xs.length cap2] W fun e w' => e = .returned (.bool true) ∧ Turn (fun _ => False) W w' := by
 have HLd := hid hL
 have HCi := hid hc
 have HCi2 := hid hc2
 have HPk := hid (fun (z n : Int) (w' : World) (h1 : 1 ≤ n) (h2 : n ≤ 1000000) => pick_any z n w' h1 h2)
 obtain ⟨n, hn⟩ : ∃ n, l.length = n := ⟨_, rfl⟩
 obtain ⟨n2, hn2⟩ : ∃ n, xs.length = n := ⟨_, rfl⟩
 have HN := hid hn
 have HN2 := hid hn2
 rw [hn] at hl ⊢
 rw [hn2] at hl2 ⊢
 have hl' : ¬ (20 : Int) < n := by omega
 have hl2' : ¬ (20 : Int) < n2 := by omega
 have HKp := hid (kept_is W hL)
 clear hn hL hc hn2 hc2
 go_enter Tryz.func3, Tryz.ntmps3
 go_wp2_with fail
 refine HKp.out.mono ?_
 rintro e w2 ⟨rfl, t2⟩
 have HT2 := hid t2
 clear t2 HKp
 have hnw := knew_is 4 w2 (by decide) (by decide)
 unfold NewTo at hnw
 have HNw := hid hnw
 clear hnw
 go_wp2_with fail
 refine HNw.out.mono ?_
 rintro e w5 ⟨a, t, sp, pm, tab, ob, lb, b, rfl, ha, hR, hm0, ⟨C5, hk5⟩, hok5⟩
 have HPi := hid (talk_pipe hk5 hok5 (HLd.out.turned0 HT2.out))
 clear ha hR hm0 hk5 hok5 HNw
 go_wp2_with fail
 refine HPi.out.mono ?_
 rintro e w6 ⟨rfl, k6, C6, hk6, hok6, ht6, hpl6, hol6⟩
 have HFo := hid (talk_fork hk6 hok6 ht6 hpl6 hol6)
 clear hk6 hok6 ht6 hpl6 hol6 HPi
 go_wp2_with fail
 refine HFo.out.mono ?_
 rintro e w7 ⟨rfl, k7, C7, hk7, hok7, ht7⟩
 have HC1 := hid (talk_close1 hk7 hok7 ht7)
 clear hk7 hok7 ht7 HFo
 go_wp2_with fail
 refine HC1.out.mono ?_
 rintro e w8 ⟨rfl, k8, C8, hk8, hok8, ht8⟩
 have HC2 := hid (talk_close2 hk8 hok8 ht8)
 clear hk8 hok8 ht8 HC1
 go_wp2_with fail
 refine HC2.out.mono ?_
 rintro e w9 ⟨rfl, hk9⟩
 have HI := hid (show Talk w2 a ByteArray.empty w9 from hk9)
 clear hk9 HC2
 go_wp2_with fail
 go_loopg [12, 13, 14] (n) (fun gl sd hd ix wr => ∃ (j : Nat) (H q : ByteArray), j + gl = n ∧ ix = .int .i64 j ∧ sd = .string (H ++ q) ∧ hd = .string H ∧ H.size + q.size ≤ 60 * j ∧ q.size ≤ 15 ∧ Hid (Talk w2 a q wr))
 case atStart => exact ⟨0, ByteArray.empty, ByteArray.empty, by omega, rfl, rfl, rfl, by decide, by decide, HI⟩
 case round =>
  clear HI
  obtain ⟨j, H, q, hj, rfl, rfl, rfl, hsz, hq, hS⟩ := hrel
  by_cases hlt : j < n
  ·have hlt' : (j : Int) < n := by omega
   have q1 : (0 : Int) ≤ (j : Int) := by omega
   have hTW : Turn (fun _ => False) W wr := HT2.out.trans (by obtain ⟨_, _, h, _⟩ := hS.out; exact h.turn)
   obtain ⟨s, hs⟩ : ∃ s, l[j]? = some s := ⟨_, List.getElem?_eq_getElem (by rw [HN.out]; exact hlt)⟩
   obtain ⟨g, off, rfl, _, hcs⟩ := (HCi.out.turned hTW (fun _ _ => id)).resolve_left (by rintro e; rw [e] at hs; cases hs)
   have cs := hcs j s hs
   clear hcs hs
   by_cases h60 : 60 < s.size
   ·have h60' : (60 : Int) < s.size := by omega
    have HT := hid hTW
    clear hTW
    go_wp2_with fail
    go_returns
    exact ⟨rfl, HT.out⟩
   ·have h60' : ¬ (60 : Int) < s.size := by omega
    clear hTW
    go_wp2_with fail
    go_loopg [12, 13, 15, 16] (s.size) (fun gl sd hd lf tr wr => ∃ (t : Nat) (H q lt : ByteArray), tr = .int .i64 t ∧ sd = .string (H ++ q) ∧ hd = .string H ∧ lf = .string lt ∧ lt.size ≤ gl ∧ t + lt.size ≤ 60 ∧ H.size + q.size + lt.size ≤ 60 * (j + 1) ∧ q.size ≤ 15 ∧ Hid (Talk w2 a q wr))
    case atStart => exact ⟨0, H, q, s, rfl, rfl, rfl, rfl, by omega, by omega, by omega, hq, hS⟩
    case round =>
     clear hS hq hsz
     obtain ⟨t, H, q, lt, rfl, rfl, rfl, rfl, hgl, ht, hsz, hq, hS⟩ := hrel
     have ht1 : (t : Int) < 100 := by omega
     have ht0 : (0 : Int) ≤ (t : Int) := by omega
     by_cases hz : lt.size = 0
     ·have hb : lt.toList.isEmpty = true := by rw [toList_empty]; exact decide_eq_true hz
      go_wp2_with fail
      go_roundg (n - (j + 1))
      case measure => omega
      case rel => exact ⟨j + 1, H, q, by omega, by go_num, rfl, rfl, by omega, hq, hS⟩
     ·have hb : lt.toList.isEmpty = false := by rw [toList_empty]; exact decide_eq_false hz
      have hw := talk_write hS.out (HLd.out.turned0 HT2.out) hq lt hz (by omega)
      obtain ⟨m, hm⟩ : ∃ m, min lt.size (16 - q.size) = m := ⟨_, rfl⟩
      have hm1 : 1 ≤ m ∧ m ≤ lt.size ∧ q.size + m ≤ 16 := by omega
      rw [hm] at hw
      have HW := hid hw
      clear hm hw hS hz
      go_wp2_with fail
      refine HW.out.mono ?_
      rintro e w11 ⟨rfl, hS⟩
      have HS := hid hS
      clear hS HW
      have hm2 : (0 : Int) ≤ (m : Int) := by omega
      have hm3 : (m : Int) ≤ lt.size := by omega
      go_wp2_with fail
      go_quiet (fail)
      have hTW : Turn (fun _ => False) W (w11.drewN nq) := (HT2.out.trans (by obtain ⟨_, _, h, _⟩ := HS.out; exact h.turn)).drewN nq
      obtain ⟨w12, hw12⟩ : ∃ w12, w11.drewN nq = w12 := ⟨_, rfl⟩
      have hS12 : Talk w2 a (q ++ lt.extract 0 m) w12 := by
       obtain ⟨k1, C1, h1, h2, h3⟩ := HS.out
       exact ⟨k1, C1, hw12 ▸ h1.still ((Turn.refl _ _).drewN nq), h2, h3⟩
      rw [hw12] at hTW ⊢
      have HS12 := hid hS12
      have HT12 := hid hTW
      clear hS12 hTW hw12 HS
      go_upto_if 124 with fail
      go_cut [19] (fun v wx => ∃ M : Int, v = .int .i64 M ∧ -1 ≤ M ∧ M ≤ 20 ∧ wx = w12)
      case first =>
       as_aux_lemma =>
        by_cases hn0 : n2 = 0
        ·subst hn0
         go_wp2_with fail
         go_meet
         exact ⟨5, rfl, by decide, by decide, rfl⟩
        ·have hn0' : (0 : Int) < n2 := by omega
         obtain ⟨d, hd⟩ : ∃ d : Nat, (t : Int).tmod n2 = d := ⟨((t : Int).tmod n2).toNat, by rw [Int.toNat_of_nonneg (Int.tmod_nonneg _ (by omega))]⟩
         have hd1 : d < n2 := by have := Int.tmod_lt_of_pos (t : Int) hn0'; omega
         have hd2 : (d : Int) < n2 := by omega
         have hd0 : (0 : Int) ≤ (d : Int) := by omega
         obtain ⟨v, hv⟩ : ∃ v, xs[d]? = some v := ⟨_, List.getElem?_eq_getElem (by rw [HN2.out]; exact hd1)⟩
         obtain ⟨g2, off2, rfl, _, hcs⟩ := (HCi2.out.turned HT12.out).resolve_left (by rintro e; rw [e] at hv; cases hv)
         have cs2 := hcs d v hv
         clear hcs hv cs
         go_wp2_with fail
         refine (HPk.out v 20 _ (by decide) (by decide)).mono ?_
         rintro e w13 ⟨rfl, hw⟩; subst w13
         have p0 := pk_nonneg v 20 (by decide)
         have p1 := pk_lt v 20 (by decide)
         generalize pk v 20 = M at p0 p1 ⊢
         go_wp2_with fail
         go_meet
         exact ⟨M, rfl, by omega, by omega, rfl⟩
      case rest =>
       obtain ⟨M, rfl, hM1, hM2, rfl⟩ := hcut
       have hqs : (q ++ lt.extract 0 m).size = q.size + m := by rw [ByteArray.size_append, ByteArray.size_extract]; omega
       have hrd := talk_read HS12.out (by rw [hqs]; omega) (max M 1) (by omega)
       obtain ⟨r, hr⟩ : ∃ r, min (max M 1).toNat (q ++ lt.extract 0 m).size = r := ⟨_, rfl⟩
       have hr1 : 1 ≤ r ∧ r ≤ q.size + m := by rw [← hr, hqs]; omega
       rw [hr] at hrd
       obtain ⟨s1, hs1⟩ : ∃ s1, (q ++ lt.extract 0 m).extract 0 r = s1 := ⟨_, rfl⟩
       obtain ⟨q1, hq1⟩ : ∃ q1, (q ++ lt.extract 0 m).extract r (q ++ lt.extract 0 m).size = q1 := ⟨_, rfl⟩
       have hs1s : s1.size = r := by rw [← hs1, ByteArray.size_extract, hqs]; omega
       have hq1s : q1.size = q.size + m - r := by rw [← hq1, ByteArray.size_extract, hqs]; omega
       have hap : s1 ++ q1 = q ++ lt.extract 0 m := by
        rw [← hs1, ← hq1, ← ByteArray.extract_eq_extract_append_extract r (Nat.zero_le _) (by omega), ByteArray.extract_zero_size]
       rw [hs1, hq1] at hrd
       have HRd := hid hrd
       have HAp := hid hap
       have hls : (lt.extract m lt.size).size = lt.size - m := by rw [ByteArray.size_extract]; omega
       have hb1 : s1.toList.isEmpty = false := by rw [toList_empty]; exact decide_eq_false (by omega)
       clear hrd hs1 hq1 hap hr hqs HS12 HT12
       go_wp2_with fail
       refine HRd.out.mono ?_
       rintro e w13 ⟨rfl, hS13⟩
       have HS13 := hid hS13
       clear hS13 HRd
       go_wp2_with fail
       go_roundg (gk - 1)
       case measure => omega
       case rel => exact ⟨t + 1, H ++ s1, q1, lt.extract m lt.size, by go_num, congrArg Value.string (by rw [ByteArray.append_assoc, ← HAp.out, ← ByteArray.append_assoc]), rfl, rfl, by rw [hls]; omega, by rw [hls]; omega, by rw [ByteArray.size_append, hls]; omega, by omega, HS13⟩
  ·have hje : j = n := by omega
   subst hje
   clear hlt
   go_wp2_with fail
   go_loopg [13] (q.size) (fun gl hd wr => ∃ (H1 q1 : ByteArray), hd = .string H1 ∧ H1 ++ q1 = H ++ q ∧ q1.size ≤ gl ∧ q1.size ≤ 15 ∧ H1.size + q1.size = H.size + q.size ∧ Hid (Talk w2 a q1 wr))
   case atStart => exact ⟨H, q, rfl, rfl, Nat.le_refl _, hq, rfl, hS⟩
   case round =>
    clear hS
    obtain ⟨H1, q1, rfl, hap, hgl, hq1, hsz1, hS⟩ := hrel
    have HAp := hid hap
    by_cases hz : q1.size = 0
    ·have hq0 := empty_of hz
     subst hq0
     have hH : H1 = H ++ q := by rw [← hap, ByteArray.append_empty]
     subst hH
     have HNo := hid (talk_none hS.out)
     clear hS hap hgl hq1 hsz1 hz
     go_wp2_with fail
     refine HNo.out.mono ?_
     rintro e w13 ⟨rfl, hS13⟩
     have hT13 : Turn (fun _ => False) W w13 := HT2.out.trans (by obtain ⟨_, _, h, _⟩ := hS13; exact h.turn)
     have HTl := hid (tell_errno 8 w13 (HLd.out.turned0 hT13))
     have HS13 := hid hS13
     clear hS13 hT13 HNo
     go_wp2_with fail
     refine HTl.out.mono ?_
     rintro e w14 ⟨rfl, t14⟩
     have hS14 : Talk w2 a ByteArray.empty w14 := by
      obtain ⟨k1, C1, h1, h2, h3⟩ := HS13.out
      exact ⟨k1, C1, h1.still t14, h2, h3⟩
     have HC3 := hid (talk_close3 hS14)
     clear hS14 t14 HS13 HTl
     go_wp2_with fail
     refine HC3.out.mono ?_
     rintro e w15 ⟨rfl, hS15⟩
     have HLa := hid (talk_last hS15)
     clear hS15 HC3
     go_wp2_with fail
     refine HLa.out.mono ?_
     rintro e w16 ⟨rfl, q16, hS16⟩
     have HEx := hid (talk_exit hS16)
     clear hS16 HLa
     go_wp2_with fail
     refine HEx.out.mono ?_
     rintro e w17 ⟨rfl, k17, C17, hk17, hes⟩
     have hop := kopen_is hk17
     rw [hes] at hop
     have HOp := hid hop
     have HT17 := hid (HT2.out.trans hk17.turn)
     clear hk17 hes hop HEx
     go_wp2_with fail
     refine HOp.out.mono ?_
     rintro e w18 ⟨rfl, hw⟩; subst w18
     go_wp2_with fail
     go_returns
     exact ⟨rfl, HT17.out⟩
    ·have hlt : (H1.size : Int) < (H.size : Int) + q.size := by omega
     have hrd := talk_read hS.out hz 7 (by decide)
     obtain ⟨r, hr⟩ : ∃ r, min (7 : Int).toNat q1.size = r := ⟨_, rfl⟩
     have hr1 : 1 ≤ r ∧ r ≤ q1.size := by rw [← hr, show (7 : Int).toNat = 7 from rfl]; omega
     rw [hr] at hrd
     obtain ⟨s1, hs1⟩ : ∃ s1, q1.extract 0 r = s1 := ⟨_, rfl⟩
     obtain ⟨q2, hq2⟩ : ∃ q2, q1.extract r q1.size = q2 := ⟨_, rfl⟩
     have hs1s : s1.size = r := by rw [← hs1, ByteArray.size_extract]; omega
     have hq2s : q2.size = q1.size - r := by rw [← hq2, ByteArray.size_extract]; omega
     have hap2 : s1 ++ q2 = q1 := by
      rw [← hs1, ← hq2, ← ByteArray.extract_eq_extract_append_extract r (Nat.zero_le _) (by omega), ByteArray.extract_zero_size]
     rw [hs1, hq2] at hrd
     have HRd := hid hrd
     have HAp2 := hid hap2
     have hb1 : s1.toList.isEmpty = false := by rw [toList_empty]; exact decide_eq_false (by omega)
     clear hrd hs1 hq2 hap2 hr hap hS
     go_wp2_with fail
     refine HRd.out.mono ?_
     rintro e w13 ⟨rfl, hS13⟩
     have HS13 := hid hS13
     clear hS13 HRd
     go_wp2_with fail
     go_roundg (gk - 1)
     case measure => omega
     case rel => exact ⟨H1 ++ s1, q2, rfl, by rw [ByteArray.append_assoc, HAp2.out, HAp.out], by omega, by omega, by rw [ByteArray.size_append]; omega, HS13⟩
end
end Go.Proofs.YtamleilijmgoeaaGreatDoor
